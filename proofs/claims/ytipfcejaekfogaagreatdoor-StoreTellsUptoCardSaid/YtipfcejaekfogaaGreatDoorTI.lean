/- Texts that the last one leans on, 9. -/
import Derived.Test.YtipfcejaekfogaaGreatDoorTH
import Derived.Lib.TrimAscii
namespace Go.So
open Go Go.Ev
set_option maxRecDepth 100000
section
abbrev yJ:Type:=Int×(UInt8×(List UInt8×Unit))
abbrev wN:Type:=List UInt8×Int×Int×List yJ×Unit
abbrev Out:Type:=(Unit×Unit)⊕((Int×Unit)×Unit)
def chk1 (next:Int) (l:yJ) (last:Int):Int⊕Out :=
 if l.1<=last\/next<=l.1 then .inr (.inr ((4,()),())) else if 32<=l.2.1.toNat then .inr (.inr ((2,()),())) else if 600<l.2.2.1.length then .inr (.inr ((6,()),())) else .inl l.1
def chk (next:Int) (ls:List yJ):Out:=zk (chk1 next) (λ_=>.inl ((),())) 0 ls
def code:Out->Int
 | .inl _=>0
 | .inr q=>q.1.1
def xN (b:wN):Int :=
 if b.2.1<1\/4294967295<b.2.1\/b.2.2.1<1\/4294967295<b.2.2.1 then 2 else if 32<b.2.2.2.1.length then 8 else code (chk b.2.2.1 b.2.2.2.1)
theorem L71_eq (nm:List UInt8) (v n:Int) (ls:List yJ) (hl:ls.length<=32):L71_0 (((),(0:Int),ls,((ls.length:Nat):Int),(0:Int),()),((nm,v,n,ls,()),()))=some (chk n ls):=by
 have hF:=zR;refine yo (f:=B71_0) (λb i=>(((),b,ls,((ls.length:Nat):Int),(i:Int),()),((nm,v,n,ls,()),()))) ls (chk1 n) _ (λb i a hi ha=>?_) (λb=>?_) (by omega)
 ·have e1:((0:Int),((0:UInt8),(([]:(List UInt8)),())))=((0,0,[],()):yJ):=rfl;simp only [B71_0,yt,yj,hi,zd,Bool.and_true,zI,zE,yF,ha,chk1,yH (show i<9223372036854775807 by omega)];by_cases h1:a.1<=b\/n<=a.1
  ·simp only [h1,↓reduceIte];rcases h1 with h1 | h1 <;> simp [h1]
  ·simp only [h1,↓reduceIte];rw [not_or] at h1;by_cases h2:32<=a.2.1.toNat
   ·simp [h1,h2]
   ·by_cases h3:600<a.2.2.1.length
    ·have h3':(600:Int)<(a.2.2.1.length:Int):=by omega
     simp [h1,h2,h3,h3']
    ·have h3':¬ (600:Int)<(a.2.2.1.length:Int):=by omega
     simp [h1,h2,h3,h3']
 ·simp only [B71_0,Int.lt_irrefl,xA,zK]
theorem F71_eq (b:wN):F71 ((b,()),())=some (xN b,()):=by
 obtain ⟨nm,v,n,ls,u⟩:=b
 cases u;simp only [F71,F91,xN,zE];by_cases h1:v<1\/4294967295<v\/n<1\/4294967295<n
 ·simp only [h1,↓reduceIte];by_cases h2:1<=v/\v<=4294967295
  ·have:¬ (1<=n/\n<=4294967295):=by omega
   simp [h2,this,<- Bool.decide_and]
  ·simp [h2,<- Bool.decide_and]
 ·have h2:1<=v/\v<=4294967295/\1<=n/\n<=4294967295:=by omega
  simp only [h1,↓reduceIte];by_cases h3:32<ls.length
  ·have h3':(32:Int)<(ls.length:Int):=by omega
   simp [h2,h3,h3']
  ·have h3':¬ (32:Int)<(ls.length:Int):=by omega
   simp only [h2,h3,h3',L71_eq nm v n ls (by omega),zd,xA,Bool.and_true,yM,xf,zI,zK,zE,↓reduceIte]
   cases chk n ls <;> rfl
def size (ls:List yJ):Int:=zk (λ(l:yJ) n=>(.inl (zh (n+(l.2.2.1.length:Int))):Int⊕Int)) id 0 ls
theorem foldS_map {α β τ υ:Type} (g:τ->υ) {step:α->β->β⊕τ} {fin:β->τ}:∀ (ls:List α) (b:β),
  zk (λa b=>match step a b with | .inl c=>.inl c | .inr r=>.inr (g r)) (λb=>g (fin b)) b ls=g (zk step fin b ls)
 | [],_=>rfl
 | a::t,b=>by
  simp only [zk]
  cases step a b with
  | inl c=>exact foldS_map g t c
  | inr r=>rfl
theorem F72_eq (b:wN) (hl:b.2.2.2.1.length<=maxLen):F72 ((b,()),())=some (size b.2.2.2.1,()):=by
 obtain ⟨nm,v,n,ls,u⟩:=b;have hF:maxLen<xk:=by unfold maxLen xk;omega
 have hm:maxLen=9223372036854775807:=rfl;change ls.length<=maxLen at hl
 have h:L72_0 (((0:Int),ls,((ls.length:Nat):Int),(0:Int),()),())=some (zk (λ(l:yJ) n=>(.inl (zh (n+(l.2.2.1.length:Int))):Int⊕((Int×Unit)×Unit))) (λn=>((n,()),())) 0 ls) :=
  yo (f:=B72_0) (λb i=>((b,ls,((ls.length:Nat):Int),(i:Int),()),())) ls _ _ (λb i a hi ha=>by
   simp only [B72_0,yt,yj,hi,zd,Bool.and_true,zI,zE,yF,ha,yH (show i<9223372036854775807 by omega)])
   (λb=>by simp only [B72_0,Int.lt_irrefl,xA,zK]) (by omega)
 have e:=foldS_map (λn:Int=>((n,()),())) (step:=λ(l:yJ) n=>(.inl (zh (n+(l.2.2.1.length:Int))):Int⊕Int)) (fin:=id) ls 0;simp only [id_eq] at e;rw [e] at h;simp only [F72,h,zE,size]
end
section
theorem zl {n k:Nat} (h:n*k<=140737488355328):zH n k=true:=zm h
theorem F53_eq (l:List UInt8) (h:l.length<=600):F53 ((l,()),())=some ((),(l,())):=by
 have hb:zH (0+l.length) 1=true:=zl (by omega)
 cases l with
 | nil=>simp only [F53,List.isEmpty_nil,zI,hb,List.append_nil,yd]
 | cons a t=>simp only [F53,List.isEmpty_cons,zK,hb,zI,List.nil_append]
theorem F52_eq (l:List yJ) (h:l.length<=32):F52 ((l,()),())=some ((),(l,())):=by
 have hb:zH (([]:List yJ).length+l.length) 40=true:=zl (by simp only [List.length_nil];omega)
 cases l with
 | nil=>simp only [F52,List.isEmpty_nil,zI,hb,List.append_nil,yd]
 | cons a t=>simp only [F52,List.isEmpty_cons,zK,hb,zI,List.nil_append]
theorem set_same {α:Type}:∀ (l:List α) (i:Nat) (a:α),(∀ d,l.getD i d=a)->l.set i a=l
 | [],_,_,_=>rfl
 | x::t,0,a,h=>by rw [<- h a];rfl
 | x::t,i+1,a,h=>by
  rw [List.set_cons_succ,set_same t i a (λd=>by simpa using h d)]
theorem wX {α τ:Type} (r:τ):∀ (l:List α),zk (λ_ (_:Unit)=>(.inl ():Unit⊕τ)) (λ_=>r) () l=r
 | []=>rfl
 | _::t=>wX r t
theorem L137_eq (nm:List UInt8) (v n:Int) (ls ks:List yJ) (hl:ls.length<=32) (hb:∀ l∈ls,l.2.2.1.length<=600) :
  L137_0 (((),(),((ls.length:Nat):Int),(0:Int),()),((nm,v,n,(),()),((),(),(),(),()),ls,ks,()))=some (((),(),()),((nm,v,n,(),()),((),(),(),(),()),ls,ks,())):=by
 have hF:=zR
 have h:=yo (f:=B137_0) (λ(_:Unit) i=>(((),(),((ls.length:Nat):Int),(i:Int),()),((nm,v,n,(),()),((),(),(),(),()),ls,ks,()))) ls (λ_ _=>.inl ())
  (λ_=>(((),(),()),((nm,v,n,(),()),((),(),(),(),()),ls,ks,()))) (b:=()) (λb i a hi ha=>?_) (λb=>?_) (by omega)
 ·rw [wX] at h;exact h
 ·have hm:a∈ls:=by
   rw [<- ha (0,0,[],()),wQ,List.getElem?_eq_getElem hi];exact List.getElem_mem hi
  simp only [B137_0,yt,yj,hi,zd,Bool.and_true,zI,zE,yF,ha,F53_eq _ (hb a hm),yH (show i<9223372036854775807 by omega)];rw [set_same ls i (a.1,a.2.1,a.2.2.1,()) (λd=>by rw [ha])]
 ·simp only [B137_0,Int.lt_irrefl,xA,zK]
theorem F137_eq (b:wN) (hl:b.2.2.2.1.length<=32) (hb:∀ l∈b.2.2.2.1,l.2.2.1.length<=600):F137 ((b,()),())=some ((b.1,b.2.1,b.2.2.1,(),()),(b.2.2.2.1,())):=by
 obtain ⟨nm,v,n,ls,u⟩:=b
 cases u;simp only [F137,F52_eq ls hl,zE,L137_eq nm v n ls [] hl hb]
theorem chk_zero {n:Int}:∀ {ls:List yJ} {last:Int},code (zk (chk1 n) (λ_=>.inl ((),())) last ls)=0->∀ l∈ls,last<l.1/\l.1<n/\l.2.1.toNat<32/\l.2.2.1.length<=600
 | [],_,_,_,hm=>absurd hm (List.not_mem_nil)
 | a::t,last,h,l,hm=>by
  simp only [zk,chk1] at h;by_cases h1:a.1<=last\/n<=a.1
  ·simp [h1,code] at h
  ·by_cases h2:32<=a.2.1.toNat
   ·simp [h1,h2,code] at h
   ·by_cases h3:600<a.2.2.1.length
    ·simp [h1,h2,h3,code] at h
    ·simp only [h1,h2,h3,↓reduceIte] at h;rcases List.mem_cons.mp hm with rfl | hm
     ·exact ⟨by omega,by omega,by omega,by omega⟩
     ·have:=chk_zero h l hm
      exact ⟨by omega,this.2.1,this.2.2.1,this.2.2.2⟩
theorem chk_rise {n:Int}:∀ {ls:List yJ} {last:Int},code (zk (chk1 n) (λ_=>.inl ((),())) last ls)=0->ls.Pairwise (λa b=>a.1<b.1)
 | [],_,_=>List.Pairwise.nil
 | a::t,last,h=>by
  simp only [zk,chk1] at h;by_cases h1:a.1<=last\/n<=a.1
  ·simp [h1,code] at h
  ·by_cases h2:32<=a.2.1.toNat
   ·simp [h1,h2,code] at h
   ·by_cases h3:600<a.2.2.1.length
    ·simp [h1,h2,h3,code] at h
    ·simp only [h1,h2,h3,↓reduceIte] at h;exact List.Pairwise.cons (λl hl=>(chk_zero h l hl).1) (chk_rise h)
structure Right (b:wN):Prop where
 valid:1<=b.2.1/\b.2.1<=4294967295
 next:1<=b.2.2.1/\b.2.2.1<=4294967295
 few:b.2.2.2.1.length<=32
 each:∀ l∈b.2.2.2.1,0<l.1/\l.1<b.2.2.1/\l.2.1.toNat<32/\l.2.2.1.length<=600
 rise:b.2.2.2.1.Pairwise (λa b=>a.1<b.1)
theorem chk_of {n:Int}:∀ {ls:List yJ} {last:Int},ls.Pairwise (λa b=>a.1<b.1)->(∀ l∈ls,last<l.1/\l.1<n/\l.2.1.toNat<32/\l.2.2.1.length<=600)->code (zk (chk1 n) (λ_=>.inl ((),())) last ls)=0
 | [],_,_,_=>rfl
 | a::t,last,hp,h=>by
  have ha:=h a (List.mem_cons_self ..);obtain ⟨hp1,hp2⟩:=List.pairwise_cons.mp hp;have h1:¬ (a.1<=last\/n<=a.1):=by omega
  have h2:¬ 32<=a.2.1.toNat:=by omega
  have h3:¬ 600<a.2.2.1.length:=by omega
  simp only [zk,chk1,h1,h2,h3,↓reduceIte];exact chk_of hp2 (λl hl=>⟨hp1 l hl,(h l (List.mem_cons_of_mem _ hl)).2⟩)
theorem check_zero {b:wN}:xN b=0<->Right b:=by
 constructor
 ·intro h;unfold xN at h;by_cases h1:b.2.1<1\/4294967295<b.2.1\/b.2.2.1<1\/4294967295<b.2.2.1
  ·rw [if_pos h1] at h;cases h
  ·rw [if_neg h1] at h;by_cases h2:32<b.2.2.2.1.length
   ·rw [if_pos h2] at h;cases h
   ·rw [if_neg h2] at h;exact ⟨by omega,by omega,by omega,chk_zero h,chk_rise h⟩
 ·intro h
  have:=h.valid
  have:=h.next
  have:=h.few
  unfold xN;rw [if_neg (by omega),if_neg (by omega)];exact chk_of h.rise h.each
def yO:wN:=([],0,0,[],())
def add (b:wN) (f:UInt8) (p:List UInt8):wN×Int×Int×Unit :=
 if xN b≠0 then (yO,0,xN b,())
 else if 32<=f.toNat then (yO,0,2,())
 else if 600<p.length then (yO,0,6,())
 else if b.2.2.2.1.length=32\/b.2.2.1=4294967295 then (yO,0,8,())
 else ((b.1,b.2.1,b.2.2.1+1,b.2.2.2.1++[(b.2.2.1,f,p,())],()),b.2.2.1,0,())
theorem F105_eq (b:wN) (f:UInt8) (p:List UInt8):F105 ((b,f,p,()),())=some (add b f p,()):=by
 have e16:=F71_eq b;have e24:=F137_eq b;have ez:=check_zero (b:=b);obtain ⟨nm,v,n,ls,u⟩:=b
 cases u;unfold add;simp only [F105,e16,zE];generalize hc:xN (nm,v,n,ls,())=c at *;by_cases h0:c=0
 ·have R:=ez.mp h0;have hr:=R.few;have hn:=R.next;simp only at hr hn;simp only [h0,ne_eq,not_true_eq_false,↓reduceIte,zd,yM,zK];by_cases h1:32<=f.toNat
  ·simp [h1,yO]
  ·by_cases h2:600<p.length
   ·have h2':(600:Int)<(p.length:Int):=by omega
    simp [h1,h2,h2',yO]
   ·have h2':¬ (600:Int)<(p.length:Int):=by omega
    by_cases h3:ls.length=32\/n=4294967295
    ·have h3':(decide (((ls.length:Nat):Int)=32)||decide (n=4294967295))=true:=by
      simp only [Bool.or_eq_true,xX];omega
     simp [h1,h2,h2',h3,h3',yO]
    ·have h3':(decide (((ls.length:Nat):Int)=32)||decide (n=4294967295))=false:=by
      simp only [Bool.or_eq_false_iff,decide_eq_false_iff_not];omega
     have hb:zH (ls.length+1) 40=true:=zl (by omega)
     simp only [show UInt8.toNat 32=32 from rfl,h1,h2,h2',h3,h3',xA,zd,zK,zE,yM,↓reduceIte,e24 hr (λl hl=>(R.each l hl).2.2.2),F53_eq p (by omega),List.length_cons,List.length_nil,Nat.zero_add,hb,zI,
      zV (n:=n+1) (by omega) (by omega)]
 ·simp [h0,yO]
end
section
theorem add_len (b:wN) (f:UInt8) (p:List UInt8):(add b f p).1.2.2.2.1.length<=32:=by
 unfold add;by_cases h0:xN b=0
 ·have R:=check_zero.mp h0
  have:=R.few
  rw [if_neg (not_not_intro h0)];split
  ·exact Nat.zero_le _
  ·split
   ·exact Nat.zero_le _
   ·split
    ·exact Nat.zero_le _
    ·rename_i h;simp only [xe,List.length_cons,List.length_nil];omega
 ·rw [if_pos h0];exact Nat.zero_le _
end
section
def cmp3 (a b:Int):Int:=if a<b then -1 else if b<a then 1 else 0
theorem F173_eq (a:Int):F173 ((a,()),())=some (false,()):=by
 simp only [F173,zd,yM]
theorem F163_eq (_u _f:Int×Unit) (l:yJ) (uid:Int):F163 (((l.1,l.2.1,l.2.2.1,()),uid,()),())=some (cmp3 l.1 uid,()):=by
 simp only [F163,F164,F173_eq,zE,zK,cmp3];by_cases h1:l.1<uid
 ·simp [h1]
 ·by_cases h2:uid<l.1
  ·simp [h1,h2]
  ·simp [h1,h2]
theorem mid {lo hi:Nat} (h:lo+hi<1000):zh (Int.fdiv (IntKind.wrap .u64 (zh ((lo:Int)+(hi:Int)))) (2^1))=(((lo+hi)/2:Nat):Int):=by
 rw [zV (n:=(lo:Int)+hi) (by omega) (by omega)]
 have e:IntKind.wrap .u64 ((lo:Int)+(hi:Int))=((lo+hi:Nat):Int):=by
  unfold IntKind.wrap;simp only [IntKind.bits,IntKind.signed];simp;omega
 rw [e]
 have e2:Int.fdiv ((lo+hi:Nat):Int) (2^1)=(((lo+hi)/2:Nat):Int):=by
  rw [Int.fdiv_eq_ediv_of_nonneg _ (by decide)];omega
 rw [e2];exact zV (by omega) (by omega)
theorem getD_lt {ls:List yJ} (h:ls.Pairwise (λa b=>a.1<b.1)) {i j:Nat} (hij:i<j) (hj:j<ls.length) (d:yJ):(ls.getD i d).1<(ls.getD j d).1:=by
 have:=List.pairwise_iff_getElem.mp h i j (by omega) hj hij
 rw [wQ,wQ,List.getElem?_eq_getElem hj,List.getElem?_eq_getElem (show i<ls.length by omega)];exact this
abbrev t7:yJ:=(0,0,[],())
theorem L162_eq (ls:List yJ) (uid:Int) (hl:ls.length<=32) (hr:ls.Pairwise (λa b=>a.1<b.1)) :
  ∃ lo:Nat,sW ((ls,uid,(),((ls.length:Nat):Int),(0:Int),((ls.length:Nat):Int),()),())=some ((ls,uid,(),((ls.length:Nat):Int),(lo:Int),()),())/\lo<=ls.length/\(∀ k,k<lo->(ls.getD k t7).1<uid)/\(∀ k,lo<=k->k<ls.length->uid<=(ls.getD k t7).1):=by
 have hF:=zR
 have h:=z6 (f:=vM) (p:=((ls,uid,(),((ls.length:Nat):Int),(0:Int),((ls.length:Nat):Int),()),()))
  (λp=>∃ lo hi:Nat,p=((ls,uid,(),((ls.length:Nat):Int),(lo:Int),(hi:Int),()),())/\lo<=hi/\hi<=ls.length/\(∀ k,k<lo->(ls.getD k t7).1<uid)/\(∀ k,hi<=k->k<ls.length->uid<=(ls.getD k t7).1))
  (λp=>(p.1.2.2.2.2.2.1-p.1.2.2.2.2.1).toNat)
  (λr=>∃ lo:Nat,r=((ls,uid,(),((ls.length:Nat):Int),(lo:Int),()),())/\lo<=ls.length/\(∀ k,k<lo->(ls.getD k t7).1<uid)/\(∀ k,lo<=k->k<ls.length->uid<=(ls.getD k t7).1))
  (λp hp=>by
   obtain ⟨lo,hi,rfl,h1,h2,h3,h4⟩:=hp;by_cases hlt:lo<hi
   ·left;have hm1:lo<=(lo+hi)/2:=by omega
    have hm2:(lo+hi)/2<hi:=by omega
    have hm3:(lo+hi)/2<ls.length:=by omega
    have hg:=F163_eq (0,()) (0,()) (ls.getD ((lo+hi)/2) t7) uid
    have hh:vM ((ls,uid,(),((ls.length:Nat):Int),(lo:Int),(hi:Int),()),())=some (.inl (if (ls.getD ((lo+hi)/2) t7).1<uid then ((ls,uid,(),((ls.length:Nat):Int),(((lo+hi)/2+1:Nat):Int),(hi:Int),()),()) else ((ls,uid,(),((ls.length:Nat):Int),(lo:Int),(((lo+hi)/2:Nat):Int),()),()))):=by
     simp only [vM,yt,yj,hlt,zd,zI,zE,mid (show lo+hi<1000 by omega),hm3,Bool.and_true,yF];rw [hg];simp only [zE,cmp3];by_cases hc:(ls.getD ((lo+hi)/2) t7).1<uid
     ·simp only [hc,↓reduceIte,yH (show (lo+hi)/2<9223372036854775807 by omega)];rfl
     ·simp only [hc,↓reduceIte];by_cases hc2:uid<(ls.getD ((lo+hi)/2) t7).1
      ·simp only [hc2,↓reduceIte];rfl
      ·simp only [hc2,↓reduceIte];rfl
    by_cases hc:(ls.getD ((lo+hi)/2) t7).1<uid
    ·rw [if_pos hc] at hh;refine ⟨_,hh,⟨_,hi,rfl,by omega,h2,λk hk=>?_,h4⟩,by simp only;omega⟩;rcases Nat.lt_or_ge k ((lo+hi)/2) with hk2 | hk2
     ·have:=getD_lt hr hk2 hm3 t7
      omega
     ·obtain rfl:k=(lo+hi)/2:=by omega
      exact hc
    ·rw [if_neg hc] at hh;refine ⟨_,hh,⟨lo,_,rfl,hm1,by omega,h3,λk hk hk3=>?_⟩,by simp only;omega⟩;rcases Nat.lt_or_ge ((lo+hi)/2) k with hk2 | hk2
     ·have:=getD_lt hr hk2 hk3 t7
      omega
     ·obtain rfl:k=(lo+hi)/2:=by omega
      omega
   ·right;obtain rfl:lo=hi:=by omega
    refine ⟨((ls,uid,(),((ls.length:Nat):Int),(lo:Int),()),()),?_,lo,rfl,h2,h3,h4⟩
    simp only [vM,Int.lt_irrefl,xA,zK])
  ⟨0,ls.length,rfl,Nat.zero_le _,Nat.le_refl _,λk h=>absurd h (Nat.not_lt_zero _),λk h h'=>by omega⟩ (by simp only;omega)
 obtain ⟨r,h1,lo,rfl,h2⟩:=h;exact ⟨lo,h1,h2⟩
def has (ls:List yJ) (uid:Int):Bool:=ls.any λl=>decide (l.1=uid)
theorem F138_eq (b:wN) (uid:Int) (hl:b.2.2.2.1.length<=32) (hr:b.2.2.2.1.Pairwise (λa b=>a.1<b.1)) :
  ∃ i:Nat,F138 ((b,uid,()),())=some (((i:Int),has b.2.2.2.1 uid,()),())/\(has b.2.2.2.1 uid=true->i<b.2.2.2.1.length/\(b.2.2.2.1.getD i t7).1=uid):=by
 obtain ⟨nm,v,n,ls,u⟩:=b;obtain ⟨lo,h1,h2,h3,h4⟩:=L162_eq ls uid hl hr;change ls.length<=32 at hl;change ls.Pairwise (λa b=>a.1<b.1) at hr;refine ⟨lo,?_,?_⟩
 ·simp only [F138,F162c163,h1,zE,yt,yj,Bool.true_and,yF];by_cases hlo:lo<ls.length
  ·have hg:=F163_eq (0,()) (0,()) (ls.getD lo t7) uid;simp only [hlo,zd,Bool.true_or,zI];rw [hg];simp only [zE]
   have e:decide (cmp3 (ls.getD lo t7).1 uid=0)=has ls uid:=by
    rw [Bool.eq_iff_iff,xX];unfold has;rw [List.any_eq_true];constructor
    ·intro hc;refine ⟨ls.getD lo t7,?_,?_⟩
     ·rw [wQ,List.getElem?_eq_getElem hlo];exact List.getElem_mem hlo
     ·have:=h4 lo (Nat.le_refl _) hlo
      unfold cmp3 at hc;rw [xX];split at hc
      ·omega
      ·split at hc
       ·omega
       ·omega
    ·rintro ⟨l,hm,he⟩;rw [xX] at he;obtain ⟨k,hk,rfl⟩:=List.getElem_of_mem hm
     have e1:(ls.getD k t7).1=uid:=by
      rw [wQ,List.getElem?_eq_getElem hk];exact he
     rcases Nat.lt_trichotomy k lo with h | h | h
     ·have:=h3 k h;omega
     ·subst h;unfold cmp3;rw [if_neg (by omega),if_neg (by omega)]
     ·have:=getD_lt hr h hk t7
      have:=h4 lo (Nat.le_refl _) hlo
      omega
   rw [e]
  ·have e:has ls uid=false:=by
    unfold has;rw [List.any_eq_false];intro l hm;rw [xX];obtain ⟨k,hk,rfl⟩:=List.getElem_of_mem hm
    have e1:(ls.getD k t7).1=(ls[k]).1:=by
     rw [wQ,List.getElem?_eq_getElem hk];rfl
    have:=h3 k (by omega)
    omega
   simp only [hlo,xA,xf,Bool.or_true,zI,zK,e,zE]
 ·intro hh;change has ls uid=true at hh;unfold has at hh;rw [List.any_eq_true] at hh;obtain ⟨l,hm,he⟩:=hh;rw [xX] at he;obtain ⟨k,hk,rfl⟩:=List.getElem_of_mem hm
  have e1:(ls.getD k t7).1=uid:=by
   rw [wQ,List.getElem?_eq_getElem hk];exact he
  change lo<ls.length/\(ls.getD lo t7).1=uid;rcases Nat.lt_trichotomy k lo with h | h | h
  ·have:=h3 k h;omega
  ·subst h;exact ⟨hk,e1⟩
  ·have:=getD_lt hr h hk t7
   have:=h4 lo (Nat.le_refl _) (by omega)
   omega
end
section
def keep (uid:Int) (l:yJ):Bool:=!decide (l.1=uid)
theorem F140_eq (l:yJ) (uid:Int):F140 (((l.1,l.2.1,l.2.2.1,()),(),()),((uid,()),()))=some (decide (l.1=uid),((uid,()),())):=rfl
abbrev R48:Type:=(((Unit×Unit)×Unit)×((Int×Unit)×Unit))⊕(((Unit×Unit)×Int×Unit)×((Int×Unit)×Unit))
def stp48 (uid:Int) (a:yJ) (b:Nat):Nat⊕R48:=if a.1=uid then .inr (.inr ((((),()),(b:Int),()),((uid,()),()))) else .inl (b+1)
theorem L165_eq (ls:List yJ) (uid:Int) (hl:ls.length<=32):sV ((ls,((),()),((ls.length:Nat):Int),(0:Int),()),((uid,()),()))=some (zk (stp48 uid) (λ_=>.inl ((((),()),()),((uid,()),()))) 0 ls):=by
 have hF:=zR
 refine yC (f:=uc) (λ(_:Nat) i=>((ls,((),()),((ls.length:Nat):Int),(i:Int),()),((uid,()),()))) ls (stp48 uid) _ (λb i=>b=i)
  (λb i a hI hi ha=>?_) (λb _=>?_) (by omega) rfl
 ·subst hI;have hg:=F140_eq a uid;simp only [uc,yt,yj,hi,zd,Bool.and_true,zI,yF,ha];rw [hg];simp only [zE,stp48];by_cases h:a.1=uid
  ·simp only [h,↓reduceIte,zd,zI];exact .inr ⟨_,rfl,rfl⟩
  ·simp only [h,↓reduceIte,xA,zK,yH (show b<9223372036854775807 by omega)];exact .inl ⟨_,rfl,rfl,trivial⟩
 ·simp only [uc,Int.lt_irrefl,xA,zK]
theorem fold48 (uid:Int) (z:R48):∀ (ls:List yJ) (b:Nat),has ls uid=true ->
  ∃ k,zk (stp48 uid) (λ_=>z) b ls=.inr ((((),()),((b+k:Nat):Int),()),((uid,()),()))/\k<ls.length/\(ls.take (k+1)).filter (keep uid)=ls.take k
 | [],_,h=>by cases h
 | a::t,b,h=>by
  by_cases ha:a.1=uid
  ·refine ⟨0,?_,?_,?_⟩
   ·simp only [zk,stp48,ha,↓reduceIte];rfl
   ·simp
   ·simp [keep,ha]
  ·have ht:has t uid=true:=by
    simpa [has,ha] using h
   obtain ⟨k,h1,h2,h3⟩:=fold48 uid z t (b+1) ht;refine ⟨k+1,?_,?_,?_⟩
   ·simp only [zk,stp48,ha,↓reduceIte];rw [show b+(k+1)=b+1+k by omega];exact h1
   ·simp only [List.length_cons];omega
   ·rw [List.take_succ_cons,List.filter_cons_of_pos (by simp [keep,ha]),h3,List.take_succ_cons]
theorem getD_of_drop {α:Type} {M ls:List α} {j:Nat} (h:M.drop j=ls.drop j) (d:α):M.getD j d=ls.getD j d:=by
 have e:(M.drop j)[0]?=(ls.drop j)[0]?:=by rw [h]
 rw [List.getElem?_drop,List.getElem?_drop,Nat.add_zero] at e;rw [wQ,wQ,e]
theorem L139_eq (ls:List yJ) (uid:Int) (hl:ls.length<=32) (k:Nat) (hk:k<ls.length) (hf:(ls.take (k+1)).filter (keep uid)=ls.take k) :
  ∃ (i:Nat) (M:List yJ),sX (((),((),()),(k:Int),((k+1:Nat):Int),()),(ls,(uid,()),()))=some (((),((),()),(i:Int),()),(M,(uid,()),()))/\i<=M.length/\M.length=ls.length/\M.take i=ls.filter (keep uid):=by
 have hF:=zR
 have h:=z6 (f:=vN) (p:=(((),((),()),(k:Int),((k+1:Nat):Int),()),(ls,(uid,()),())))
  (λp=>∃ (i j:Nat) (M:List yJ),p=(((),((),()),(i:Int),(j:Int),()),(M,(uid,()),()))/\i<j/\j<=ls.length/\M.length=ls.length/\M.take i=(ls.take j).filter (keep uid)/\M.drop j=ls.drop j)
  (λp=>((ls.length:Int)-p.1.2.2.2.1).toNat)
  (λr=>∃ (i:Nat) (M:List yJ),r=(((),((),()),(i:Int),()),(M,(uid,()),()))/\i<=M.length/\M.length=ls.length/\M.take i=ls.filter (keep uid))
  (λp hp=>by
   obtain ⟨i,j,M,rfl,h1,h2,h3,h4,h5⟩:=hp;by_cases hj:j<ls.length
   ·left;have hjM:j<M.length:=by omega
    have hiM:i<M.length:=by omega
    have hx:=getD_of_drop h5 t7;have hxe:ls.getD j t7=ls[j]:=by rw [wQ,List.getElem?_eq_getElem hj];rfl
    have ht:(ls.take (j+1)).filter (keep uid)=(ls.take j).filter (keep uid)++[ls.getD j t7].filter (keep uid):=by
     rw [List.take_succ_eq_append_getElem hj,List.filter_append,hxe]
    have hd:M.drop (j+1)=ls.drop (j+1):=by
     rw [<- List.drop_drop,<- List.drop_drop,h5]
    have hg:=F140_eq (ls.getD j t7) uid;by_cases hc:(ls.getD j t7).1=uid
    ·refine ⟨_,?_,⟨i,j+1,M,rfl,by omega,by omega,h3,?_,hd⟩,by simp only;omega⟩
     ·simp only [vN,yt,yj,hjM,zd,Bool.and_true,zI,zE,yF,hx];rw [hg];simp only [hc,zd,yM,zK,zE,yH (show j<9223372036854775807 by omega)]
     ·rw [ht,h4];simp only [List.filter_cons,keep,hc,zd,yM,Bool.false_eq_true,↓reduceIte,List.filter_nil,List.append_nil]
    ·refine ⟨_,?_,⟨i+1,j+1,M.set i (ls.getD j t7),rfl,by omega,by omega,by rw [List.length_set];exact h3,?_,?_⟩,by simp only;omega⟩
     ·simp only [vN,yt,yj,hjM,zd,Bool.and_true,zI,zE,yF,hx];rw [hg];simp only [hc,xA,xf,zI,zE,yj,yt,hiM,zd,Bool.and_true,yF,yH (show j<9223372036854775807 by omega),yH (show i<9223372036854775807 by omega)]
     ·have hiS:i<(M.set i (ls.getD j t7)).length:=by rw [List.length_set];exact hiM
      rw [ht,<- h4,List.take_succ_eq_append_getElem hiS,List.take_set_of_le (Nat.le_refl _),List.getElem_set_self];simp only [List.filter_cons,keep,hc,xA,xf,↓reduceIte,List.filter_nil]
     ·rw [List.drop_set_of_lt (by omega)];exact hd
   ·right;obtain rfl:j=ls.length:=by omega
    refine ⟨(((),((),()),(i:Int),()),(M,(uid,()),())),?_,i,M,rfl,by omega,h3,?_⟩
    ·simp only [vN,h3,Int.lt_irrefl,xA,zK]
    ·rw [h4,List.take_length])
  ⟨k,k+1,ls,rfl,by omega,by omega,rfl,hf.symm,rfl⟩ (by simp only;omega)
 obtain ⟨r,h1,i,M,rfl,h2⟩:=h;exact ⟨i,M,h1,h2⟩
theorem F139_eq (ls:List yJ) (uid:Int) (hl:ls.length<=32) (hh:has ls uid=true) :
  F139c140 (((),((),()),()),(ls,(uid,()),()))=some (ls.filter (keep uid),((uid,()),())):=by
 obtain ⟨k,h1,h2,h3⟩:=fold48 uid (.inl ((((),()),()),((uid,()),()))) ls 0 hh;obtain ⟨i,M,h4,h5,h6,h7⟩:=L139_eq ls uid hl k h2 h3;rw [Nat.zero_add] at h1
 have e48:F165c140 ((ls,((),()),()),((uid,()),()))=some ((k:Int),((uid,()),())):=by
  simp only [F165c140,L165_eq ls uid hl,h1,zE]
 have hk:¬ ((k:Int)=-1):=by omega
 have hi:(i:Int)<=(M.length:Int):=by omega
 have hlt:(List.take i M).length=i:=by rw [xG];omega
 have hi2:(i:Int)<=((List.take i M++List.replicate (M.length-i) ((0:Int),((0:UInt8),(([]:(List UInt8)),())))++List.drop (i+(M.length-i)) M).length:Int):=by
  simp only [xe,hlt,List.length_replicate];omega
 simp only [F139c140,e48,zE,hk,xA,zK,yH (show k<9223372036854775807 by omega),h4,yj,hi,zd,Bool.and_true,Int.le_refl,zI,yF,hi2];rw [lAs,List.take_left' hlt,h7]
def cut (b:wN) (uid:Int):wN×Int×Unit :=
 if xN b≠0 then (yO,xN b,())
 else if has b.2.2.2.1 uid then ((b.1,b.2.1,b.2.2.1,b.2.2.2.1.filter (keep uid),()),0,())
 else (yO,9,())
theorem F107_eq (b:wN) (uid:Int):F107 ((b,uid,()),())=some (cut b uid,()):=by
 have e16:=F71_eq b;have e24:=F137_eq b;have e34:=F138_eq b uid;have ez:=check_zero (b:=b);obtain ⟨nm,v,n,ls,u⟩:=b
 cases u;unfold cut;simp only [F107,e16,zE];generalize hc:xN (nm,v,n,ls,())=c at *;by_cases h0:c=0
 ·have R:=ez.mp h0;obtain ⟨i,h1,h2⟩:=e34 R.few R.rise;simp only at h1 h2;simp only [h0,ne_eq,not_true_eq_false,↓reduceIte,zd,yM,zK,h1,zE]
  cases hh:has ls uid
  ·simp [yO]
  ·simp only [yM,zK,e24 R.few (λl hl=>(R.each l hl).2.2.2),zE,F139_eq ls uid R.few hh,↓reduceIte]
 ·simp [h0,yO]
def lay (how:Int) (was f:UInt8):UInt8:=if how=0 then f else if how=1 then was ||| f else was &&& ~~~f
def stpB (how:Int) (was f:UInt8) (bit is:UInt8):UInt8 :=
 if (decide (how=0)&&decide (f/bit % 2=1)||decide (how=1)&&(decide (was/bit % 2=1)||decide (f/bit % 2=1))||decide (how=2)&&decide (was/bit % 2=1)&&!decide (f/bit % 2=1)) then is+bit else is
def bits (how:Int) (was f:UInt8):UInt8:=stpB how was f 16 (stpB how was f 8 (stpB how was f 4 (stpB how was f 2 (stpB how was f 1 0))))
def relay (uid how:Int) (f:UInt8) (a:yJ):yJ:=if a.1=uid then (a.1,lay how a.2.1 f,a.2.2.1,()) else a
def flag (b:wN) (uid how:Int) (f:UInt8):wN×Int×Unit :=
 if xN b≠0 then (yO,xN b,())
 else if how<0\/2<how\/32<=f.toNat then (yO,2,())
 else if has b.2.2.2.1 uid then ((b.1,b.2.1,b.2.2.1,b.2.2.2.1.map (relay uid how f),()),0,())
 else (yO,9,())
theorem rise_inj {ls:List yJ} (h:ls.Pairwise (λa b=>a.1<b.1)) {i j:Nat} (hi:i<ls.length) (hj:j<ls.length) (he:ls[i].1=ls[j].1):i=j:=by
 rcases Nat.lt_trichotomy i j with h' | h' | h'
 ·have:=List.pairwise_iff_getElem.mp h i j hi hj h';omega
 ·exact h'
 ·have:=List.pairwise_iff_getElem.mp h j i hj hi h';omega
theorem set_map {ls:List yJ} (h:ls.Pairwise (λa b=>a.1<b.1)) {uid:Int} {i:Nat} (hi:i<ls.length) (he:(ls.getD i t7).1=uid) (g:yJ->yJ) :
  ls.set i (g (ls.getD i t7))=ls.map λa=>if a.1=uid then g a else a:=by
 have e:ls.getD i t7=ls[i]:=by rw [wQ,List.getElem?_eq_getElem hi];rfl
 rw [e] at he ⊢;refine List.ext_getElem (by simp) λk hk1 hk2=>?_
 rw [List.length_set] at hk1;rw [List.getElem_set,List.getElem_map];by_cases hk:i=k
 ·subst hk;simp [he]
 ·have:¬ (ls[k].1=uid):=λhq=>hk (rise_inj h hi hk1 (by rw [he,hq]))
  simp [hk,this]
theorem F106_eq (b:wN) (uid how:Int) (f:UInt8):F106 ((b,uid,how,f,()),())=some (flag b uid how f,()):=by
 have e16:=F71_eq b;have e24:=F137_eq b;have e34:=F138_eq b uid;have ez:=check_zero (b:=b);obtain ⟨nm,v,n,ls,u⟩:=b
 cases u;unfold flag;simp only [F106,e16,zE];generalize hc:xN (nm,v,n,ls,())=c at *;by_cases h0:c=0
 ·have R:=ez.mp h0;obtain ⟨i,h1,h2⟩:=e34 R.few R.rise;simp only at h1 h2;simp only [h0,ne_eq,not_true_eq_false,↓reduceIte,zd,yM,zK,h1,zE];by_cases hb:how<0\/2<how\/32<=f.toNat
  ·have e:(decide (how<0)||decide (2<how)||decide (UInt8.toNat 32<=f.toNat))=true:=by
    simp only [Bool.or_eq_true,xX,show UInt8.toNat 32=32 from rfl];omega
   simp only [e,zI,hb,↓reduceIte,yO]
  ·have e:(decide (how<0)||decide (2<how)||decide (UInt8.toNat 32<=f.toNat))=false:=by
    simp only [Bool.or_eq_false_iff,decide_eq_false_iff_not,show UInt8.toNat 32=32 from rfl];omega
   simp only [e,zK,hb,↓reduceIte]
   cases hh:has ls uid
   ·simp [yO]
   ·obtain ⟨hi,he⟩:=h2 hh;have s:=set_map R.rise hi he (λa=>(a.1,lay how a.2.1 f,a.2.2.1,()));have hm:(λa:yJ=>if a.1=uid then (a.1,lay how a.2.1 f,a.2.2.1,()) else a)=relay uid how f:=rfl;rw [hm] at s;simp only at s;rw [<- s];simp only [yM,zK,e24 R.few (λl hl=>(R.each l hl).2.2.2),zE,yj,yt,hi,zd,Bool.and_true,zI,yF,↓reduceIte];obtain rfl | rfl | rfl:how=0\/how=1\/how=2:=by omega
    ·rfl
    ·rfl
    ·rfl
 ·simp [h0,yO]
theorem flag_len (b:wN) (uid how:Int) (f:UInt8):(flag b uid how f).1.2.2.2.1.length<=32:=by
 unfold flag;split
 ·exact Nat.zero_le _
 ·rename_i h0;have R:=check_zero.mp (Classical.not_not.mp h0)
  have:=R.few
  split
  ·exact Nat.zero_le _
  ·split
   ·simp only [List.length_map];exact this
   ·exact Nat.zero_le _
theorem cut_len (b:wN) (uid:Int):(cut b uid).1.2.2.2.1.length<=32:=by
 unfold cut;split
 ·exact Nat.zero_le _
 ·rename_i h0;have R:=check_zero.mp (Classical.not_not.mp h0)
  have:=R.few
  split
  ·exact Nat.le_trans (List.length_filter_le _ _) this
  ·exact Nat.zero_le _
end
section
def laid (b:wN) (uid how:Int) (f:UInt8):wN:=(b.1,b.2.1,b.2.2.1,b.2.2.2.1.map (relay uid how f),())
theorem flag_good {b:wN} {uid how:Int} {f:UInt8} (h:(flag b uid how f).2.1=0):Right b/\0<=how/\how<=2/\f.toNat<32/\has b.2.2.2.1 uid=true/\flag b uid how f=(laid b uid how f,0,()):=by
 unfold flag at *;by_cases h1:xN b≠0
 ·rw [if_pos h1] at h;exact absurd h h1
 ·rw [if_neg h1] at h ⊢;by_cases h2:how<0\/2<how\/32<=f.toNat
  ·rw [if_pos h2] at h
   cases h
  ·rw [if_neg h2] at h ⊢;by_cases h3:has b.2.2.2.1 uid=true
   ·rw [if_pos h3];exact ⟨check_zero.mp (Classical.not_not.mp h1),by omega,by omega,by omega,h3,rfl⟩
   ·rw [if_neg h3] at h
    cases h
theorem lay_all:((List.range 32).all λx=>(List.range 32).all λy=>(List.range 3).all λk =>
  decide ((lay k (UInt8.ofNat x) (UInt8.ofNat y)).toNat<32)&&decide (lay k (lay k (UInt8.ofNat x) (UInt8.ofNat y)) (UInt8.ofNat y)=lay k (UInt8.ofNat x) (UInt8.ofNat y))&&decide (lay 2 (lay 1 (UInt8.ofNat x) (UInt8.ofNat y)) (UInt8.ofNat y)=lay 2 (UInt8.ofNat x) (UInt8.ofNat y)))=true:=by kernel_rfl
theorem lay_eq {how:Int} {was f:UInt8} (h1:0<=how) (h2:how<=2) (hw:was.toNat<32) (hf:f.toNat<32) :
  (lay how was f).toNat<32/\lay how (lay how was f) f=lay how was f/\lay 2 (lay 1 was f) f=lay 2 was f:=by
 have h:=List.all_eq_true.mp (List.all_eq_true.mp (List.all_eq_true.mp lay_all was.toNat (List.mem_range.mpr hw)) f.toNat (List.mem_range.mpr hf)) how.toNat (List.mem_range.mpr (by omega));rw [UInt8.ofNat_toNat,UInt8.ofNat_toNat,yR,yR,xX,xX,xX] at h;rw [show ((how.toNat:Nat):Int)=how by omega] at h;exact ⟨h.1.1,h.1.2,h.2⟩
theorem relay_1 (uid how:Int) (f:UInt8) (a:yJ):(relay uid how f a).1=a.1:=by
 unfold relay;split <;> rfl
theorem relay_3 (uid how:Int) (f:UInt8) (a:yJ):(relay uid how f a).2.2.1=a.2.2.1:=by
 unfold relay;split <;> rfl
theorem laid_right {b:wN} {uid how:Int} {f:UInt8} (R:Right b) (h1:0<=how) (h2:how<=2) (h3:f.toNat<32):Right (laid b uid how f) where
 valid:=R.valid
 next:=R.next
 few:=by
  simp only [laid,List.length_map];exact R.few
 each:=λl hl=>by
  simp only [laid] at hl ⊢;obtain ⟨a,ha,rfl⟩:=List.mem_map.mp hl;have q:=R.each a ha;rw [relay_1,relay_3];refine ⟨q.1,q.2.1,?_,q.2.2.2⟩;unfold relay;split
  ·exact (lay_eq h1 h2 q.2.2.1 h3).1
  ·exact q.2.2.1
 rise:=by
  simp only [laid];rw [List.pairwise_map];simp only [relay_1];exact R.rise
def cutd (b:wN) (uid:Int):wN:=(b.1,b.2.1,b.2.2.1,b.2.2.2.1.filter (keep uid),())
theorem cut_good {b:wN} {uid:Int} (R:Right b):cut b uid=if has b.2.2.2.1 uid then (cutd b uid,0,()) else (yO,9,()):=by
 unfold cut;rw [if_neg (not_not_intro (check_zero.mpr R))];rfl
theorem cutd_right {b:wN} (R:Right b) (uid:Int):Right (cutd b uid) where
 valid:=R.valid
 next:=R.next
 few:=by
  have:=R.few
  exact Nat.le_trans (List.length_filter_le _ _) this
 each:=λl hl=>R.each l ((List.mem_filter.mp hl).1)
 rise:=List.Pairwise.filter _ R.rise
def added (b:wN) (f:UInt8) (p:List UInt8):wN:=(b.1,b.2.1,b.2.2.1+1,b.2.2.2.1++[(b.2.2.1,f,p,())],())
theorem add_good {b:wN} {f:UInt8} {p:List UInt8} (R:Right b) (hf:f.toNat<32) (hp:p.length<=600) :
  add b f p=if b.2.2.2.1.length=32\/b.2.2.1=4294967295 then (yO,0,8,()) else (added b f p,b.2.2.1,0,()):=by
 unfold add;rw [if_neg (not_not_intro (check_zero.mpr R)),if_neg (by omega),if_neg (by omega)];rfl
theorem added_right {b:wN} {f:UInt8} {p:List UInt8} (R:Right b) (hf:f.toNat<32) (hp:p.length<=600) (h:¬ (b.2.2.2.1.length=32\/b.2.2.1=4294967295)):Right (added b f p) where
 valid:=R.valid
 next:=by
  have:=R.next
  simp only [added];omega
 few:=by
  have:=R.few
  simp only [added,xe,List.length_cons,List.length_nil];omega
 each:=λl hl=>by
  have hn:=R.next;simp only [added] at hl ⊢;rcases List.mem_append.mp hl with hl | hl
  ·have q:=R.each l hl;exact ⟨q.1,by omega,q.2.2.1,q.2.2.2⟩
  ·rw [List.mem_singleton.mp hl];exact ⟨by omega,by simp only;omega,hf,hp⟩
 rise:=by
  simp only [added];rw [List.pairwise_append];refine ⟨R.rise,List.pairwise_singleton _ _,λx hx y hy=>?_⟩;rw [List.mem_singleton.mp hy];exact (R.each x hx).2.1
end
end Go.So
namespace Go.So
open Go Go.Ev
set_option maxRecDepth 100000
abbrev Tx:Type:=List UInt8
abbrev Bx:Type:=Tx×(Int×(Int×(List yJ×Unit)))
theorem cb_le:∀ (a b:Tx),Lib.compareBytes a b=if a<b then -1 else if a=b then 0 else 1
 | [],[]=>by simp [Lib.compareBytes]
 | [],b::bs=>by simp [Lib.compareBytes]
 | a::r,[]=>by simp [Lib.compareBytes]
 | a::r,b::bs=>by
  have ih:=cb_le r bs;simp only [Lib.compareBytes,List.cons_lt_cons_iff,List.cons.injEq];by_cases h1:a<b
  ·simp [h1]
  ·by_cases h2:b<a
   ·have h3:a≠b:=λe=>by subst e;exact h1 h2
    simp [h1,h2,h3]
   ·have h3:a=b:=by
     apply UInt8.toNat_inj.1;have k1:¬ a.toNat<b.toNat:=λh=>h1 (UInt8.lt_iff_toNat_lt.2 h)
     have k2:¬ b.toNat<a.toNat:=λh=>h2 (UInt8.lt_iff_toNat_lt.2 h)
     omega
    subst h3;simp [h1,ih]
theorem u8_eq {a b:UInt8} (h1:¬ a<b) (h2:¬ b<a):a=b:=by
 apply UInt8.toNat_inj.1;have k1:¬ a.toNat<b.toNat:=λh=>h1 (UInt8.lt_iff_toNat_lt.2 h)
 have k2:¬ b.toNat<a.toNat:=λh=>h2 (UInt8.lt_iff_toNat_lt.2 h)
 omega
theorem wg:∀ {a b:Tx},¬ a<b->a≠b->b<a
 | [],[],_,h=>absurd rfl h
 | [],_::_,h,_=>absurd (by simp) h
 | _::_,[],_,_=>by simp
 | a::r,b::bs,h1,h2=>by
  rw [List.cons_lt_cons_iff] at h1 ⊢;rw [not_or,not_and] at h1;by_cases h3:b<a
  ·exact .inl h3
  ·have h4:=u8_eq h1.1 h3;subst h4;exact .inr ⟨rfl,wg (h1.2 rfl) λe=>h2 (by rw [e])⟩
theorem cmpb (b:Bx) (nm:Tx):F57 (((b.1,b.2.1,b.2.2.1,b.2.2.2.1,()),nm,()),())=some (Lib.compareBytes b.1 nm,()):=rfl
abbrev yE:Bx:=([],0,0,[],())
theorem getDb_lt {ls:List Bx} (h:ls.Pairwise (λa b=>a.1<b.1)) {i j:Nat} (hij:i<j) (hj:j<ls.length) (d:Bx):(ls.getD i d).1<(ls.getD j d).1:=by
 have:=List.pairwise_iff_getElem.mp h i j (by omega) hj hij
 rw [wQ,wQ,List.getElem?_eq_getElem hj,List.getElem?_eq_getElem (show i<ls.length by omega)];exact this
theorem cb_neg (a b:Tx):Lib.compareBytes a b<0<->a<b:=by
 rw [cb_le];split
 ·simp [*]
 ·split <;> simp [*]
theorem L56_eq (ls:List Bx) (nm:Tx) (hl:ls.length<=32) (hr:ls.Pairwise (λa b=>a.1<b.1)) :
  ∃ lo:Nat,L56c57_0 ((ls,nm,(),((ls.length:Nat):Int),(0:Int),((ls.length:Nat):Int),()),())=some ((ls,nm,(),((ls.length:Nat):Int),(lo:Int),()),())/\lo<=ls.length/\(∀ k,k<lo->(ls.getD k yE).1<nm)/\(∀ k,lo<=k->k<ls.length->¬ (ls.getD k yE).1<nm):=by
 have hF:=zR
 have h:=z6 (f:=th) (p:=((ls,nm,(),((ls.length:Nat):Int),(0:Int),((ls.length:Nat):Int),()),()))
  (λp=>∃ lo hi:Nat,p=((ls,nm,(),((ls.length:Nat):Int),(lo:Int),(hi:Int),()),())/\lo<=hi/\hi<=ls.length/\(∀ k,k<lo->(ls.getD k yE).1<nm)/\(∀ k,hi<=k->k<ls.length->¬ (ls.getD k yE).1<nm))
  (λp=>(p.1.2.2.2.2.2.1-p.1.2.2.2.2.1).toNat)
  (λr=>∃ lo:Nat,r=((ls,nm,(),((ls.length:Nat):Int),(lo:Int),()),())/\lo<=ls.length/\(∀ k,k<lo->(ls.getD k yE).1<nm)/\(∀ k,lo<=k->k<ls.length->¬ (ls.getD k yE).1<nm))
  (λp hp=>by
   obtain ⟨lo,hi,rfl,h1,h2,h3,h4⟩:=hp;by_cases hlt:lo<hi
   ·left;have hm1:lo<=(lo+hi)/2:=by omega
    have hm2:(lo+hi)/2<hi:=by omega
    have hm3:(lo+hi)/2<ls.length:=by omega
    have hg:=cmpb (ls.getD ((lo+hi)/2) yE) nm
    have hh:th ((ls,nm,(),((ls.length:Nat):Int),(lo:Int),(hi:Int),()),())=some (.inl (if (ls.getD ((lo+hi)/2) yE).1<nm then ((ls,nm,(),((ls.length:Nat):Int),(((lo+hi)/2+1:Nat):Int),(hi:Int),()),()) else ((ls,nm,(),((ls.length:Nat):Int),(lo:Int),(((lo+hi)/2:Nat):Int),()),()))):=by
     simp only [th,yt,yj,hlt,zd,zI,zE,mid (show lo+hi<1000 by omega),hm3,Bool.and_true,yF];rw [hg];simp only [zE];by_cases hc:(ls.getD ((lo+hi)/2) yE).1<nm
     ·simp only [zm ((cb_neg _ _).2 hc),hc,↓reduceIte,yH (show (lo+hi)/2<9223372036854775807 by omega)];rfl
     ·simp only [yv (λh=>hc ((cb_neg _ _).1 h)),hc,↓reduceIte];rfl
    by_cases hc:(ls.getD ((lo+hi)/2) yE).1<nm
    ·rw [if_pos hc] at hh;refine ⟨_,hh,⟨_,hi,rfl,by omega,h2,λk hk=>?_,h4⟩,by simp only;omega⟩;rcases Nat.lt_or_ge k ((lo+hi)/2) with hk2 | hk2
     ·exact List.lt_trans (getDb_lt hr hk2 hm3 yE) hc
     ·obtain rfl:k=(lo+hi)/2:=by omega
      exact hc
    ·rw [if_neg hc] at hh;refine ⟨_,hh,⟨lo,_,rfl,hm1,by omega,h3,λk hk hk3=>?_⟩,by simp only;omega⟩;rcases Nat.lt_or_ge ((lo+hi)/2) k with hk2 | hk2
     ·exact λhh=>hc (List.lt_trans (getDb_lt hr hk2 hk3 yE) hh)
     ·obtain rfl:k=(lo+hi)/2:=by omega
      exact hc
   ·right;obtain rfl:lo=hi:=by omega
    refine ⟨((ls,nm,(),((ls.length:Nat):Int),(lo:Int),()),()),?_,lo,rfl,h2,h3,h4⟩
    simp only [th,Int.lt_irrefl,xA,zK])
  ⟨0,ls.length,rfl,Nat.zero_le _,Nat.le_refl _,λk h=>absurd h (Nat.not_lt_zero _),λk h h'=>by omega⟩ (by simp only;omega)
 obtain ⟨r,h1,lo,rfl,h2⟩:=h;exact ⟨lo,h1,h2⟩
abbrev ww:Type:=Tx×Int×List Bx×Unit
def yX (ls:List Bx) (nm:Tx):Bool:=ls.any λb=>decide (b.1=nm)
theorem F39_eq (u:ww) (nm:Tx) (hl:u.2.2.1.length<=32) (hr:u.2.2.1.Pairwise (λa b=>a.1<b.1)) :
  ∃ lo:Nat,F39 ((u,nm,()),())=some (((lo:Int),yX u.2.2.1 nm,()),())/\lo<=u.2.2.1.length/\(∀ k,k<lo->(u.2.2.1.getD k yE).1<nm)/\(∀ k,lo<=k->k<u.2.2.1.length->¬ (u.2.2.1.getD k yE).1<nm) /\
   (yX u.2.2.1 nm=true->lo<u.2.2.1.length/\(u.2.2.1.getD lo yE).1=nm)/\(yX u.2.2.1 nm=false->∀ k,k<u.2.2.1.length->(u.2.2.1.getD k yE).1≠nm):=by
 obtain ⟨un,uv,ls,⟨⟩⟩:=u;change ls.length<=32 at hl;change ls.Pairwise (λa b=>a.1<b.1) at hr;obtain ⟨lo,h1,h2,h3,h4⟩:=L56_eq ls nm hl hr
 have hyes:yX ls nm=true->lo<ls.length/\(ls.getD lo yE).1=nm:=λhh=>by
  unfold yX at hh;rw [List.any_eq_true] at hh;obtain ⟨b,hm,he⟩:=hh;rw [xX] at he;obtain ⟨k,hk,rfl⟩:=List.getElem_of_mem hm
  have e1:(ls.getD k yE).1=nm:=by
   rw [wQ,List.getElem?_eq_getElem hk];exact he
  rcases Nat.lt_trichotomy k lo with h | h | h
  ·have:=h3 k h;rw [e1] at this;exact absurd this (List.lt_irrefl _)
  ·subst h;exact ⟨hk,e1⟩
  ·have q1:=getDb_lt hr h hk yE;have q2:=h4 lo (Nat.le_refl _) (by omega);rw [e1] at q1;exact absurd q1 q2
 have hno:yX ls nm=false->∀ k,k<ls.length->(ls.getD k yE).1≠nm:=λhh k hk he=>by
  unfold yX at hh;rw [List.any_eq_false] at hh
  have:=hh ls[k] (List.getElem_mem hk)
  rw [xX] at this;apply this;rw [wQ,List.getElem?_eq_getElem hk] at he;exact he
 refine ⟨lo,?_,h2,h3,h4,hyes,hno⟩;simp only [F39,F56c57,h1,zE,yt,yj,Bool.true_and,yF];by_cases hlo:lo<ls.length
 ·simp only [hlo,zd,Bool.true_or,zI];rw [cmpb (ls.getD lo yE) nm];simp only [zE]
  have e:decide (Lib.compareBytes (ls.getD lo yE).1 nm=0)=yX ls nm:=by
   cases hb:yX ls nm with
   | true =>
    rw [(hyes hb).2,cb_le,if_neg (List.lt_irrefl _),if_pos rfl];rfl
   | false =>
    have:=hno hb lo hlo
    rw [cb_le,if_neg (h4 lo (Nat.le_refl _) hlo),if_neg this];rfl
  rw [e]
 ·have e:yX ls nm=false:=by
   cases hb:yX ls nm with
   | true=>exact absurd (hyes hb).1 hlo
   | false=>rfl
  simp only [hlo,xA,xf,Bool.or_true,zI,zK,e,zE]
abbrev P2i:Type:=(Int×Int×Unit)×Unit
def heldS (b:Bx) (c:Int×Int):(Int×Int)⊕P2i:=.inl (zh (c.1+(b.2.2.2.1.length:Int)),zh (c.2+size b.2.2.2.1))
def held (ls:List Bx):P2i:=zk heldS (λc=>((c.1,c.2,()),())) (0,0) ls
def wth (ls:List Bx):Bool:=decide ((held ls).1.1<=40)&&decide ((held ls).1.2.1<=1200)
theorem F108_eq (u:ww) (hl:u.2.2.1.length<=32) (hb:∀ b∈u.2.2.1,b.2.2.2.1.length<=32):F108 ((u,()),())=some (wth u.2.2.1,()):=by
 have hF:=zR;obtain ⟨un,uv,ls,⟨⟩⟩:=u;change ls.length<=32 at hl;change ∀ b∈ls,b.2.2.2.1.length<=32 at hb
 have h:L108_0 (((0:Int),(0:Int),ls,((ls.length:Nat):Int),(0:Int),()),())=some (held ls):=by
  unfold L108_0 held;refine yC (b:=((0,0):Int×Int)) (f:=B108_0) (λ(c:Int×Int) i=>((c.1,c.2,ls,((ls.length:Nat):Int),(i:Int),()),())) ls heldS _ (λ_ _=>True) (λc i a _ hi ha=>?_) (λc _=>?_) (by omega) trivial
  ·refine .inl ⟨_,rfl,trivial,?_⟩
   have hm:a∈ls:=by
    have:=ha a
    rw [wQ,List.getElem?_eq_getElem hi] at this;rw [<- this];exact List.getElem_mem hi
   have hs:=F72_eq (a.1,a.2.1,a.2.2.1,a.2.2.2.1,()) (Nat.le_trans (hb a hm) (by decide));have hw:=yH (show i<9223372036854775807 by omega);simp only [B108_0,yt,yj,hi,zd,Bool.and_true,zI,zE,yF,ha,hs];rw [hw]
  ·simp only [B108_0,Int.lt_irrefl,xA,zK]
 simp only [F108,h,zE,wth]
abbrev Dd:Type:=Int×Tx×Tx×Tx×Int×Int×UInt8×Int×Int×List UInt8×Unit
def did (b:wN) (d:Dd):wN×Int×Int :=
 if d.1=4 then ((add b d.2.2.2.2.2.2.1 d.2.2.2.2.2.2.2.2.2.1).1,(add b d.2.2.2.2.2.2.1 d.2.2.2.2.2.2.2.2.2.1).2.1,(add b d.2.2.2.2.2.2.1 d.2.2.2.2.2.2.2.2.2.1).2.2.1)
 else if d.1=5 then ((flag b d.2.2.2.2.1 d.2.2.2.2.2.1 d.2.2.2.2.2.2.1).1,0,(flag b d.2.2.2.2.1 d.2.2.2.2.2.1 d.2.2.2.2.2.2.1).2.1)
 else if d.1=6 then ((cut b d.2.2.2.2.1).1,0,(cut b d.2.2.2.2.1).2.1)
 else (b,0,0)
def z8 (b:Bx):wN:=(b.1,b.2.1,b.2.2.1,b.2.2.2.1,())
def w7 (b:wN):Bx:=(b.1,(b.2.1,(b.2.2.1,(b.2.2.2.1,()))))
theorem did_len (b:wN) (d:Dd) (h:b.2.2.2.1.length<=32):(did b d).1.2.2.2.1.length<=32:=by
 unfold did;split
 ·exact add_len _ _ _
 ·split
  ·exact flag_len _ _ _ _
  ·split
   ·exact cut_len _ _
   ·exact h
theorem F30_eq (l:List Bx) (h:l.length<=32):F30 ((l,()),())=some ((),(l,())):=by
 have hb:zH (([]:List Bx).length+l.length) 56=true:=zl (by simp only [List.length_nil];omega)
 cases l with
 | nil=>simp only [F30,List.isEmpty_nil,zI,hb,List.append_nil,yd]
 | cons a t=>simp only [F30,List.isEmpty_cons,zK,hb,zI,List.nil_append]
def boxd (u:ww) (lo:Nat) (d:Dd):ww×Int×Int×Unit :=
 if (did (z8 (u.2.2.1.getD lo yE)) d).2.2≠0 then (u,0,(did (z8 (u.2.2.1.getD lo yE)) d).2.2,())
 else if wth (u.2.2.1.set lo (w7 (did (z8 (u.2.2.1.getD lo yE)) d).1))=true then ((u.1,u.2.1,u.2.2.1.set lo (w7 (did (z8 (u.2.2.1.getD lo yE)) d).1),()),(did (z8 (u.2.2.1.getD lo yE)) d).2.1,0,())
 else ((u.1,u.2.1,u.2.2.1.set lo (w7 (did (z8 (u.2.2.1.getD lo yE)) d).1),()),0,8,())
theorem F78_eq (u:ww) (d:Dd) (hl:u.2.2.1.length<=32) (hb:∀ b∈u.2.2.1,b.2.2.2.1.length<=32) (hr:u.2.2.1.Pairwise (λa b=>a.1<b.1)) :
  (yX u.2.2.1 d.2.2.1=false/\F78 ((u,d,()),())=some ((u,0,9,()),())) \/
  ∃ lo:Nat,lo<u.2.2.1.length/\(u.2.2.1.getD lo yE).1=d.2.2.1/\F78 ((u,d,()),())=some (boxd u lo d,()):=by
 obtain ⟨un,uv,ls,⟨⟩⟩:=u;obtain ⟨lo,h1,_,_,_,h5,_⟩:=F39_eq (un,uv,ls,()) d.2.2.1 hl hr;obtain ⟨dd,du,db,dt,uid,how,fl,ds,de,by',⟨⟩⟩:=d;change ls.length<=32 at hl;change ∀ b∈ls,b.2.2.2.1.length<=32 at hb;simp only at h1 h5
 cases hh:yX ls db with
 | false =>
  refine .inl ⟨rfl,?_⟩;simp only [F78,h1,hh,zE,xf,zI]
 | true =>
  obtain ⟨h6,h7⟩:=h5 hh;refine .inr ⟨lo,h6,h7,?_⟩
  have hm:ls.getD lo yE∈ls:=by
   rw [wQ,List.getElem?_eq_getElem h6];exact List.getElem_mem h6
  have hd:=did_len (z8 (ls.getD lo yE)) (dd,du,db,dt,uid,how,fl,ds,de,by',()) (hb _ hm)
  have key:∀ B:Bx,B.2.2.2.1.length<=32->F108 (((un,uv,ls.set lo B,()),()),())=some (wth (ls.set lo B),()):=λB hB =>
   F108_eq (un,uv,ls.set lo B,()) (by simpa using hl) (λb hbm=>by
    rcases List.mem_or_eq_of_mem_set hbm with h | rfl
    ·exact hb b h
    ·exact hB)
  have h40:=F30_eq ls hl;unfold boxd;unfold did at hd ⊢;simp only [F78,h1,hh,zE,yM,zK,yj,yt,h6,zd,Bool.and_true,zI,yF]
  have fin:∀ (B:wN) (n e:Int),B.2.2.2.1.length<=32 ->
    (cond (!(decide (e=(0:Int)))) (some (((un,uv,ls,()),(0:Int),e,()),())) (Option.bind (F30 ((ls,()),())) λr11=>(Option.bind (cond ((decide ((0:Int)<=(lo:Int)))&&(decide ((lo:Int)<(((List.length r11.2.1):Nat):Int)))) (some (((),(),n,()),((un,uv,(),()),((),(),(),()),(List.set r11.2.1 (Int.toNat (lo:Int)) (w7 B)),([]:List Bx),()))) none) λp12=>(Option.bind (Option.bind (F108 (((p12.2.1.1,p12.2.1.2.1,p12.2.2.2.1,()),()),())) λr13=>(some (((),(),p12.1.2.2.1,(!r13.1),()),((p12.2.1.1,p12.2.1.2.1,(),()),((),(),(),()),p12.2.2.2.1,p12.2.2.2.2.1,())))) λp14=>(cond p14.1.2.2.2.1 (Option.bind (some (((),(),(),()),((p14.2.1.1,p14.2.1.2.1,(),()),p14.2.2.2.1,()))) λp15=>(some (((p15.2.1.1,p15.2.1.2.1,p15.2.2.1,()),(0:Int),(8:Int),()),()))) (some (((p14.2.1.1,p14.2.1.2.1,p14.2.2.2.1,()),p14.1.2.2.1,(0:Int),()),())))))))
    = some ((if e≠0 then ((un,uv,ls,()),0,e,()) else if wth (ls.set lo (w7 B))=true then ((un,uv,ls.set lo (w7 B),()),n,0,()) else ((un,uv,ls.set lo (w7 B),()),0,8,()):ww×Int×Int×Unit),()):=λB n e hB=>by
   by_cases he:e=0
   ·simp only [he,zd,yM,zK,h40,zE,yj,yt,h6,Bool.and_true,zI,yF,key (w7 B) hB,ne_eq,not_true_eq_false,↓reduceIte]
    cases wth (ls.set lo (w7 B)) <;> simp
   ·simp only [he,xA,xf,zI,ne_eq,not_false_eq_true,↓reduceIte]
  by_cases c4:dd=4
  ·simp only [c4,↓reduceIte,zd,zI,F105_eq,zE] at hd ⊢;exact fin _ _ _ hd
  ·by_cases c5:dd=5
   ·simp only [c5,show ¬ (5:Int)=4 from by decide,xA,zK,↓reduceIte,zd,zI,F106_eq,zE] at hd ⊢;exact fin _ _ _ hd
   ·by_cases c6:dd=6
    ·simp only [c6,show ¬ (6:Int)=4 from by decide,show ¬ (6:Int)=5 from by decide,xA,zK,↓reduceIte,zd,zI,F107_eq,zE] at hd ⊢;exact fin _ _ _ hd
    ·simp only [c4,c5,c6,xA,zK,↓reduceIte,zE] at hd ⊢;exact fin (z8 (ls.getD lo yE)) 0 0 hd
def inbx:Tx:=[73,78,66,79,88]
def wO (u:ww) (lo:Nat) (d:Dd):ww×Int×Int×Unit :=
 if d.1=2 then
  if yX u.2.2.1 d.2.2.1=true then (u,0,10,())
  else if u.2.2.1.length=6\/u.2.1=4294967295 then (u,0,8,())
  else ((u.1,zh (u.2.1+1),tX u.2.2.1 (lo:Int) [(d.2.2.1,(zh (u.2.1+1),(1,([],()))))],()),zh (u.2.1+1),0,())
 else if yX u.2.2.1 d.2.2.1=false then (u,0,9,())
 else if d.2.2.1=inbx then (u,0,13,())
 else ((u.1,u.2.1,delL u.2.2.1 (lo:Int) ((lo+1:Nat):Int),()),0,0,())
theorem F76_eq (u:ww) (d:Dd) (hl:u.2.2.1.length<=32) (hr:u.2.2.1.Pairwise (λa b=>a.1<b.1)) :
  ∃ lo:Nat,F76 ((u,d,()),())=some (wO u lo d,())/\lo<=u.2.2.1.length/\(∀ k,k<lo->(u.2.2.1.getD k yE).1<d.2.2.1)/\(∀ k,lo<=k->k<u.2.2.1.length->¬ (u.2.2.1.getD k yE).1<d.2.2.1) /\
   (yX u.2.2.1 d.2.2.1=true->lo<u.2.2.1.length/\(u.2.2.1.getD lo yE).1=d.2.2.1)/\(yX u.2.2.1 d.2.2.1=false->∀ k,k<u.2.2.1.length->(u.2.2.1.getD k yE).1≠d.2.2.1):=by
 obtain ⟨un,uv,ls,⟨⟩⟩:=u;obtain ⟨lo,h1,h2,h3,h4,h5,h6⟩:=F39_eq (un,uv,ls,()) d.2.2.1 hl hr;refine ⟨lo,?_,h2,h3,h4,h5,h6⟩;clear h3 h4 h6;obtain ⟨dd,du,db,dt,uid,how,fl,ds,de,by',⟨⟩⟩:=d;change ls.length<=32 at hl;simp only at h1 h2 h5;have h40:=F30_eq ls hl
 have hi:∀ x:Bx,insOK ls (lo:Int) [x]=true:=λx=>by
  unfold insOK;simp only [lSg,yR,xX];omega
 unfold wO;by_cases c2:dd=2
 ·cases hh:yX ls db with
  | true=>simp only [F76,h1,hh,c2,zd,Bool.true_and,zI,zE,↓reduceIte]
  | false =>
   by_cases c6:ls.length=6\/uv=4294967295
   ·have e:(decide (((ls.length:Nat):Int)=(6:Int))||decide (uv=(4294967295:Int)))=true:=by
     rw [Bool.or_eq_true,xX,xX];omega
    simp only [F76,h1,hh,c2,e,c6,zd,Bool.true_and,zI,zK,zE,↓reduceIte,Bool.false_eq_true]
   ·have e:(decide (((ls.length:Nat):Int)=(6:Int))||decide (uv=(4294967295:Int)))=false:=by
     rw [Bool.or_eq_false_iff,decide_eq_false_iff_not,decide_eq_false_iff_not];omega
    simp only [F76,h1,hh,c2,e,c6,zd,Bool.true_and,Bool.and_false,zI,zK,zE,↓reduceIte,Bool.false_eq_true,h40,hi,yd]
 ·cases hh:yX ls db with
  | false=>simp only [F76,h1,hh,c2,xA,Bool.false_and,zI,zK,zE,↓reduceIte,xf]
  | true =>
   obtain ⟨h7,_⟩:=h5 hh;have hw:=yH (show lo<9223372036854775807 by omega)
   have hd:delOK ls (lo:Int) ((lo+1:Nat):Int)=true:=by
    unfold delOK;simp only [yR,xX];omega
   by_cases ci:db=inbx
   ·subst ci;have ci':decide (inbx=([73,78,66,79,88]:List UInt8))=true:=rfl;simp only [F76,h1,hh,c2,ci',xA,Bool.false_and,zI,zK,zE,↓reduceIte,yM,Bool.true_eq_false]
   ·have ci':¬ db=[73,78,66,79,88]:=ci;simp only [F76,h1,hh,c2,ci,ci',xA,Bool.false_and,zI,zK,zE,↓reduceIte,yM,h40,hw,hd,Bool.true_eq_false]
abbrev Mp:Type:=List (Tx×(Tx×(Int×(List Bx×Unit))))
def come (m:Mp) (u:ww):Int×Mp :=
 if (zO .str m u.1).isSome=true then (10,m) else if m.length=16 then (8,m) else (0,yA .str m u.1 (u.1,(u.2.1,(u.2.2.1,()))))
theorem F74_eq (m:Mp) (u:ww):F74 ((true,u,()),(((),()),m,()))=some ((come m u).1,(((),()),(come m u).2,())):=by
 obtain ⟨un,uv,ls,⟨⟩⟩:=u;unfold come;simp only [F74,zI,yd,zE]
 cases hg:(zO .str m un).isSome with
 | true=>simp only [zI,↓reduceIte]
 | false =>
  by_cases h:m.length=16
  ·have h':decide (((m.length:Nat):Int)=16)=true:=zm (by omega);rw [if_neg (by simp),if_pos h];simp only [zK,h',zI]
  ·have h':decide (((m.length:Nat):Int)=16)=false:=yv (by omega);rw [if_neg (by simp),if_neg h];simp only [zK,h']
structure Good (u:ww):Prop where
 few:u.2.2.1.length<=6
 rise:u.2.2.1.Pairwise (λa b=>a.1<b.1)
 each:∀ b∈u.2.2.1,Right (z8 b)
 valid:1<=u.2.1/\u.2.1<=4294967295
 below:∀ b∈u.2.2.1,b.2.1<=u.2.1
def usr (x:Tx×(Int×(List Bx×Unit))):ww:=(x.1,x.2.1,x.2.2.1,())
theorem Good.len {u:ww} (g:Good u):∀ b∈u.2.2.1,b.2.2.2.1.length<=32:=λb hb=>(g.each b hb).few
theorem wo {ls:List Bx} {lo:Nat} (h:lo<ls.length):ls.getD lo yE∈ls:=by
 rw [wQ,List.getElem?_eq_getElem h];exact List.getElem_mem h
def boxOf (m:Mp) (user nm:Tx):Option Bx :=
 match zO .str m user with
 | none=>none
 | some u=>u.2.2.1.find? λb=>decide (b.1=nm)
theorem find_at {ls:List Bx} (hr:ls.Pairwise (λa b=>a.1<b.1)) {lo:Nat} (h:lo<ls.length) {nm:Tx} (hn:(ls.getD lo yE).1=nm):ls.find? (λb=>decide (b.1=nm))=some (ls.getD lo yE):=by
 induction ls generalizing lo with
 | nil=>simp at h
 | cons a t ih =>
  obtain ⟨h1,h2⟩:=List.pairwise_cons.1 hr;rw [List.find?_cons]
  cases lo with
  | zero =>
   rw [List.getD_cons_zero] at hn ⊢;rw [hn];simp
  | succ k =>
   rw [List.getD_cons_succ] at hn ⊢;have hk:k<t.length:=by simpa using h
   have hne:a.1≠nm:=λe=>by
    have:=h1 _ (wo hk)
    rw [hn,e] at this;exact List.lt_irrefl _ this
   rw [yv hne];exact ih h2 hk hn
theorem find_none {ls:List Bx} {nm:Tx} (h:yX ls nm=false):ls.find? (λb=>decide (b.1=nm))=none:=by
 rw [List.find?_eq_none];intro b hb he;unfold yX at h;rw [List.any_eq_false] at h;exact h b hb he
def mxs {α:Type} (l:List α) (i:Nat):List (Bool×α):=(l.take i).map (λx=>(true,x))++(l.drop i).map λx=>(false,x)
theorem mxs_zero {α:Type} (l:List α):mxs l 0=l.map λx=>(false,x):=by simp [mxs]
theorem mxs_len {α:Type} (l:List α) (i:Nat):(mxs l i).length=l.length:=by
 simp only [mxs,xe,List.length_map,xG,sG];omega
theorem mxs_get {α:Type} {l:List α} {i:Nat} (h:i<l.length) (d:Bool×α):(mxs l i).getD i d=(false,l[i]):=by
 have hl:(l.take i).length=i:=by rw [xG];omega
 rw [wQ,mxs,List.getElem?_append_right (by rw [List.length_map,hl];exact Nat.le_refl _),List.length_map,hl,Nat.sub_self,List.getElem?_map,List.getElem?_drop,Nat.add_zero,List.getElem?_eq_getElem h];rfl
theorem take_one {α:Type} {l:List α} {i:Nat} (h:i<l.length):l.take (i+1)=l.take i++[l[i]]:=by
 rw [List.take_add_one,List.getElem?_eq_getElem h];rfl
theorem mxs_set {α:Type} {l:List α} {i:Nat} (h:i<l.length):(mxs l i).set i (true,l[i])=mxs l (i+1):=by
 have hl:(l.take i).length=i:=by rw [xG];omega
 have hd:l.drop i=l[i]::l.drop (i+1):=List.drop_eq_getElem_cons h;rw [mxs,List.set_append_right _ _ (by rw [List.length_map,hl];exact Nat.le_refl _),List.length_map,hl,Nat.sub_self,hd,List.map_cons,List.set_cons_zero,mxs,take_one h,List.map_append,lAs];rfl
theorem mxs_all {α:Type} (l:List α):(mxs l l.length).all (λp=>p.1)=true/\(mxs l l.length).map (λp=>p.2)=l:=by
 simp [mxs,Function.comp_def]
theorem F52d_eq (l:List yJ) (h:l.length<=32):F52d ((l,()),())=some ((),(mxs l 0,())):=by
 rw [mxs_zero];have hb:zH (([]:List (Bool×yJ)).length+(l.map λx=>(false,x)).length) 40=true:=zl (by simp only [List.length_nil,List.length_map];omega)
 cases l with
 | nil =>
  simp only [List.map_nil] at hb;simp only [F52d,List.isEmpty_nil,zI,List.map_nil,hb,List.append_nil,yd]
 | cons a t=>simp only [F52d,List.isEmpty_cons,zK,hb,zI,List.nil_append]
theorem F30d_eq (l:List Bx) (h:l.length<=32):F30d ((l,()),())=some ((),(mxs l 0,())):=by
 rw [mxs_zero];have hb:zH (([]:List (Bool×Bx)).length+(l.map λx=>(false,x)).length) 56=true:=zl (by simp only [List.length_nil,List.length_map];omega)
 cases l with
 | nil =>
  simp only [List.map_nil] at hb;simp only [F30d,List.isEmpty_nil,zI,List.map_nil,hb,List.append_nil,yd]
 | cons a t=>simp only [F30d,List.isEmpty_cons,zK,hb,zI,List.nil_append]
theorem F31d_eq (b:wN) (hl:b.2.2.2.1.length<=32) (hb:∀ l∈b.2.2.2.1,l.2.2.1.length<=600):F31d ((b,()),())=some ((b.1,b.2.1,b.2.2.1,(),()),(b.2.2.2.1,())):=by
 obtain ⟨nm,v,n,ls,⟨⟩⟩:=b;change ls.length<=32 at hl;change ∀ l∈ls,l.2.2.1.length<=600 at hb;have hF:=zR
 obtain ⟨r,hr,rfl⟩:∃ r,L31d_0 (((),(),((ls.length:Nat):Int),(0:Int),()),((nm,v,n,(),()),((),(),(),(),()),mxs ls 0,([]:List yJ),()))=some r/\r=(((),(),()),((nm,v,n,(),()),((),(),(),(),()),mxs ls ls.length,([]:List yJ),())):=by
  unfold L31d_0;refine z6 (f:=B31d_0) (λp=>∃ i:Nat,i<=ls.length/\p=(((),(),((ls.length:Nat):Int),(i:Int),()),((nm,v,n,(),()),((),(),(),(),()),mxs ls i,([]:List yJ),()))) (λp=>ls.length-p.1.2.2.2.1.toNat) _ ?_ ⟨0,Nat.zero_le _,rfl⟩ (by simp only;omega);rintro p ⟨i,hi,rfl⟩;rcases Nat.lt_or_ge i ls.length with h | h
  ·left;have d0:decide ((i:Int)<((ls.length:Nat):Int))=true:=zm (by omega);have d1:decide ((0:Int)<=(i:Int))=true:=zm (by omega);have e53:=F53_eq ls[i].2.2.1 (hb _ (List.getElem_mem h));have hs:=mxs_set h;have hg:=mxs_get h;refine ⟨(((),(),((ls.length:Nat):Int),((i+1:Nat):Int),()),((nm,v,n,(),()),((),(),(),(),()),mxs ls (i+1),([]:List yJ),())),?_,⟨i+1,h,rfl⟩,by simp only;omega⟩;generalize hx:ls[i]=x at e53 hs hg;obtain ⟨x1,x2,x3,⟨⟩⟩:=x;simp only at e53;simp only [B31d_0,mxs_len,d0,d1,yW,zI,zE,yF,hg,e53,hs,yH (show i<9223372036854775807 by omega)]
  ·right;obtain rfl:i=ls.length:=by omega
   exact ⟨_,by simp only [B31d_0,Int.lt_irrefl,xA,zK],rfl⟩
 obtain ⟨m1,m2⟩:=mxs_all ls;simp only [F31d,F52d_eq ls hl,zE,mxs_len,hr,m1,m2,zI]
theorem F39d_is:F39d=F39:=rfl
theorem F16_eq (m:Mp) (user nm:Tx) (hg:∀ u,zO .str m user=some u->Good (usr u)) :
  F16 ((some (m,()),user,nm,()),())=some ((match boxOf m user nm with | some b=>(z8 b,(0:Int),()) | none=>(([],0,0,[],()),(9:Int),()):wN×Int×Unit),()):=by
 unfold boxOf
 cases hu:zO .str m user with
 | none =>
  obtain ⟨lo,h1,_,_,_,h5,_⟩:=F39_eq (([],0,[],()):ww) nm (by simp) List.Pairwise.nil;have hb:yX ([]:List Bx) nm=false:=rfl;simp only [hb] at h1;simp only [F16,F39d_is,Option.isNone_some,List.getD_cons_zero,hu,Option.isSome_none,Option.getD_none,Option.isSome_some,Option.getD_some,zK,zI,zE,h1,xf,Bool.or_self]
 | some u =>
  have G:=hg u hu;obtain ⟨un,uv,ls,⟨⟩⟩:=u;have hl:ls.length<=32:=Nat.le_trans G.few (by decide);obtain ⟨lo,h1,_,_,_,h5,_⟩:=F39_eq ((un,uv,ls,()):ww) nm hl G.rise;simp only at h1 h5
  cases hh:yX ls nm with
  | false =>
   rw [hh] at h1;simp only [F16,F39d_is,Option.isNone_some,List.getD_cons_zero,hu,Option.isSome_some,Option.getD_some,Option.isSome_some,Option.getD_some,yM,zK,zI,zE,h1,xf,Bool.or_true,find_none hh]
  | true =>
   obtain ⟨h6,h7⟩:=h5 hh;rw [hh] at h1;have R:=G.each _ (wo h6);have h11:=F31d_eq (z8 (ls.getD lo yE)) R.few (λl hl=>(R.each l hl).2.2.2);unfold z8 at h11;simp only at h11;simp only [F16,F39d_is,Option.isNone_some,List.getD_cons_zero,hu,Option.isSome_some,Option.getD_some,Option.isSome_some,Option.getD_some,yM,zK,zI,zE,h1,Bool.or_self,yj,yt,h6,zd,Bool.and_true,yF,h11,z8];rw [find_at (ls:=ls) G.rise h6 h7]
def kept (m:Mp) (user:Tx) (r:ww×Int×Int×Unit):(Int×Int×Unit)×Mp :=
 ((r.2.1,r.2.2.1,()),if r.2.2.1=0 then yA .str m user (r.1.1,(r.1.2.1,(r.1.2.2.1,()))) else m)
def tR (user:Tx):ww:=(user,1,[(inbx,(1,(1,([],()))))],())
theorem F48_bad (m:Mp) (d:Dd) (e:Int) (hc:F73 ((d,()),())=some (e,())) (he:e≠0):F48 ((true,d,()),(((),()),m,()))=some ((0,e,()),(((),()),m,())):=by
 obtain ⟨dd,du,db,dt,uid,how,fl,ds,de,by',⟨⟩⟩:=d;simp only [F48,hc,zE,yv he,xf,zI]
theorem F48_open (m:Mp) (d:Dd) (hc:F73 ((d,()),())=some (0,())) (h1:d.1=1) :
  F48 ((true,d,()),(((),()),m,()))=some ((1,(come m (tR d.2.1)).1,()),(((),()),(come m (tR d.2.1)).2,())):=by
 obtain ⟨dd,du,db,dt,uid,how,fl,ds,de,by',⟨⟩⟩:=d;simp only at h1;subst h1;have h22:=F74_eq m (tR du);unfold tR inbx at h22;simp only [F48,hc,zE,zd,yM,zK,zI,yd,h22,tR,inbx]
theorem F48_gone (m:Mp) (d:Dd) (hc:F73 ((d,()),())=some (0,())) (h1:d.1≠1) (h8:d.1≠8) (hm:zO .str m d.2.1=none) :
  F48 ((true,d,()),(((),()),m,()))=some ((0,9,()),(((),()),m,())):=by
 obtain ⟨dd,du,db,dt,uid,how,fl,ds,de,by',⟨⟩⟩:=d;simp only at h1 h8 hm;simp only [F48,hc,zE,zd,yM,zK,zI,yd,hm,yv h1,yv h8,Option.isSome_none,xf]
theorem F48_shape (m:Mp) (d:Dd) (u:Tx×(Int×(List Bx×Unit))) (lo:Nat) (hc:F73 ((d,()),())=some (0,())) (h2:d.1=2\/d.1=3) (hm:zO .str m d.2.1=some u)
  (h24:F76 ((usr u,d,()),())=some (wO (usr u) lo d,())) :
  F48 ((true,d,()),(((),()),m,()))=some ((kept m d.2.1 (wO (usr u) lo d)).1,(((),()),(kept m d.2.1 (wO (usr u) lo d)).2,())):=by
 obtain ⟨dd,du,db,dt,uid,how,fl,ds,de,by',⟨⟩⟩:=d;obtain ⟨un,uv,ls,⟨⟩⟩:=u;simp only at h2 hm;generalize wO (usr (un,uv,ls,())) lo (dd,du,db,dt,uid,how,fl,ds,de,by',())=R at h24 ⊢;obtain ⟨⟨ru,rv,rl,⟨⟩⟩,rn,re,⟨⟩⟩:=R;unfold usr at h24;simp only at h24;have h1:dd≠1:=by omega
 have h8:dd≠8:=by omega
 by_cases h22:dd=2
 ·subst h22;simp only [F48,hc,zE,zd,yM,zK,zI,yd,hm,yv h1,yv h8,Option.isSome_some,Option.getD_some,h24,kept];by_cases hr:re=0
  ·simp [hr]
  ·simp [hr]
 ·have h33:dd=3:=by omega
  subst h33;simp only [F48,hc,zE,zd,yM,zK,zI,yd,hm,yv h1,yv h8,yv h22,Option.isSome_some,Option.getD_some,h24,kept];by_cases hr:re=0
  ·simp [hr]
  ·simp [hr]
theorem F48_box (m:Mp) (d:Dd) (u:Tx×(Int×(List Bx×Unit))) (R:ww×Int×Int×Unit) (hc:F73 ((d,()),())=some (0,())) (h1:d.1≠1) (h2:d.1≠2) (h3:d.1≠3) (h7:d.1≠7) (h8:d.1≠8) (h9:d.1≠9) (hm:zO .str m d.2.1=some u)
  (h26:F78 ((usr u,d,()),())=some (R,())) :
  F48 ((true,d,()),(((),()),m,()))=some ((kept m d.2.1 R).1,(((),()),(kept m d.2.1 R).2,())):=by
 obtain ⟨dd,du,db,dt,uid,how,fl,ds,de,by',⟨⟩⟩:=d;obtain ⟨un,uv,ls,⟨⟩⟩:=u;obtain ⟨⟨ru,rv,rl,⟨⟩⟩,rn,re,⟨⟩⟩:=R;simp only at h1 h2 h3 h7 h8 h9 hm;unfold usr at h26;simp only at h26;simp only [F48,hc,zE,zd,yM,zK,zI,yd,hm,yv h1,yv h2,yv h3,yv h7,yv h8,yv h9,Option.isSome_some,Option.getD_some,h26,kept];by_cases hr:re=0
 ·simp [hr]
 ·simp [hr]
abbrev R9:Type:=((Bool×Unit×Unit)×((Unit×Unit)×Mp×(List Int)×Unit))⊕((Bool×Unit×Int×Int×Unit)×((Unit×Unit)×Mp×(List Int)×Unit))
structure Kept (b:wN) (d:Dd) (r:wN×Int×Int):Prop where
 right:Right r.1
 name:r.1.1=b.1
 valid:r.1.2.1=b.2.1
 next:b.2.2.1<=r.1.2.2.1
 put:d.1=4->r.2.1=b.2.2.1/\r.1.2.2.1=b.2.2.1+1/\r.1.2.2.2.1=b.2.2.2.1++[(b.2.2.1,d.2.2.2.2.2.2.1,d.2.2.2.2.2.2.2.2.2.1,())]
 else':d.1≠4->r.2.1=0
theorem did_kept {b:wN} (R:Right b) (d:Dd) (h:(did b d).2.2=0):Kept b d (did b d):=by
 obtain ⟨dd,du,db,dt,uid,how,fl,ds,de,by',⟨⟩⟩:=d;unfold did at h ⊢;simp only at h ⊢;by_cases c4:dd=4
 ·subst c4;simp only [↓reduceIte] at h ⊢;by_cases hf:fl.toNat<32
  ·by_cases hp:by'.length<=600
   ·rw [add_good R hf hp] at h ⊢;by_cases hc:b.2.2.2.1.length=32\/b.2.2.1=4294967295
    ·rw [if_pos hc] at h;exact absurd h (by decide)
    ·rw [if_neg hc];exact ⟨added_right R hf hp hc,rfl,rfl,by simp only [added];omega,λ_=>⟨rfl,rfl,rfl⟩,λh=>absurd rfl h⟩
   ·unfold add at h;rw [if_neg (not_not_intro (check_zero.mpr R)),if_neg (by omega),if_pos (by omega)] at h;exact absurd h (by decide)
  ·unfold add at h;rw [if_neg (not_not_intro (check_zero.mpr R)),if_pos (by omega)] at h;exact absurd h (by decide)
 ·rw [if_neg c4] at h ⊢;by_cases c5:dd=5
  ·subst c5;simp only [↓reduceIte] at h ⊢;obtain ⟨_,h1,h2,h3,h4,h5⟩:=flag_good h;rw [h5];exact ⟨laid_right R h1 h2 h3,rfl,rfl,Int.le_refl _,λh=>absurd h c4,λ_=>rfl⟩
  ·rw [if_neg c5] at h ⊢;by_cases c6:dd=6
   ·subst c6;simp only [↓reduceIte] at h ⊢;rw [cut_good R] at h ⊢;by_cases hh:has b.2.2.2.1 uid=true
    ·rw [if_pos hh] at h ⊢;exact ⟨cutd_right R uid,rfl,rfl,Int.le_refl _,λh=>absurd h c4,λ_=>rfl⟩
    ·rw [if_neg hh] at h;exact absurd h (by decide)
   ·rw [if_neg c6];exact ⟨R,rfl,rfl,Int.le_refl _,λh=>absurd h c4,λ_=>rfl⟩
theorem new_good (user:Tx):Good (tR user) where
 few:=by simp [tR]
 rise:=by simp [tR]
 each:=λb hb=>by
  simp only [tR,List.mem_singleton] at hb;subst hb;exact ⟨by simp [z8],by simp [z8],by simp [z8],by simp [z8],by simp [z8]⟩
 valid:=by simp [tR]
 below:=λb hb=>by
  simp only [tR,List.mem_singleton] at hb;subst hb;simp [tR]
theorem names_rise {ls:List Bx}:ls.Pairwise (λa b=>a.1<b.1)<->(ls.map (λb=>b.1)).Pairwise (λa b=>a<b):=by
 rw [List.pairwise_map]
theorem set_rise {ls:List Bx} (hr:ls.Pairwise (λa b=>a.1<b.1)) {lo:Nat} {B:Bx} (h:B.1=(ls.getD lo yE).1) (hl:lo<ls.length):(ls.set lo B).Pairwise (λa b=>a.1<b.1):=by
 rw [names_rise] at hr ⊢;rw [List.map_set,set_same]
 ·exact hr
 ·intro d;rw [wQ,List.getElem?_map,List.getElem?_eq_getElem hl,h,wQ,List.getElem?_eq_getElem hl];rfl
theorem ins_rise {ls:List Bx} (hr:ls.Pairwise (λa b=>a.1<b.1)) {lo:Nat} {x:Bx} (h1:∀ k,k<lo->(ls.getD k yE).1<x.1) (h2:∀ k,lo<=k->k<ls.length->x.1<(ls.getD k yE).1) :
  (ls.take lo++[x]++ls.drop lo).Pairwise (λa b=>a.1<b.1):=by
 have k1:∀ a∈ls.take lo,a.1<x.1:=λa ha=>by
  obtain ⟨i,hi,rfl⟩:=List.mem_take_iff_getElem.1 ha
  have:=h1 i (by omega)
  rw [wQ,List.getElem?_eq_getElem (by omega)] at this;exact this
 have k2:∀ b∈ls.drop lo,x.1<b.1:=λb hb=>by
  obtain ⟨i,hi,rfl⟩:=List.mem_drop_iff_getElem.1 hb
  have:=h2 (lo+i) (by omega) (by omega)
  rw [wQ,List.getElem?_eq_getElem (by omega)] at this;exact this
 rw [lAs,List.pairwise_append];refine ⟨hr.sublist (List.take_sublist _ _),?_,λa ha b hb=>?_⟩
 ·rw [List.singleton_append,List.pairwise_cons];exact ⟨k2,hr.sublist (List.drop_sublist _ _)⟩
 ·rw [List.singleton_append] at hb;rcases List.mem_cons.1 hb with rfl | hb
  ·exact k1 a ha
  ·exact List.lt_trans (k1 a ha) (k2 b hb)
theorem del_sub (ls:List Bx) (lo:Nat):(ls.take lo++ls.drop (lo+1)).Sublist ls:=by
 have h:(ls.take lo++ls.drop (lo+1)).Sublist (ls.take lo++ls.drop lo):=by
  refine List.Sublist.append_left ?_ _;exact List.drop_sublist_drop_left _ (Nat.le_succ lo)
 rw [List.take_append_drop] at h;exact h
theorem boxd_good {u:ww} (G:Good u) {lo:Nat} (hl:lo<u.2.2.1.length) (d:Dd) (h:(boxd u lo d).2.2.1=0) :
    Good (boxd u lo d).1/\Kept (z8 (u.2.2.1.getD lo yE)) d (did (z8 (u.2.2.1.getD lo yE)) d) /\
      boxd u lo d=((u.1,u.2.1,u.2.2.1.set lo (w7 (did (z8 (u.2.2.1.getD lo yE)) d).1),()),(did (z8 (u.2.2.1.getD lo yE)) d).2.1,0,()):=by
  have hm:=wo hl;have R:=G.each _ hm
  have e:boxd u lo d=((u.1,u.2.1,u.2.2.1.set lo (w7 (did (z8 (u.2.2.1.getD lo yE)) d).1),()),(did (z8 (u.2.2.1.getD lo yE)) d).2.1,0,())/\(did (z8 (u.2.2.1.getD lo yE)) d).2.2=0:=by
    unfold boxd at h ⊢;by_cases h0:(did (z8 (u.2.2.1.getD lo yE)) d).2.2=0
    . rw [if_neg (not_not_intro h0)] at h ⊢;by_cases hw:wth (u.2.2.1.set lo (w7 (did (z8 (u.2.2.1.getD lo yE)) d).1))=true
      . rw [if_pos hw];exact ⟨rfl,h0⟩
      . rw [if_neg hw] at h;exact absurd h (by simp)
    . rw [if_pos h0] at h;exact absurd h h0
  have K:=did_kept R d e.2;refine ⟨?_,K,e.1⟩;rw [e.1];generalize did (z8 (u.2.2.1.getD lo yE)) d=r at K
  exact {
    few:=by simp only [List.length_set];exact G.few
    rise:=set_rise G.rise (by simp only [w7];rw [K.name];rfl) hl
    each:=λb hb=>by
      rcases List.mem_or_eq_of_mem_set hb with h | rfl
      . exact G.each b h
      . exact K.right
    valid:=G.valid
    below:=λb hb=>by
      rcases List.mem_or_eq_of_mem_set hb with h | rfl
      . exact G.below b h
      . have:=G.below _ hm
        simp only [w7];rw [K.valid]
        exact this }
theorem make_good {u:ww} (G:Good u) {lo:Nat} (d:Dd) (h2:d.1=2) (hlo:lo<=u.2.2.1.length) (h3:∀ k,k<lo->(u.2.2.1.getD k yE).1<d.2.2.1) (h4:∀ k,lo<=k->k<u.2.2.1.length->¬ (u.2.2.1.getD k yE).1<d.2.2.1)
    (h6:yX u.2.2.1 d.2.2.1=false->∀ k,k<u.2.2.1.length->(u.2.2.1.getD k yE).1≠d.2.2.1) (h:(wO u lo d).2.2.1=0) :
    Good (wO u lo d).1/\yX u.2.2.1 d.2.2.1=false/\wO u lo d=((u.1,u.2.1+1,u.2.2.1.take lo++[((d.2.2.1,(u.2.1+1,(1,([],())))):Bx)]++u.2.2.1.drop lo,()),u.2.1+1,0,()):=by
  have hv:=G.valid;have hw:zh (u.2.1+1)=u.2.1+1:=zV (by omega) (by omega)
  have e:wO u lo d=((u.1,u.2.1+1,u.2.2.1.take lo++[((d.2.2.1,(u.2.1+1,(1,([],())))):Bx)]++u.2.2.1.drop lo,()),u.2.1+1,0,())/\yX u.2.2.1 d.2.2.1=false/\u.2.2.1.length≠6/\u.2.1≠4294967295:=by
    unfold wO at h ⊢;rw [if_pos h2] at h ⊢
    cases hh:yX u.2.2.1 d.2.2.1 with
    | true=>rw [hh,if_pos rfl] at h;exact absurd h (by simp)
    | false =>
      rw [hh,if_neg (by simp)] at h;rw [if_neg (by simp)];by_cases hc:u.2.2.1.length=6\/u.2.1=4294967295
      . rw [if_pos hc] at h;exact absurd h (by simp)
      . rw [if_neg hc,hw];rw [not_or] at hc;exact ⟨by simp only [tX,yF],rfl,hc.1,hc.2⟩
  refine ⟨?_,e.2.1,e.1⟩;rw [e.1];have hno:=h6 e.2.1;have hf:=G.few
  have hmem:∀ b∈u.2.2.1.take lo++[((d.2.2.1,(u.2.1+1,(1,([],())))):Bx)]++u.2.2.1.drop lo,b∈u.2.2.1\/b=(d.2.2.1,(u.2.1+1,(1,([],())))):=λb hb=>by
    rcases List.mem_append.1 hb with hb | hb
    . rcases List.mem_append.1 hb with hb | hb
      . exact .inl (List.mem_of_mem_take hb)
      . exact .inr (List.mem_singleton.1 hb)
    . exact .inl (List.mem_of_mem_drop hb)
  exact {
    few:=by
      simp only [xe,xG,sG,lSg]
      have:=e.2.2.1
      omega
    rise:=ins_rise G.rise h3 λk hk hk2=>wg (h4 k hk hk2) (hno k hk2)
    each:=λb hb=>by
      rcases hmem b hb with h | rfl
      . exact G.each b h
      . have:=e.2.2.2
        exact ⟨by simp only [z8];omega,by simp [z8],by simp [z8],by simp [z8],by simp [z8]⟩
    valid:=by have:=e.2.2.2;simp only;omega
    below:=λb hb=>by
      rcases hmem b hb with h | rfl
      . have:=G.below b h;simp only;omega
      . exact Int.le_refl _ }
theorem drop_good {u:ww} (G:Good u) {lo:Nat} (d:Dd) (h2:d.1≠2) (h:(wO u lo d).2.2.1=0) :
    Good (wO u lo d).1/\wO u lo d=((u.1,u.2.1,u.2.2.1.take lo++u.2.2.1.drop (lo+1),()),0,0,()):=by
  have e:wO u lo d=((u.1,u.2.1,u.2.2.1.take lo++u.2.2.1.drop (lo+1),()),0,0,()):=by
    unfold wO at h ⊢;rw [if_neg h2] at h ⊢
    cases hh:yX u.2.2.1 d.2.2.1 with
    | false=>rw [hh,if_pos rfl] at h;exact absurd h (by simp)
    | true =>
      rw [hh,if_neg (by simp)] at h;rw [if_neg (by simp)];by_cases hc:d.2.2.1=inbx
      . rw [if_pos hc] at h;exact absurd h (by simp)
      . rw [if_neg hc];simp only [delL,yF]
  refine ⟨?_,e⟩;rw [e];have hs:=del_sub u.2.2.1 lo
  exact {
    few:=Nat.le_trans hs.length_le G.few
    rise:=G.rise.sublist hs
    each:=λb hb=>G.each b (hs.mem hb)
    valid:=G.valid
    below:=λb hb=>G.below b (hs.mem hb) }
abbrev R50:Type:=(Unit×Unit)⊕((Int×Unit)×Unit)
def stp50 (x:Int) (a:Int) (b:Nat):Nat⊕R50:=if x=a then .inr (.inr (((b:Int),()),())) else .inl (b+1)
theorem fold50 (x:Int):∀ (l:List Int) (b:Nat),(x∉l/\zk (stp50 x) (λ_=>(.inl ((),()):R50)) b l=.inl ((),()))\/(x∈l/\∃ n:Nat,zk (stp50 x) (λ_=>(.inl ((),()):R50)) b l=.inr (((n:Int),()),()))
 | [],b=>.inl ⟨by simp,rfl⟩
 | a::t,b=>by
  simp only [zk,stp50];by_cases h:x=a
  ·exact .inr ⟨by simp [h],b,by simp [h]⟩
  ·rw [if_neg h];rcases fold50 x t (b+1) with ⟨h1,h2⟩ | ⟨h1,n,h2⟩
   ·exact .inl ⟨by simp [h,h1],h2⟩
   ·exact .inr ⟨by simp [h1],n,h2⟩
theorem F93_eq (l:List Int) (x:Int) (hl:l.length<=32):F93 ((l,x,()),())=some (decide (x∈l),()):=by
 have hF:=zR
 have h0:L129_0 ((l,x,((l.length:Nat):Int),(0:Int),()),())=some (zk (stp50 x) (λ_=>(.inl ((),()):R50)) 0 l):=by
  unfold L129_0
  refine yC (b:=0) (f:=B129_0) (λ(_:Nat) i=>((l,x,((l.length:Nat):Int),(i:Int),()),())) l (stp50 x) _ (λb i=>b=i)
   (λb i a hI hi ha=>?_) (λb _=>?_) (by omega) rfl
  ·subst hI;have hw:=yH (show b<9223372036854775807 by omega);simp only [B129_0,yt,yj,hi,zd,Bool.and_true,zI,yF,ha,stp50];by_cases h:x=a
   ·exact .inr ⟨_,if_pos h,by simp [h]⟩
   ·refine .inl ⟨_,if_neg h,rfl,?_⟩;simp only [h,xA,zK];rw [hw]
  ·simp only [B129_0,Int.lt_irrefl,xA,zK]
 rcases fold50 x l 0 with ⟨h1,h2⟩ | ⟨h1,n,h2⟩
 ·simp only [F93,F129,h0,h2,zE,h1,xA];rfl
 ·simp only [F93,F129,h0,h2,zE,h1,zd,yj]
theorem F92_eq (l:List Int) (d:Dd) (hl:l.length<=32):F92 ((l,(),()),(d,()))=some (decide (d.1∈l),(d,())):=by
 obtain ⟨dd,du,db,dt,uid,how,fl,ds,de,by',⟨⟩⟩:=d;simp only [F92,F93_eq l dd hl,zE]
end Go.So
namespace Go.So
open Go Go.Ev
set_option maxRecDepth 100000
section
def lowc (c:UInt8):UInt8:=if 65<=c.toNat/\c.toNat<=90 then c+32 else c
theorem sU {α:Type}:∀ (a t:List α) (x y:α),(a++x::t).set a.length y=a++y::t
 | [],_,_,_=>rfl
 | b::a,t,x,y=>by
  simp only [List.cons_append,List.length_cons,List.set_cons_succ,sU a t x y]
theorem drop_cons {α:Type} {s:List α} {i:Nat} {a:α} (hi:i<s.length) (ha:∀ d,s.getD i d=a):s.drop i=a::s.drop (i+1):=by
 rw [List.drop_eq_getElem_cons hi]
 have:=ha s[i]
 rw [wQ,List.getElem?_eq_getElem hi] at this;rw [show s[i]=a from this]
theorem sN {α β τ:Type} (g:α->β) (fin:List β->τ):∀ (s:List α) (b:List β),zk (λa b=>(.inl (b++[g a]):List β⊕τ)) fin b s=fin (b++s.map g)
 | [],b=>by simp [zk]
 | a::t,b=>by
  simp only [zk];rw [sN g fin t];simp
theorem F151_eq (s:List UInt8) (hs:s.length<=maxLen):F151 ((s,()),())=some (s.map lowc,()):=by
 have hF:maxLen<xk:=by unfold maxLen xk;omega
 have hm:maxLen=9223372036854775807:=rfl
 have h:=yC (f:=B151_0) (λ(b:List UInt8) i=>(((),(),((s.length:Nat):Int),(i:Int),()),(b++s.drop i,()))) s (λa b=>.inl (b++[lowc a])) (λb=>(((),()),(b,()))) (λb i=>b.length=i) (b:=[])
  (λb i a hI hi ha=>.inl ⟨_,rfl,by rw [xe,hI];rfl,by
   subst hI;have hd:=drop_cons hi ha;have hlt:b.length<(b++s.drop b.length).length:=by rw [hd];simp
   have hg:(b++s.drop b.length).getD b.length 0=a:=by
    rw [hd,wQ,List.getElem?_append_right (Nat.le_refl _)];simp
   have hset:(b++s.drop b.length).set b.length (a+32)=b++[a+32]++s.drop (b.length+1):=by
    rw [hd,sU];simp
   have hkeep:b++s.drop b.length=b++[a]++s.drop (b.length+1):=by
    rw [hd];simp
   simp only [B151_0,yt,yj,hi,hlt,zd,Bool.and_true,zI,yF,hg,hset,show UInt8.toNat 65=65 from rfl,show UInt8.toNat 90=90 from rfl];unfold lowc;by_cases h1:65<=a.toNat
   ·by_cases h2:a.toNat<=90
    ·simp only [h1,h2,zd,yW,zI,zE,and_self,↓reduceIte,yH (show b.length<9223372036854775807 by omega)]
    ·simp only [h1,h2,zd,xA,Bool.and_false,zK,zE,and_false,↓reduceIte,<- hkeep,yH (show b.length<9223372036854775807 by omega)]
   ·simp only [h1,xA,Bool.false_and,zK,zE,false_and,↓reduceIte,<- hkeep,yH (show b.length<9223372036854775807 by omega)]⟩)
  (λb _=>by simp only [B151_0,Int.lt_irrefl,xA,zK,List.drop_length,List.append_nil]) (by omega) rfl
 rw [sN] at h;have h':L151_0 (((),(),((s.length:Nat):Int),(0:Int),()),(s,()))=some (((),()),(s.map lowc,())):=h;simp only [F151,h',zE]
end
theorem F128_eq (a b:Tx) (ha:a.length<=maxLen) (hb:b.length<=maxLen):F128 ((a,b,()),())=some (decide (a.map lowc=b.map lowc),()):=by
 simp only [F128,F151_eq a ha,F151_eq b hb,zE]
def fld (s:Tx):Tx:=if s.map lowc=inbx.map lowc then inbx else s
theorem F90_eq (s:Tx) (hs:s.length<=maxLen):F90 ((s,()),())=some (fld s,()):=by
 have h:=F128_eq s inbx hs (by decide);unfold inbx at h;unfold fld inbx;simp only [F90,h,zE];by_cases hc:s.map lowc=List.map lowc [73,78,66,79,88]
 ·simp only [hc,zd,zI,↓reduceIte]
 ·simp only [hc,xA,zK,↓reduceIte]
theorem F94_some (a:Bool) (n x y:Int):∃ b,F94 ((a,n,x,y,()),())=some (b,()):=by
 cases a with
 | false=>exact ⟨decide (n=0),by simp only [F94,xf,zI]⟩
 | true=>exact ⟨decide (x<=n)&&decide (n<=y),by simp only [F94,yM,zK]⟩
end Go.So
namespace Go.So
open Go Go.Ev
set_option maxRecDepth 100000
section
def wid (s:List UInt8):Nat:=(Go.Lib.decodeGo ⟨s.toArray⟩).2
theorem wid_eq {s:List UInt8} (h:s≠[]):wid s=(Lib.decodeL s).2:=by
 unfold wid Lib.decodeGo
 have:¬ (⟨s.toArray⟩:ByteArray).size=0:=by
  show ¬ s.toArray.size=0;simpa using h
 rw [if_neg this];rfl
theorem decodeN_4 (n b0 b1 b2 b3:Nat):(Lib.decodeN n b0 b1 b2 b3).2<=4:=by
 unfold Lib.decodeN
 repeat' split
 all_goals simp
theorem wid_pos {s:List UInt8} (h:s≠[]):1<=wid s/\wid s<=s.length/\wid s<=4:=by
 rw [wid_eq h];exact ⟨Lib.decodeL_width s,Lib.decodeL_le s h,by rw [Lib.decodeL_N];exact decodeN_4 _ _ _ _ _⟩
theorem dec_at {s:List UInt8} {i:Nat} (_h:i<s.length):Utf8.decode ⟨s.toArray⟩ i=Lib.decodeL (s.drop i):=by
 rw [<- Lib.decodeL_drop]
theorem wid_at {s:List UInt8} {i:Nat} (h:i<s.length):(Utf8.decode ⟨s.toArray⟩ i).2=wid (s.drop i):=by
 have hne:s.drop i≠[]:=by
  intro he
  have:=congrArg List.length he
  rw [sG,List.length_nil] at this;omega
 rw [wid_eq hne,<- Lib.decodeL_drop]
end
theorem dec_pos (s:List UInt8) (i:Nat) (h:i<s.length):1<=(Utf8.decode ⟨s.toArray⟩ i).2:=by
 rw [wid_at h];exact (wid_pos (by rw [ne_eq,List.drop_eq_nil_iff];omega)).1
theorem L69_iter (s:List UInt8):∀ (k i:Nat),s.length-i<k->∃ r,iter ub k ((s,(),()),((s,i),()))=some r
 | 0,_,h=>absurd h (Nat.not_lt_zero _)
 | k+1,i,h=>by
  rw [iter];by_cases hi:i<s.length
  ·cases hb:ub ((s,(),()),((s,i),())) with
   | none =>
    exfalso;simp only [ub,hi,zd,zI] at hb;revert hb;generalize (!_)=c
    cases c <;> simp
   | some q =>
    cases q with
    | inr r=>exact ⟨r,rfl⟩
    | inl p =>
     have hp:p=((s,(),()),((s,i+(Utf8.decode ⟨s.toArray⟩ i).2),())):=by
      simp only [ub,hi,zd,zI] at hb;revert hb;generalize (!_)=c
      cases c
      ·intro hb;simp only [zK,y5,Sum.inl.injEq] at hb;exact hb.symm
      ·intro hb;simp at hb
     subst hp
     have:=dec_pos s i hi
     exact L69_iter s k _ (by omega)
  ·refine ⟨.inl ((s,()),()),?_⟩;simp only [ub,hi,xA,zK]
theorem F69_some (s:Tx) (hs:s.length<=maxLen):∃ b,F69 ((s,()),())=some (b,()):=by
 have hF:maxLen<xk:=by unfold maxLen xk;omega
 obtain ⟨r,hr⟩:=L69_iter s xk 0 (by omega);have h:L69_0 ((s,(),()),((s,0),()))=some r:=hr
 cases r with
 | inl r=>exact ⟨(!(decide (r.1.1=([]:List UInt8))))&&(decide ((((List.length r.1.1):Nat):Int)<=(24:Int))),by simp only [F69,h,zE]⟩
 | inr r=>exact ⟨false,by simp only [F69,h,zE]⟩
end Go.So
namespace Go.So
open Go Go.Ev
set_option maxRecDepth 100000
structure GoodM (m:Mp):Prop where
 nodup:(m.map (·.1)).Nodup
 good:∀ (k:Tx) u,zO .str m k=some u->Good (usr u)
theorem GoodM.nil:GoodM []:=⟨List.nodup_nil,λk u h=>by cases h⟩
theorem GoodM.set {m:Mp} (G:GoodM m) (k:Tx) (u:ww) (hu:Good u):GoodM (yA .str m k (u.1,(u.2.1,(u.2.2.1,())))) where
 nodup:=mapSet_nd xH G.nodup
 good:=λk' u' h=>by
  rw [mapGet_set xH G.nodup] at h
  cases hk:yw .str k' k with
  | true =>
   rw [hk,zI,y5] at h;subst h;exact hu
  | false =>
   rw [hk,zK] at h;exact G.good k' u' h
end Go.So
namespace Go.So
open Go Go.Ev
set_option maxRecDepth 100000
abbrev Ls:Type:=List (List UInt8)
def yQ:Nat->List UInt8->Ls
 | 0,_=>[]
 | n+1,s=>if s=[] then [] else s.take (wid s)::yQ n (s.drop (wid s))
theorem lets_len:∀ (n:Nat) (s:List UInt8),(yQ n s).length<=n
 | 0,s=>by simp [yQ]
 | n+1,s=>by
  unfold yQ;split
  ·simp
  ·simp only [List.length_cons]
   have:=lets_len n (s.drop (wid s));omega
theorem lets_nil (n:Nat):yQ n []=[]:=by cases n <;> simp [yQ]
theorem bytes16 {n:Nat} (h:n<=2000000):zH n 16=true:=by
 unfold zH;simp;omega
theorem F82_eq {s:List UInt8} (hs:s.length<=1100000):F82 ((s,()),())=some ((),(yQ s.length s,())):=by
 obtain ⟨r,h1,h2⟩:=z6 (f:=B82_0) (λp=>∃ (t:List UInt8) (out:Ls) (n:Nat),p=((t,(),()),(out,()))/\t.length<=n/\out.length+n<=s.length/\out++yQ n t=yQ s.length s) (λp=>p.1.1.length)
  (λr=>r=(((),()),(yQ s.length s,())))
  (λp ⟨t,out,n,hp,ht,ho,hl⟩=>by
   subst hp;by_cases h0:t=[]
   ·right;subst h0;rw [lets_nil,List.append_nil] at hl;exact ⟨_,by rw [<- hl];rfl,rfl⟩
   ·left;obtain ⟨w1,w2,w3⟩:=wid_pos h0;have hwd:(Go.Lib.decodeGo ⟨List.toArray t⟩).2=wid t:=rfl;have hpos:0<t.length:=List.length_pos_iff.2 h0;obtain ⟨n,rfl⟩:∃ m,n=m+1:=⟨n-1,by omega⟩;have c1:decide ((0:Int)<((t.length:Nat):Int))=true:=zm (by omega);have c2:decide ((0:Int)<=((wid t:Nat):Int))=true:=zm (by omega);have c3:decide (((wid t:Nat):Int)<=((t.length:Nat):Int))=true:=zm (by omega);have c4:zH (out.length+[List.take (wid t) t].length) 16=true:=bytes16 (by simp<;>omega);refine ⟨((t.drop (wid t),(),()),(out++[t.take (wid t)],())),?_,⟨t.drop (wid t),out++[t.take (wid t)],n,rfl,by rw [sG];omega,by simp;omega,?_⟩,?_⟩
    ·simp only [B82_0,hwd,c1,zI,c2,c3,yF,c4,yW,zE,Int.le_refl,zd];rw [List.take_of_length_le (by simp)]
    ·rw [<- hl];simp only [yQ];rw [if_neg h0];simp
    ·simp only [sG];omega)
  (p:=((s,(),()),([],()))) ⟨s,[],s.length,rfl,Nat.le_refl _,by simp,rfl⟩ (by unfold xk;simp only;omega)
 subst h2;have h1':L82_0 ((s,(),()),([],()))=some (((),()),(yQ s.length s,())):=h1;simp only [F82,h1',zE]
open Go.Qw (pln)
def enc (c:Nat):List UInt8:=(ByteArray.data (Go.Utf8.encode (c:Int))).toList
theorem enc_rune (r:Nat) (h1:r<=1114111) (h2:r<55296\/57344<=r):enc r=Lib.encodeRune (r:Int):=by
 have v:Utf8.valid (r:Int)=true:=by simp [Utf8.valid];omega
 have hb:∀ (x:Int) (n:Nat),x=(n:Int)->UInt8.ofNat n=x.toNat.toUInt8:=λx n h=>by subst h;simp
 unfold enc Lib.encodeRune;by_cases c1:r<128
 ·rw [Lib.encodeRuneZ_one (by omega) (by omega)];simp [Utf8.encode,v,c1]
 ·by_cases c2:r<2048
  ·rw [Lib.encodeRuneZ_two (by omega) (by omega)];simp only [List.map_cons,List.map_nil];rw [<- hb (192+(r:Int)/64) (192+r/64) (by omega),<- hb (128+(r:Int) % 64) (128+r % 64) (by omega)];simp [Utf8.encode,v,c1,c2]
  ·by_cases c3:r<65536
   ·rw [Lib.encodeRuneZ_three (by omega)];simp only [List.map_cons,List.map_nil];rw [<- hb (224+(r:Int)/4096) (224+r/4096) (by omega),<- hb (128+(r:Int)/64 % 64) (128+r/64 % 64) (by omega),<- hb (128+(r:Int) % 64) (128+r % 64) (by omega)];simp [Utf8.encode,v,c1,c2,c3]
   ·rw [Lib.encodeRuneZ_four (by omega) (by omega)];simp only [List.map_cons,List.map_nil];rw [<- hb (240+(r:Int)/262144) (240+r/262144) (by omega),<- hb (128+(r:Int)/4096 % 64) (128+r/4096 % 64) (by omega),<- hb (128+(r:Int)/64 % 64) (128+r/64 % 64) (by omega),<- hb (128+(r:Int) % 64) (128+r % 64) (by omega)];simp [Utf8.encode,v,c1,c2,c3]
theorem dec_valid (l:List UInt8):(Lib.decodeL l).1<=1114111/\((Lib.decodeL l).1<55296\/57344<=(Lib.decodeL l).1):=by
 have k0:=(l.getD 0 0).toNat_lt;rw [Lib.decodeL_N];rcases Lib.decodeN_shape l.length (l.getD 0 0).toNat (l.getD 1 0).toNat (l.getD 2 0).toNat (l.getD 3 0).toNat with ⟨c,e⟩ | ⟨c1,c2,c3,cv,e⟩ | ⟨c1,c2,c3,c4,cv,cs,e⟩ | ⟨c1,c2,c3,c4,c5,cv,cw,e⟩ | e
 all_goals (rw [e];dsimp only;omega)
theorem enc_take (l:List UInt8) (hne:l≠[]) (hv:¬ ((Lib.decodeL l).1=65533/\(Lib.decodeL l).2=1)):enc (Lib.decodeL l).1=l.take (Lib.decodeL l).2:=by
 rw [<- Lib.encode_decode l hne hv];exact enc_rune _ (dec_valid l).1 (dec_valid l).2
theorem uE (l:List UInt8) (w i:Nat):(l.take w).getD i 0=if i<w then l.getD i 0 else 0:=by
 rw [wQ,wQ,List.getElem?_take];split <;> rfl
theorem dec_take (l:List UInt8) (hne:l≠[]):Lib.decodeL (l.take (Lib.decodeL l).2)=Lib.decodeL l:=by
 have hl:0<l.length:=List.length_pos_iff.2 hne;have k0:=(l.getD 0 0).toNat_lt;have hN:=Lib.decodeL_N l;rcases Lib.decodeN_shape l.length (l.getD 0 0).toNat (l.getD 1 0).toNat (l.getD 2 0).toNat (l.getD 3 0).toNat with ⟨c,e⟩ | ⟨c1,c2,c3,cv,e⟩ | ⟨c1,c2,c3,c4,cv,cs,e⟩ | ⟨c1,c2,c3,c4,c5,cv,cw,e⟩ | e
 ·rw [e] at hN;rw [hN,Lib.decodeL_N];simp only [uE,Nat.lt_one_iff,if_true,Lib.decodeN,c]
 ·rw [e] at hN;rw [hN,Lib.decodeL_N];have hm:(l.take 2).length=2:=by rw [xG];omega
  simp only [uE,hm,Lib.decodeN,show (0:Nat)<2 from by omega,show (1:Nat)<2 from by omega,if_true];rw [if_neg (by omega),if_pos ⟨c1,trivial,c3⟩,if_pos cv]
 ·rw [e] at hN;rw [hN,Lib.decodeL_N];have hm:(l.take 3).length=3:=by rw [xG];omega
  simp only [uE,hm,Lib.decodeN,show (0:Nat)<3 from by omega,show (1:Nat)<3 from by omega,show (2:Nat)<3 from by omega,if_true];rw [if_neg (by omega),if_neg (by omega),if_pos ⟨c1,⟨trivial,c3⟩,trivial,c4⟩,if_pos ⟨cv,by omega⟩]
 ·rw [e] at hN;rw [hN,Lib.decodeL_N];have hm:(l.take 4).length=4:=by rw [xG];omega
  simp only [uE,hm,Lib.decodeN,show (0:Nat)<4 from by omega,show (1:Nat)<4 from by omega,show (2:Nat)<4 from by omega,show (3:Nat)<4 from by omega,if_true];rw [if_neg (by omega),if_neg (by omega),if_neg (by omega),if_pos ⟨c1,⟨trivial,c3⟩,⟨trivial,c4⟩,trivial,c5⟩,if_pos ⟨cv,by omega⟩]
 ·rw [e] at hN;rw [hN,Lib.decodeL_N];have hm:(l.take 1).length=1:=by rw [xG];omega
  have h128:¬ (l.getD 0 0).toNat<128:=λh=>by
   have:Lib.decodeN l.length (l.getD 0 0).toNat (l.getD 1 0).toNat (l.getD 2 0).toNat (l.getD 3 0).toNat=((l.getD 0 0).toNat,1):=by
    unfold Lib.decodeN;rw [if_pos h]
   rw [e] at this
   have:=congrArg Prod.fst this
   simp only at this;omega
  simp only [uE,hm,Lib.decodeN,Nat.lt_one_iff,if_true];rw [if_neg h128,if_neg (by omega),if_neg (by omega),if_neg (by omega)]
theorem dec_low (l:List UInt8):((l.getD 0 0).toNat<128->Lib.decodeL l=((l.getD 0 0).toNat,1))/\(128<=(l.getD 0 0).toNat->128<=(Lib.decodeL l).1):=by
 have k0:=(l.getD 0 0).toNat_lt;have hN:=Lib.decodeL_N l;refine ⟨λh=>?_,λh=>?_⟩
 ·rw [hN];unfold Lib.decodeN;rw [if_pos h]
 ·rcases Lib.decodeN_shape l.length (l.getD 0 0).toNat (l.getD 1 0).toNat (l.getD 2 0).toNat (l.getD 3 0).toNat with ⟨c,e⟩ | ⟨c1,c2,c3,cv,e⟩ | ⟨c1,c2,c3,c4,cv,cs,e⟩ | ⟨c1,c2,c3,c4,c5,cv,cw,e⟩ | e
  all_goals (rw [hN,e];dsimp only;omega)
theorem F83_eq (r:List UInt8) (hne:r≠[]) (hr:r.length<=8000000):F83 ((r.take (Lib.decodeL r).2,()),())=some (pln (Lib.decodeL r).1 (Lib.decodeL r).2,()):=by
 obtain ⟨h1,h2⟩:=dec_low r;have hd:=dec_take r hne;have hw:=Lib.decodeL_width r;have hle:=Lib.decodeL_le r hne;have hlen:(r.take (Lib.decodeL r).2).length=(Lib.decodeL r).2:=by rw [xG];omega
 have hne':r.take (Lib.decodeL r).2≠[]:=λh=>by rw [h] at hlen;simp at hlen;omega
 have hv:Lib.validD (r.take (Lib.decodeL r).2)=!decide ((Lib.decodeL r).1=65533/\(Lib.decodeL r).2=1):=by
  rw [Lib.validD_step _ hne',hd,List.drop_eq_nil_of_le (by omega),Lib.validD_nil];by_cases h:(Lib.decodeL r).1=65533/\(Lib.decodeL r).2=1
  ·rw [if_pos h,zm h];rfl
  ·rw [if_neg h,yv h];rfl
 have h3:¬ ((Lib.decodeL r).1=65533/\(Lib.decodeL r).2=1)->(Lib.decodeL r).1=65533->(Lib.decodeL r).2=3:=λh h'=>by
  have e:=enc_take r hne h;rw [h'] at e
  have:=congrArg List.length e
  rw [hlen] at this;have e3:(enc 65533).length=3:=by decide
  omega
 have e0:(r.take (Lib.decodeL r).2).getD 0 0=r.getD 0 0:=by rw [uE,if_pos (by omega)]
 have f1:decide ((r.take (Lib.decodeL r).2).length<=9223372036854775807)=true:=zm (by omega);have f2:decide ((0:Int)<(((r.take (Lib.decodeL r).2).length:Nat):Int))=true:=zm (by omega);have z:UInt8.toNat 32=32:=rfl;unfold F83;simp only [f1,f2,Bool.true_or,zI,hv,e0,z];generalize Lib.decodeL r=d at *;generalize r.getD 0 0=a at *
 have h127:decide (a=(127:UInt8))=decide (a.toNat=127):=by
  rw [decide_eq_decide];exact ⟨λh=>by rw [h];rfl,λh=>UInt8.toNat_inj.1 h⟩
 rw [h127];congr 2;unfold pln;by_cases ha:a.toNat<128
 ·rw [h1 ha];by_cases q1:32<=a.toNat
  ·by_cases q2:a.toNat=127
   ·simp [q2]
   ·have q3:¬ (a.toNat:Int)=127:=by omega
    have q4:¬ (a.toNat:Int)=65533:=by omega
    have q5:(32:Int)<=(a.toNat:Int):=by omega
    have q6:¬ a.toNat=65533:=by omega
    simp [q1,q2,q3,q4,q5,q6]
  ·have q5:¬ (32:Int)<=(a.toNat:Int):=by omega
   simp [q1,q5]
 ·have h4:=h2 (by omega);have q1:32<=a.toNat:=by omega
  have q2:¬ a.toNat=127:=by omega
  have q3:(32:Int)<=(d.1:Int):=by omega
  have q4:¬ (d.1:Int)=127:=by omega
  rw [zm q1,yv q2,zm q3,yv q4];by_cases hbad:d.1=65533/\d.2=1
  ·have q5:(d.1:Int)=65533:=by omega
   have q6:¬ (d.2:Int)=3:=by omega
   rw [zm hbad,zm q5,yv q6];rfl
  ·rw [yv hbad];by_cases h5:d.1=65533
   ·have h6:=h3 hbad h5;have q5:(d.1:Int)=65533:=by omega
    have q6:(d.2:Int)=3:=by omega
    rw [zm q5,zm q6];rfl
   ·have q5:¬ (d.1:Int)=65533:=by omega
    rw [yv q5];rfl
def allP:Nat->List UInt8->Bool
 | 0,_=>true
 | k+1,r=>if r=[] then true else Go.Qw.pln (Lib.decodeL r).1 (Lib.decodeL r).2&&allP k (r.drop (Lib.decodeL r).2)
theorem quoF_err:∀ (k:Nat) (r:List UInt8) (place:Nat) (out:List UInt8),(Go.Qw.quoF k r place out).2.2=if allP k r=true then 0 else 4
 | 0,r,place,out=>rfl
 | k+1,r,place,out=>by
  unfold Go.Qw.quoF allP;by_cases h:r=[]
  ·rw [if_pos h,if_pos h];rfl
  ·rw [if_neg h,if_neg h]
   cases hp:Go.Qw.pln (Lib.decodeL r).1 (Lib.decodeL r).2
   ·simp
   ·rw [if_pos rfl,quoF_err k,Bool.true_and]
def qok (s:List UInt8):Bool:=decide (s.length<=1024)&&allP s.length s
theorem quo_err (s:List UInt8):decide ((Go.Qw.quo s).2.2=0)=qok s:=by
 unfold Go.Qw.quo qok;by_cases h:1024<s.length
 ·rw [if_pos h];have:¬ s.length<=1024:=by omega
  simp [this]
 ·rw [if_neg h];have h':s.length<=1024:=by omega
  rw [quoF_err]
  cases allP s.length s <;> simp [h']
noncomputable def pl (x:List UInt8):Bool:=match F83 ((x,()),()) with
 | some (b,_)=>b
 | none=>false
theorem lets_plain:∀ (n:Nat) (r:List UInt8),r.length<=n->r.length<=8000000 ->
  (∀ x∈yQ n r,F83 ((x,()),())=some (pl x,())/\x.length<=4)/\(yQ n r).all pl=allP n r
 | 0,r,_,_=>⟨λx hx=>by simp [yQ] at hx,rfl⟩
 | n+1,r,hn,hr=>by
  unfold yQ allP;by_cases h:r=[]
  ·rw [if_pos h,if_pos h];exact ⟨λx hx=>by simp at hx,rfl⟩
  ·rw [if_neg h,if_neg h];have hw:=wid_eq h;obtain ⟨w1,w2,w3⟩:=wid_pos h;rw [hw] at w1 w2 w3 ⊢;have hp:=F83_eq r h hr
   have hpl:pl (r.take (Lib.decodeL r).2)=Go.Qw.pln (Lib.decodeL r).1 (Lib.decodeL r).2:=by
    unfold pl;rw [hp]
   obtain ⟨h1,h2⟩:=lets_plain n (r.drop (Lib.decodeL r).2) (by simp<;>omega) (by simp<;>omega);refine ⟨λx hx=>?_,?_⟩
   ·rcases List.mem_cons.mp hx with rfl | hx
    ·exact ⟨by rw [hp,hpl],by simp;omega⟩
    ·exact h1 x hx
   ·rw [List.all_cons,h2,hpl]
theorem F54_err (s:List UInt8) (hs:s.length<=1100000):∃ o p,F54 ((s,()),())=some ((o,p,if qok s=true then 0 else if 1024<s.length then 6 else 4,()),()):=by
 unfold F54;by_cases h:1024<s.length
 ·have h1:decide ((1024:Int)<((s.length:Nat):Int))=true:=zm (by omega);have h2:qok s=false:=by unfold qok;simp;omega
  simp only [h1,zI];exact ⟨[],0,by rw [h2];simp [h]⟩
 ·have h1:decide ((1024:Int)<((s.length:Nat):Int))=false:=yv (by omega);have h2:qok s=allP s.length s:=by unfold qok;simp;omega
  simp only [h1,zK,F82_eq hs,zE];obtain ⟨hx,hall⟩:=lets_plain s.length s (Nat.le_refl _) (by omega);have hL:(yQ s.length s).length<=s.length:=lets_len s.length s;generalize yQ s.length s=L at hx hall hL;have hF:=zR
  have hw:=yC (f:=B54_0) (λ(b:List UInt8×Nat) i=>(((),b.1,(i:Int),()),(L,()))) L
   (λa b=>if pl a=true then .inl ((if a=[34]\/a=[92] then b.1++[92] else b.1)++a,b.2+1) else .inr (.inr (((),(b.2:Int),(),()),())))
   (λb=>.inl ((b.1,()),())) (λb i=>b.1.length<=1+5*i/\b.2=i) (b:=([34],0))
   (λb i a hI hi ha=>by
    obtain ⟨hI1,hI2⟩:=hI;obtain ⟨f1,f2⟩:=hx a (by have:=ha [];rw [wQ,List.getElem?_eq_getElem hi] at this;simp at this;rw [<- this];exact List.getElem_mem hi);have d0:decide ((i:Int)<((L.length:Nat):Int))=true:=zm (by omega);have d1:decide ((0:Int)<=(i:Int))=true:=zm (by omega);have g1:L.getD (Int.toNat (i:Int)) []=a:=by rw [yF];exact ha []
    have w1:zh ((i:Int)+1)=((i+1:Nat):Int):=by rw [zV (by omega) (by omega)];rfl
    have b1:fits (b.1.length+([92]:List UInt8).length)=true:=zm (by simp<;>omega);have b2:fits (b.1.length+a.length)=true:=zm (by omega);have b3:fits ((b.1++[92]).length+a.length)=true:=zm (by simp<;>omega)
    cases hpl:pl a
    ·right;refine ⟨_,if_neg (by simp),?_⟩;simp only [B54_0,d0,d1,yW,zI,g1,f1,hpl,zE,xf,hI2]
    ·left;refine ⟨_,if_pos rfl,⟨?_,by simp [hI2]⟩,?_⟩
     ·by_cases hq:a=[34]\/a=[92]
      ·simp [if_pos hq];omega
      ·simp [if_neg hq];omega
     ·by_cases hq:a=[34]\/a=[92]
      ·have hq':(decide (a=[34])||decide (a=[92]))=true:=by simpa using hq
       simp only [B54_0,d0,d1,yW,zI,g1,f1,hpl,zE,yM,zK,Bool.true_or,hq',b1,b3,w1,if_pos hq]
      ·have hq':(decide (a=[34])||decide (a=[92]))=false:=by simpa using hq
       simp only [B54_0,d0,d1,yW,zI,g1,f1,hpl,zE,yM,zK,Bool.true_or,hq',b2,w1,if_neg hq])
   (λb _=>by
    have d0:decide (((L.length:Nat):Int)<((L.length:Nat):Int))=false:=by simp
    simp only [B54_0,d0,zK])
   (by omega) ⟨by simp,rfl⟩
  have hw':L54_0 (((),[34],0,()),(L,()))=_:=hw;rw [hw']
  have hfold:∀ (M:List (List UInt8)) (b:List UInt8×Nat),b.1.length<=1+5*b.2->b.2+M.length<=1100000->(∀ x∈M,x.length<=4) ->
    (M.all pl=true->∃ b':List UInt8×Nat,b'.1.length<=6000000/\zk (λa b=>if pl a=true then .inl ((if a=[34]\/a=[92] then b.1++[92] else b.1)++a,b.2+1) else .inr (.inr (((),(b.2:Int),(),()),())))
     (λb:List UInt8×Nat=>(.inl ((b.1,()),()):((List UInt8×Unit)×Unit)⊕((Unit×Int×Unit×Unit)×Unit))) b M=.inl ((b'.1,()),())) /\
    (M.all pl=false->∃ p:Int,zk (λa b=>if pl a=true then .inl ((if a=[34]\/a=[92] then b.1++[92] else b.1)++a,b.2+1) else .inr (.inr (((),(b.2:Int),(),()),())))
     (λb:List UInt8×Nat=>(.inl ((b.1,()),()):((List UInt8×Unit)×Unit)⊕((Unit×Int×Unit×Unit)×Unit))) b M=.inr (((),p,(),()),())):=by
   intro M;induction M with
   | nil=>exact λb h1 h2 _=>⟨λ_=>⟨b,by simp at h2;omega,rfl⟩,λh=>by simp at h⟩
   | cons a M ih =>
    intro b h1 h2 h3;simp only [List.length_cons] at h2;have ha:=h3 a (by simp)
    have:=ih ((if a=[34]\/a=[92] then b.1++[92] else b.1)++a,b.2+1) (by
     by_cases hq:a=[34]\/a=[92]
     ·simp [if_pos hq];omega
     ·simp [if_neg hq];omega) (by simp only;omega) (λx hx=>h3 x (by simp [hx]))
    cases hpl:pl a
    ·refine ⟨λh=>by simp [hpl] at h,λ_=>⟨(b.2:Int),?_⟩⟩;simp only [zk,hpl,Bool.false_eq_true,if_false]
    ·simp only [List.all_cons,hpl,Bool.true_and];simp only [zk,hpl,if_true];exact this
  obtain ⟨q1,q2⟩:=hfold L ([34],0) (by simp) (by simp only;omega) λx hx'=>(hx x hx').2
  rw [h2,<- hall]
  cases hA:L.all pl
  ·obtain ⟨p,hp⟩:=q2 hA;rw [hp];exact ⟨[],p,by simp [h]⟩
  ·obtain ⟨b',hb,hp⟩:=q1 hA;rw [hp];have b1:fits (b'.1.length+([34]:List UInt8).length)=true:=zm (by simp<;>omega);simp only [zE,b1,zI];exact ⟨b'.1++[34],0,by simp⟩
end Go.So
namespace Go.So
open Go Go.Ev
set_option maxRecDepth 100000
def goodL:List UInt8:=[97,98,99,100,101,102,103,104,105,106,107,108,109,110,111,112,113,114,115,116,117,118,119,120,121,122,48,49,50,51,52,53,54,55,56,57,46,45,95]
def okc (c:UInt8):Bool:=goodL.any λg=>decide (c=g)
def okn (n:Int):Bool:=((((decide (97<=n)&&decide (n<=122))||(decide (48<=n)&&decide (n<=57)))||decide (n=46))||decide (n=45))||decide (n=95)
theorem okc_all:((List.range 256).all λn=>okc (UInt8.ofNat n) == okn (n:Int))=true:=by decide +kernel
theorem okc_eq (c:UInt8):okc c=okn (c.toNat:Int):=by
 have h:=List.all_eq_true.1 okc_all c.toNat (List.mem_range.2 c.toNat_lt);rw [UInt8.ofNat_toNat] at h;exact eq_of_beq h
theorem okn_big {n:Nat} (h:128<=n):okn (n:Int)=false:=by
 unfold okn;simp;omega
def yq (s:Tx):Bool:=s.all okc&&decide (1<=s.length)&&decide (s.length<=24)
theorem drop_all {s:List UInt8} {i:Nat} (h:i<s.length):s.drop i=s.getD i 0::s.drop (i+1):=by
 rw [List.drop_eq_getElem_cons h,wQ,List.getElem?_eq_getElem h];rfl
theorem L69_good (s:List UInt8):∀ (k i:Nat) (r:(Tx×Unit)×Unit),iter ub k ((s,(),()),((s,i),()))=some (.inl r)->r=((s,()),())/\(s.drop i).all okc=true
 | 0,_,_,h=>by simp [iter] at h
 | k+1,i,r,h=>by
  rw [iter] at h;by_cases hi:i<s.length
  ·have hd:Utf8.decode ⟨s.toArray⟩ i=Lib.decodeL (s.drop i):=dec_at hi
   have hb:ub ((s,(),()),((s,i),()))=cond (!okn ((Lib.decodeL (s.drop i)).1:Int)) (some (Sum.inr (Sum.inr (((),()),())))) (some (Sum.inl ((s,(),()),((s,(i+(Lib.decodeL (s.drop i)).2)),())))):=by
    rw [<- hd];simp only [ub,hi,zd,zI];rfl
   rw [hb] at h
   cases hn:okn ((Lib.decodeL (s.drop i)).1:Int) with
   | false=>rw [hn] at h;simp at h
   | true =>
    rw [hn] at h;simp only [yM,zK] at h;obtain ⟨l1,l2⟩:=dec_low (s.drop i)
    have hlow:((s.drop i).getD 0 0).toNat<128:=by
     rcases Nat.lt_or_ge ((s.drop i).getD 0 0).toNat 128 with h' | h'
     ·exact h'
     ·exfalso;rw [okn_big (l2 h')] at hn
      cases hn
    have hdl:=l1 hlow;rw [hdl] at h hn;obtain ⟨h1,h2⟩:=L69_good s k (i+1) r h;refine ⟨h1,?_⟩;have e:=drop_all hi;rw [e,List.all_cons,h2,Bool.and_true,okc_eq];rw [e] at hn;exact hn
  ·simp only [ub,hi,xA,zK] at h
   cases h;refine ⟨rfl,?_⟩;rw [List.drop_eq_nil_of_le (by omega)];rfl
theorem F69_good {s:Tx} (h:F69 ((s,()),())=some (true,())) (hs:s.length<=maxLen):yq s=true:=by
 have hF:maxLen<xk:=by unfold maxLen xk;omega
 obtain ⟨r,hr⟩:=L69_iter s xk 0 (by omega);have hL:L69_0 ((s,(),()),((s,0),()))=some r:=hr
 cases r with
 | inr r=>simp only [F69,hL,zE] at h;simp at h
 | inl r =>
  obtain ⟨h1,h2⟩:=L69_good s xk 0 r hr;subst h1;simp only [F69,hL,zE,y5,Prod.mk.injEq,and_true,yR,Bool.not_eq_true',decide_eq_false_iff_not,xX] at h;rw [List.drop_zero] at h2;unfold yq;have:1<=s.length:=List.length_pos_iff.2 h.1;simp only [h2,this,zd,Bool.and_true,Bool.true_and,xX];omega
theorem foldS_all {α τ:Type} (q:α->Bool) (r f:τ):∀ (l:List α),zk (λa (_:Unit)=>if q a=true then (.inl ():Unit⊕τ) else .inr r) (λ_=>f) () l=if l.all q=true then f else r
 | []=>rfl
 | a::t=>by
  have ih:=foldS_all q r f t;simp only [zk,List.all_cons];rcases Bool.eq_false_or_eq_true (q a) with hq | hq
  ·simp only [hq,↓reduceIte,Bool.true_and,ih]
  ·simp only [hq,Bool.false_eq_true,↓reduceIte,Bool.false_and]
theorem foldS_any {α τ:Type} (q:α->Bool) (f:Bool->τ):∀ (l:List α) (b:Bool),zk (λa b=>(.inl (b||q a):Bool⊕τ)) f b l=f (b||l.any q)
 | [],b=>by simp [zk]
 | a::t,b=>by
  simp only [zk,List.any_cons];rw [foldS_any q f t,Bool.or_assoc]
theorem L32_1_eq (s:Tx) (i:Nat) (hi:i<s.length):L32_1 ((s,(i:Int),false,(0:Int),()),())=some ((s,(i:Int),okc (s.getD i 0),()),()):=by
 have hF:=zR;unfold L32_1
 refine (yo (f:=B32_1) (λ(b:Bool) k=>((s,(i:Int),b,(k:Int),()),())) goodL (λa b=>.inl (b||decide (s.getD i 0=a))) (λb=>((s,(i:Int),b,()),()))
  (λb k a hk ha=>?_) (λb=>?_) (by show 39<xk;omega) (b:=false)).trans ?_
 ·have hk39:k<39:=hk;have c0:decide ((k:Int)<39)=true:=zm (by omega);have c1:decide ((0:Int)<=(i:Int))=true:=zm (by omega);have c2:decide ((i:Int)<((s.length:Nat):Int))=true:=zm (by omega);have c3:decide ((0:Int)<=(k:Int))=true:=zm (by omega);have w1:zh ((k:Int)+1)=((k+1:Nat):Int):=by rw [zV (by omega) (by omega)];rfl
  have ha':List.getD ([97,98,99,100,101,102,103,104,105,106,107,108,109,110,111,112,113,114,115,116,117,118,119,120,121,122,48,49,50,51,52,53,54,55,56,57,46,45,95]:List UInt8) k 0=a:=ha 0;simp only [B32_1,c0,c1,c2,c3,yW,Bool.true_or,zI,yF,zE,ha',w1]
 ·have c0:decide (((goodL.length:Nat):Int)<39)=false:=rfl;simp only [B32_1,c0,zK]
 ·rw [foldS_any (λa=>decide (s.getD i 0=a)),Bool.false_or];rfl
theorem uX (s:Tx) (hs:s.length<=maxLen):F32 ((s,()),())=some (yq s,()):=by
 have hF:maxLen<xk:=by unfold maxLen xk;omega
 have hm:maxLen<=9223372036854775807:=by unfold maxLen;omega
 have hn:s.length<xk:=Nat.lt_of_le_of_lt hs hF
 have hL:L32_0 ((s,(0:Int),()),())=some (if s.all okc=true then (.inl ((s,()),()):((Tx×Unit)×Unit)⊕((Unit×Unit)×Unit)) else .inr (((),()),())):=by
  unfold L32_0
  refine (yo (f:=B32_0) (λ(_:Unit) i=>((s,(i:Int),()),())) s (λa _=>if okc a=true then .inl () else .inr (.inr (((),()),()))) (λ_=>.inl ((s,()),()))
   (λb i a hi ha=>?_) (λb=>?_) hn (b:=())).trans ?_
  ·have c0:decide ((i:Int)<((s.length:Nat):Int))=true:=zm (by omega);have w1:zh ((i:Int)+1)=((i+1:Nat):Int):=by rw [zV (by omega) (by omega)];rfl
   have e:=L32_1_eq s i hi;rw [ha 0] at e
   cases hq:okc a
   ·simp only [B32_0,c0,zI,e,zE,hq,xf,Bool.false_eq_true,↓reduceIte]
   ·simp only [B32_0,c0,zI,e,zE,hq,yM,zK,↓reduceIte,w1]
  ·simp only [B32_0,Int.lt_irrefl,xA,zK]
  ·rw [foldS_all]
 simp only [F32,hL,zE];unfold yq
 cases s.all okc
 ·simp
 ·have e1:decide ((1:Int)<=((s.length:Nat):Int))=decide (1<=s.length):=by rw [decide_eq_decide];omega
  have e2:decide (((s.length:Nat):Int)<=24)=decide (s.length<=24):=by rw [decide_eq_decide];omega
  simp only [↓reduceIte,zE,e1,e2,Bool.true_and]
noncomputable def zq (s:Tx):Bool:=decide (1<=s.length)&&decide (s.length<=24)&&qok s&&decide (fld s=s)
theorem F70_eq (s:Tx):F70 ((s,()),())=some (zq s,()):=by
 have hq:decide ((quo s).2.2=0)=qok s:=quo_err s;have e2:decide (((s.length:Nat):Int)<=24)=decide (s.length<=24):=by rw [decide_eq_decide];omega
 have e1:(!(decide (s=([]:List UInt8))))=decide (1<=s.length):=by
  cases s <;> simp
 unfold zq;simp only [F70,e1,e2,hq]
 cases hc:(decide (1<=s.length)&&decide (s.length<=24))&&qok s with
 | false=>simp
 | true =>
  have hl:s.length<=24:=by
   simp only [yR,xX] at hc;omega
  simp only [zI,F90_eq s (Nat.le_trans hl (by decide)),zE,Bool.true_and]
theorem F84_eq (s:Tx) (hs:s.length<=1100000):F84 ((s,()),())=some (s.map lowc,()):=by
 have hF:=zR
 have hL:L84_0 ((s,([]:List UInt8),(0:Int),()),())=some ((s.map lowc,()),()):=by
  unfold L84_0
  refine (yC (f:=B84_0) (λ(b:List UInt8) i=>((s,b,(i:Int),()),())) s (λa b=>.inl (b++[lowc a])) (λb=>((b,()),())) (λb i=>b.length=i)
   (λb i a hI hi ha=>?_) (λb _=>?_) (by omega) (b:=[]) rfl).trans ?_
  ·left;refine ⟨_,rfl,by simp [hI],?_⟩;have c0:decide ((i:Int)<((s.length:Nat):Int))=true:=zm (by omega);have c1:decide ((0:Int)<=(i:Int))=true:=zm (by omega);have w1:zh ((i:Int)+1)=((i+1:Nat):Int):=by rw [zV (by omega) (by omega)];rfl
   have b1:∀ c:UInt8,fits (b.length+([c]:List UInt8).length)=true:=λc=>zm (by simp<;>omega)
   have z1:UInt8.toNat 65=65:=rfl;have z2:UInt8.toNat 90=90:=rfl;simp only [B84_0,c0,c1,yW,zI,yF,ha 0,z1,z2];unfold lowc;by_cases h1:65<=a.toNat
   ·by_cases h2:a.toNat<=90
    ·simp only [h1,h2,zd,yW,zI,zE,b1,w1,and_self,↓reduceIte]
    ·simp only [h1,h2,zd,xA,Bool.and_false,zK,zI,zE,b1,w1,and_false,↓reduceIte]
   ·simp only [h1,xA,Bool.false_and,zK,zI,zE,b1,w1,false_and,↓reduceIte]
  ·simp only [B84_0,Int.lt_irrefl,xA,zK]
  ·rw [sN];rfl
 simp only [F84,hL,zE]
theorem F55_eq (s:Tx) (hs:s.length<=1100000):F55 ((s,()),())=some (fld s,()):=by
 have hi:List.map lowc inbx=[105,110,98,111,120]:=by decide
 simp only [F55,F84_eq s hs,zE];unfold fld;rw [hi];by_cases h:s.map lowc=[105,110,98,111,120]
 ·simp only [h,zd,zI,↓reduceIte];rfl
 ·simp only [h,xA,zK,↓reduceIte]
theorem y8 (s:Tx) (hs:s.length<=1100000):F33 ((s,()),())=some (zq s,()):=by
 obtain ⟨o,p,h⟩:=F54_err s hs;have e1:decide ((1:Int)<=((s.length:Nat):Int))=decide (1<=s.length):=by rw [decide_eq_decide];omega
 have e2:decide (((s.length:Nat):Int)<=24)=decide (s.length<=24):=by rw [decide_eq_decide];omega
 have hq:decide ((if qok s=true then 0 else if 1024<s.length then 6 else 4:Int)=0)=qok s:=by
  cases qok s
  ·by_cases h':1024<s.length <;> simp [h']
  ·simp
 unfold zq;simp only [F33,h,zE,e1,e2,hq]
 cases hc:(decide (1<=s.length)&&decide (s.length<=24))&&qok s with
 | false=>simp
 | true=>simp only [zI,F55_eq s hs,zE,Bool.true_and]
theorem bl_eq:∀ (a b:Tx),Op.bytesLess a b=decide (a<b)
 | [],[]=>by simp [Op.bytesLess]
 | [],b::bs=>by simp [Op.bytesLess]
 | a::r,[]=>by simp [Op.bytesLess]
 | a::r,b::bs=>by
  have ih:=bl_eq r bs;simp only [Op.bytesLess,ih,List.cons_lt_cons_iff];by_cases h1:a<b
  ·simp [h1]
  ·by_cases h2:a=b
   ·simp [h2]
   ·simp [h1,h2]
def uy (c:Int×Int) (b:Bx):Int×Int:=(zh (c.1+(b.2.2.2.1.length:Int)),zh (c.2+size b.2.2.2.1))
def xZ (ls:List Bx):Int×Int:=ls.foldl uy (0,0)
theorem held_foldl:∀ (ls:List Bx) (c:Int×Int),zk heldS (λc=>((c.1,c.2,()),())) c ls=(((ls.foldl uy c).1,(ls.foldl uy c).2,()),())
 | [],_=>rfl
 | b::t,c=>held_foldl t (uy c b)
theorem held_eq (ls:List Bx):held ls=(((xZ ls).1,(xZ ls).2,()),()):=held_foldl ls (0,0)
theorem heldL_succ {ls:List Bx} {i:Nat} (h:i<ls.length):xZ (ls.take (i+1))=uy (xZ (ls.take i)) (ls.getD i yE):=by
 unfold xZ;rw [List.take_succ_eq_append_getElem h,List.foldl_append,wQ,List.getElem?_eq_getElem h];rfl
structure Fine (u:ww):Prop where
 good:Good u
 user:yq u.1=true
 names:∀ b∈u.2.2.1,zq b.1=true
 inb:∃ b∈u.2.2.1,b.1=inbx
 room:wth u.2.2.1=true
theorem Right.prev {ls:List yJ} (h:ls.Pairwise (λa b=>a.1<b.1)) {j:Nat} (hj:j+1<ls.length):(ls.getD j t7).1<(ls.getD (j+1) t7).1:=getD_lt h (Nat.lt_succ_self j) hj t7
theorem F34_eq {b:wN} (R:Right b):F34 ((b,()),())=some (0,()):=by
 obtain ⟨nm,v,n,ls,⟨⟩⟩:=b;have hF:=zR;have h1:=R.valid;have h2:=R.next;have h3:=R.few;have h4:=R.each;have h5:=R.rise;simp only at h1 h2 h3 h4 h5;have c1:decide (v<1)=false:=yv (by omega);have c2:decide (4294967295<v)=false:=yv (by omega);have c3:decide (n<1)=false:=yv (by omega);have c4:decide (4294967295<n)=false:=yv (by omega);have c5:decide ((32:Int)<((ls.length:Nat):Int))=false:=yv (by omega)
 have hL:L34_0 (((),(0:Int),()),((nm,v,n,ls,()),()))=some (.inl ((),())):=by
  unfold L34_0
  refine (yo (f:=B34_0) (λ(_:Unit) i=>(((),(i:Int),()),((nm,v,n,ls,()),()))) ls (λ_ _=>.inl ()) (λ_=>.inl ((),()))
   (λb i a hi ha=>?_) (λb=>?_) (by omega) (b:=())).trans ?_
  ·have hm:a∈ls:=by
    have:=ha t7
    rw [wQ,List.getElem?_eq_getElem hi] at this;rw [<- this];exact List.getElem_mem hi
   obtain ⟨l1,l2,l3,l4⟩:=h4 a hm;have d0:decide ((i:Int)<((ls.length:Nat):Int))=true:=zm (by omega);have d1:decide ((0:Int)<=(i:Int))=true:=zm (by omega);have d2:decide (a.1<1)=false:=yv (by omega);have d3:decide (n<=a.1)=false:=yv (by omega);have d4:decide (31<a.2.1.toNat)=false:=yv (by omega);have d5:decide ((600:Int)<((a.2.2.1.length:Nat):Int))=false:=yv (by omega);have w1:zh ((i:Int)+1)=((i+1:Nat):Int):=by rw [zV (by omega) (by omega)];rfl
   have z:UInt8.toNat 31=31:=rfl;have ha':=ha t7
   cases i with
   | zero =>
    have p0:decide ((0:Int)<((0:Nat):Int))=false:=rfl;simp only [B34_0,d0,d1,yW,zI,yF,ha',zE,p0,d2,d3,Bool.false_and,Bool.or_false,xf,Bool.or_true,zK,z,d4,d5,w1]
   | succ j =>
    have p0:decide ((0:Int)<((j+1:Nat):Int))=true:=zm (by omega);have w2:zh (((j+1:Nat):Int)-1)=(j:Int):=by rw [zV (by omega) (by omega)];omega
    have p1:decide ((0:Int)<=(j:Int))=true:=zm (by omega);have p2:decide ((j:Int)<((ls.length:Nat):Int))=true:=zm (by omega);have hr:=Right.prev h5 hi;rw [ha'] at hr;have p3:decide (a.1<=(ls.getD j t7).1)=false:=yv (by omega);simp only [B34_0,d0,d1,yW,zI,yF,ha',zE,p0,w2,p1,p2,p3,Bool.true_or,d2,d3,Bool.and_false,Bool.or_false,zK,z,d4,d5,w1]
  ·simp only [B34_0,Int.lt_irrefl,xA,zK]
  ·have:∀ l:List yJ,zk (λ(_:yJ) (_:Unit)=>(.inl ():Unit⊕((Unit×Unit)⊕((Int×Unit)×Unit)))) (λ_=>.inl ((),())) () l=.inl ((),()):=λl=>by
    induction l with
    | nil=>rfl
    | cons a t ih=>exact ih
   rw [this]
 simp only [F34,c1,c2,c3,c4,c5,Bool.or_self,zK,hL,zE]
theorem F35_eq (b:wN) (hl:b.2.2.2.1.length<=32):F35 ((b,()),())=some (size b.2.2.2.1,()):=by
 obtain ⟨nm,v,n,ls,⟨⟩⟩:=b;have hF:=zR;change ls.length<=32 at hl
 have h:L35_0 (((),(0:Int),(0:Int),()),((nm,v,n,ls,()),()))=some (zk (λ(l:yJ) n=>(.inl (zh (n+(l.2.2.1.length:Int))):Int⊕((Int×Unit)×Unit))) (λn=>((n,()),())) 0 ls):=by
  unfold L35_0;refine yo (f:=B35_0) (λb i=>(((),b,(i:Int),()),((nm,v,n,ls,()),()))) ls _ _ (λb i a hi ha=>?_) (λb=>by simp only [B35_0,Int.lt_irrefl,xA,zK]) (by omega);simp only [B35_0,yt,yj,hi,zd,Bool.and_true,zI,zE,yF,ha,yH (show i<9223372036854775807 by omega)]
 have e:=foldS_map (λn:Int=>((n,()),())) (step:=λ(l:yJ) n=>(.inl (zh (n+(l.2.2.1.length:Int))):Int⊕Int)) (fin:=id) ls 0;simp only [id_eq] at e;rw [e] at h;simp only [F35,h,zE,size]
structure Upon (u:ww) (i:Nat):Prop where
 each:∀ k,k<i->zq (u.2.2.1.getD k yE).1=true/\Right (z8 (u.2.2.1.getD k yE))/\(u.2.2.1.getD k yE).2.1<=u.2.1
 rise:∀ k,k+1<i->(u.2.2.1.getD k yE).1<(u.2.2.1.getD (k+1) yE).1
abbrev R13:Type:=((Bool×Int×Int×Unit)×Unit)⊕((Int×Unit)×Unit)
abbrev R44:Type:=((Int×Int×Bool×Unit)×Unit)⊕((Int×Unit)×Unit)
def has1 (ls:List Bx):Bool:=ls.any λb=>decide (b.1=inbx)
theorem has1_succ {ls:List Bx} {i:Nat} (h:i<ls.length):has1 (ls.take (i+1))=(has1 (ls.take i)||decide ((ls.getD i yE).1=inbx)):=by
 unfold has1;rw [List.take_succ_eq_append_getElem h,List.any_append,wQ,List.getElem?_eq_getElem h];simp
theorem L44_ex (u:ww) (hl:u.2.2.1.length<=6):∃ r:R44,L44_0 (((),(0:Int),(0:Int),false,u.2.2.1,((u.2.2.1.length:Nat):Int),(0:Int),()),((u.1,u.2.1,u.2.2.1,()),()))=some r /\
  match r with
  | .inl q=>q=(((xZ u.2.2.1).1,(xZ u.2.2.1).2,has1 u.2.2.1,()),())/\Upon u u.2.2.1.length
  | .inr q=>q.1.1≠0:=by
 obtain ⟨un,uv,ls,⟨⟩⟩:=u;change ls.length<=6 at hl;have hF:=zR;unfold L44_0
 refine z6 (f:=u5) (λp=>∃ i:Nat,i<=ls.length/\p=(((),(xZ (ls.take i)).1,(xZ (ls.take i)).2,has1 (ls.take i),ls,((ls.length:Nat):Int),(i:Int),()),((un,uv,ls,()),()))/\Upon (un,uv,ls,()) i)
  (λp=>ls.length-p.1.2.2.2.2.2.2.1.toNat) (λr:R44=>match r with
   | .inl q=>q=(((xZ ls).1,(xZ ls).2,has1 ls,()),())/\Upon (un,uv,ls,()) ls.length
   | .inr q=>q.1.1≠0) ?_ ⟨0,Nat.zero_le _,rfl,⟨λk hk=>absurd hk (Nat.not_lt_zero _),λk hk=>absurd hk (Nat.not_lt_zero _)⟩⟩ (by simp only;omega)
 rintro p ⟨i,hi,rfl,U⟩;rcases Nat.lt_or_ge i ls.length with h | h
 ·have d0:decide ((i:Int)<((ls.length:Nat):Int))=true:=zm (by omega);have d1:decide ((0:Int)<=(i:Int))=true:=zm (by omega);have w1:zh ((i:Int)+1)=((i+1:Nat):Int):=by rw [zV (by omega) (by omega)];rfl
  have hs:=heldL_succ h;have ho:=has1_succ h;obtain ⟨⟨bn,bv,bx,bl,⟨⟩⟩,hb⟩:∃ b,ls.getD i yE=b:=⟨_,rfl⟩;rw [hb] at hs ho;have hgd:ls.getD i (([]:List UInt8),((0:Int),((0:Int),(([]:(List yJ)),()))))=(bn,bv,bx,bl,()):=hb;have e70:=F70_eq bn;have e71:=F71_eq (bn,bv,bx,bl,())
  have g:((decide ((0:Int)<=zh ((i:Int)-(1:Int)))&&decide (zh ((i:Int)-(1:Int))<((ls.length:Nat):Int)))||(!(decide ((0:Int)<(i:Int))&&(!(!(zq bn))))))=true:=by
   cases i with
   | zero=>simp
   | succ j =>
    have w2:zh (((j+1:Nat):Int)-1)=(j:Int):=by rw [zV (by omega) (by omega)];omega
    rw [w2,zm (show (0:Int)<=(j:Int) by omega),zm (show (j:Int)<((ls.length:Nat):Int) by omega)];rfl
  obtain ⟨bad,hbad⟩:∃ x,((!(zq bn))||(decide ((0:Int)<(i:Int))&&(Op.bytesLess bn (ls.getD (Int.toNat (zh ((i:Int)-(1:Int)))) (([]:List UInt8),((0:Int),((0:Int),(([]:(List yJ)),()))))).1||decide (bn=(ls.getD (Int.toNat (zh ((i:Int)-(1:Int)))) (([]:List UInt8),((0:Int),((0:Int),(([]:(List yJ)),()))))).1))))=x:=⟨_,rfl⟩
  cases bad with
  | true =>
   right;refine ⟨.inr ((4,()),()),?_,by show (4:Int)≠0;omega⟩;simp only [u5,d0,d1,yW,zI,yF,hgd,zE,e70,g,hbad]
  | false =>
   by_cases hc:xN (bn,bv,bx,bl,())=0
   ·have R:=check_zero.1 hc;have e72:=F72_eq (bn,bv,bx,bl,()) (Nat.le_trans R.few (by decide));by_cases hv:uv<bv
    ·right;refine ⟨.inr ((2,()),()),?_,by show (2:Int)≠0;omega⟩;simp only [u5,d0,d1,yW,zI,yF,hgd,zE,e70,g,hbad,zK,e71,hc,zd,yM,zm hv]
    ·left
     have hn:zq bn=true:=by
      revert hbad
      cases zq bn <;> simp
     refine ⟨_,?_,⟨i+1,h,rfl,?_⟩,?_⟩
     ·simp only [u5,d0,d1,yW,zI,yF,hgd,zE,e70,g,hbad,zK,e71,hc,zd,yM,yv hv,e72,hs,ho,w1,uy];rfl
     ·refine ⟨λk hk=>?_,λk hk=>?_⟩
      ·rcases Nat.lt_or_ge k i with h' | h'
       ·exact U.each k h'
       ·obtain rfl:k=i:=by omega
        show zq (ls.getD k yE).1=true/\Right (z8 (ls.getD k yE))/\(ls.getD k yE).2.1<=uv;rw [hb];exact ⟨hn,R,by simp only;omega⟩
      ·rcases Nat.lt_or_ge (k+1) i with h' | h'
       ·exact U.rise k h'
       ·obtain rfl:i=k+1:=by omega
        show (ls.getD k yE).1<(ls.getD (k+1) yE).1;rw [hb];have w2:zh (((k+1:Nat):Int)-1)=(k:Int):=by rw [zV (by omega) (by omega)];omega
        rw [w2,yF,hn,zm (show (0:Int)<((k+1:Nat):Int) by omega),bl_eq] at hbad;simp only [yM,Bool.false_or,Bool.true_and,Bool.or_eq_false_iff,decide_eq_false_iff_not] at hbad;exact wg hbad.1 hbad.2
     ·simp only;omega
   ·right;refine ⟨.inr ((xN (bn,bv,bx,bl,()),()),()),?_,hc⟩;simp only [u5,d0,d1,yW,zI,yF,hgd,zE,e70,g,hbad,zK,e71,yv hc,xf]
 ·have hi':i=ls.length:=by omega
  subst hi';right;rw [List.take_length] at *;refine ⟨.inl (((xZ ls).1,(xZ ls).2,has1 ls,()),()),?_,rfl,U⟩;simp only [u5,Int.lt_irrefl,xA,zK]
theorem rise_of {ls:List Bx} (h:∀ k,k+1<ls.length->(ls.getD k yE).1<(ls.getD (k+1) yE).1):ls.Pairwise (λa b=>a.1<b.1):=by
 rw [List.pairwise_iff_getElem]
 have key:∀ (n i:Nat),i+n+1<ls.length->(ls.getD i yE).1<(ls.getD (i+n+1) yE).1:=by
  intro n;induction n with
  | zero=>exact λi hi=>h i hi
  | succ n ih=>exact λi hi=>List.lt_trans (ih i (by omega)) (h (i+n+1) hi)
 intro i j hi hj hij
 have:=key (j-i-1) i (by omega)
 rw [show i+(j-i-1)+1=j by omega,wQ,wQ,List.getElem?_eq_getElem hi,List.getElem?_eq_getElem hj] at this;exact this
theorem F44_ex (u:ww) (hu:u.1.length<=maxLen):∃ e,F44 ((u,()),())=some (e,())/\(e=0->Fine u):=by
  obtain ⟨un,uv,ls,⟨⟩⟩:=u;change un.length<=maxLen at hu;obtain ⟨b,hb⟩:=F69_some un hu
  cases b with
  | false=>exact ⟨4,by simp only [F44,hb,zE,xf,zI],λh=>by cases h⟩
  | true =>
    by_cases h1:uv<1\/4294967295<uv
    . refine ⟨2,?_,λh=>by cases h⟩;have:(decide (uv<1)||decide (4294967295<uv))=true:=by simpa using h1
      simp only [F44,hb,zE,yM,zK,this,zI]
    . have c1:(decide (uv<1)||decide (4294967295<uv))=false:=by simp;omega
      by_cases h2:ls.length=0\/6<ls.length
      . refine ⟨8,?_,λh=>by cases h⟩
        have:(decide (((ls.length:Nat):Int)=0)||decide ((6:Int)<((ls.length:Nat):Int)))=true:=by
          rw [Bool.or_eq_true,xX,xX];omega
        simp only [F44,hb,zE,yM,zK,c1,this,zI]
      . have c2:(decide (((ls.length:Nat):Int)=0)||decide ((6:Int)<((ls.length:Nat):Int)))=false:=by
          rw [Bool.or_eq_false_iff];exact ⟨yv (by omega),yv (by omega)⟩
        obtain ⟨r,hr,hq⟩:=L44_ex (un,uv,ls,()) (by show ls.length<=6;omega);simp only at hr hq
        cases r with
        | inr q =>
          refine ⟨q.1.1,?_,λh=>absurd h hq⟩;simp only [F44,hb,zE,yM,zK,c1,c2,hr]
        | inl q =>
          obtain ⟨rfl,U⟩:=hq
          cases h3:has1 ls with
          | false=>exact ⟨4,by simp only [F44,hb,zE,yM,zK,c1,c2,hr,h3,xf,zI],λh=>by cases h⟩
          | true =>
            by_cases h4:40<(xZ ls).1\/1200<(xZ ls).2
            . refine ⟨8,?_,λh=>by cases h⟩;have:(decide (40<(xZ ls).1)||decide (1200<(xZ ls).2))=true:=by simpa using h4
              simp only [F44,hb,zE,yM,zK,c1,c2,hr,h3,this,zI]
            . have c3:(decide (40<(xZ ls).1)||decide (1200<(xZ ls).2))=false:=by simp;omega
              refine ⟨0,by simp only [F44,hb,zE,yM,zK,c1,c2,hr,h3,c3],λ_=>?_⟩
              have hm:∀ b∈ls,zq b.1=true/\Right (z8 b)/\b.2.1<=uv:=λb hb'=>by
                obtain ⟨i,hi,rfl⟩:=List.getElem_of_mem hb'
                have:=U.each i hi
                simp only [wQ,List.getElem?_eq_getElem hi,Option.getD_some] at this;exact this
              exact {
                good:=⟨by show ls.length<=6;omega,rise_of U.rise,λb hb'=>(hm b hb').2.1,by show 1<=uv/\uv<=4294967295;omega,λb hb'=>(hm b hb').2.2⟩
                user:=F69_good hb hu
                names:=λb hb'=>(hm b hb').1
                inb:=by
                  unfold has1 at h3;obtain ⟨b,hb1,hb2⟩:=List.any_eq_true.1 h3;exact ⟨b,hb1,of_decide_eq_true hb2⟩
                room:=by
                  show wth ls=true;unfold wth;rw [held_eq];simp only [yR,xX]
                  omega }
theorem um {s:Tx} (h:zq s=true):s.length<=24:=by
 unfold zq at h;simp only [yR,xX] at h;omega
theorem user_le {s:Tx} (h:yq s=true):s.length<=24:=by
 unfold yq at h;simp only [yR,xX] at h;omega
theorem F13_eq {u:ww} (G:Fine u):F13 ((u,()),())=some (0,()):=by
 obtain ⟨un,uv,ls,⟨⟩⟩:=u;have hF:=zR;have g1:=G.good.few;have g2:=G.good.valid;have g3:=G.good.rise;have g4:=G.good.each;have g5:=G.good.below;have g6:=G.names;have g7:=G.inb;have g8:=G.room;have e32:=uX un (Nat.le_trans (user_le G.user) (by decide));rw [show yq un=true from G.user] at e32;simp only at g1 g2 g3 g4 g5 g6 g7 g8;have c1:(decide (uv<1)||decide (4294967295<uv))=false:=by simp;omega
 have hpos:1<=ls.length:=by
  obtain ⟨b,hb,_⟩:=g7;exact List.length_pos_of_mem hb
 have c2:(decide (((ls.length:Nat):Int)<1)||decide ((6:Int)<((ls.length:Nat):Int)))=false:=by simp;omega
 have hL:L13_0 (((),false,(0:Int),(0:Int),(0:Int),()),((un,uv,ls,()),()))=some (.inl ((has1 ls,(xZ ls).1,(xZ ls).2,()),())):=by
  unfold L13_0
  refine (yC (f:=B13_0) (λ(b:Bool×(Int×Int)) i=>(((),b.1,b.2.1,b.2.2,(i:Int),()),((un,uv,ls,()),()))) ls (λa b=>.inl (b.1||decide (a.1=inbx),uy b.2 a)) (λb=>.inl ((b.1,b.2.1,b.2.2,()),())) (λ_ _=>True)
   (λb i a _ hi ha=>?_) (λb _=>?_) (by omega) (b:=(false,(0,0))) trivial).trans ?_
  ·refine .inl ⟨_,rfl,trivial,?_⟩
   have hm:a∈ls:=by
    have:=ha yE
    rw [wQ,List.getElem?_eq_getElem hi] at this;rw [<- this];exact List.getElem_mem hi
   have e33:=y8 a.1 (Nat.le_trans (um (g6 a hm)) (by decide));rw [g6 a hm] at e33;have e34:=F34_eq (g4 a hm);have e35:=F35_eq (z8 a) (g4 a hm).few;unfold z8 at e34 e35;have d0:decide ((i:Int)<((ls.length:Nat):Int))=true:=zm (by omega);have d1:decide ((0:Int)<=(i:Int))=true:=zm (by omega);have d2:decide (uv<a.2.1)=false:=yv (by have:=g5 a hm;omega);have w1:zh ((i:Int)+1)=((i+1:Nat):Int):=by rw [zV (by omega) (by omega)];rfl
   have ha':=ha yE;have hin:(decide (a.1=([73,78,66,79,88]:List UInt8)))=decide (a.1=inbx):=rfl
   cases i with
   | zero =>
    have p0:decide ((0:Int)<((0:Nat):Int))=false:=rfl;simp only [B13_0,d0,d1,yW,zI,yF,ha',zE,e33,p0,yM,xf,Bool.false_and,Bool.or_true,Bool.or_self,zK,e34,zd,d2,e35,hin,w1,uy]
   | succ j =>
    have p0:decide ((0:Int)<((j+1:Nat):Int))=true:=zm (by omega);have w2:zh (((j+1:Nat):Int)-1)=(j:Int):=by rw [zV (by omega) (by omega)];omega
    have p1:decide ((0:Int)<=(j:Int))=true:=zm (by omega);have p2:decide ((j:Int)<((ls.length:Nat):Int))=true:=zm (by omega);have hr:=getDb_lt g3 (Nat.lt_succ_self j) hi yE;rw [show j.succ=j+1 from rfl,ha'] at hr
    have p3:Op.bytesLess a.1 (ls.getD j yE).1=false:=by
     rw [bl_eq];exact yv (List.lt_asymm hr)
    have p4:decide (a.1=(ls.getD j yE).1)=false:=yv λh=>by
     rw [h] at hr;exact List.lt_irrefl _ hr
    simp only [B13_0,d0,d1,yW,zI,yF,ha',zE,e33,p0,w2,p1,p2,p3,p4,Bool.true_or,yM,Bool.and_false,Bool.or_self,zK,e34,zd,d2,e35,hin,w1,uy]
  ·simp only [B13_0,Int.lt_irrefl,xA,zK]
  ·have:∀ (l:List Bx) (b:Bool×(Int×Int)),zk (λ(a:Bx) (b:Bool×(Int×Int))=>(.inl (b.1||decide (a.1=inbx),uy b.2 a):(Bool×(Int×Int))⊕R13)) (λb=>.inl ((b.1,b.2.1,b.2.2,()),())) b l=.inl ((b.1||has1 l,(l.foldl uy b.2).1,(l.foldl uy b.2).2,()),()):=λl=>by
    induction l with
    | nil=>intro b;simp [zk,has1]
    | cons a t ih =>
     intro b;simp only [zk];rw [ih];simp only [has1,List.any_cons,List.foldl_cons,Bool.or_assoc]
   rw [this];simp only [Bool.false_or,xZ]
 have h3:has1 ls=true:=by
  obtain ⟨b,hb1,hb2⟩:=g7;exact List.any_eq_true.2 ⟨b,hb1,zm hb2⟩
 unfold wth at g8;rw [held_eq] at g8;simp only [yR,xX] at g8;have c3:(decide (40<(xZ ls).1)||decide (1200<(xZ ls).2))=false:=by simp;omega
 simp only [F13,e32,zE,yM,zK,c1,c2,hL,h3,c3]
theorem or64 (a b:Nat) (ha:a<4611686018427387904) (hb:b<4611686018427387904):wu .or .i64 (a:Int) (b:Int)=((a ||| b:Nat):Int):=by
 have hx:a ||| b<4611686018427387904:=Nat.or_lt_two_pow (n:=62) ha hb;have e:wu .or .i64 (a:Int) (b:Int)=zh ((BitVec.ofInt 64 (a:Int) ||| BitVec.ofInt 64 (b:Int)).toNat:Int):=rfl;rw [e,BitVec.ofInt_natCast,BitVec.ofInt_natCast,BitVec.toNat_or,BitVec.toNat_ofNat,BitVec.toNat_ofNat];rw [Nat.mod_eq_of_lt (show a<2^64 by omega),Nat.mod_eq_of_lt (show b<2^64 by omega)];exact zV (by omega) (by omega)
theorem uA (l:List UInt8) (n:Nat):F132 (((),(n:Int),()),((l,()),()))=some (if l.length<n then (.inr (3,()),((l,()),())) else (.inl (l.take n),((l.drop n,()),()))):=by
 by_cases h:l.length<n
 ·have c0:decide (((l.length:Nat):Int)<(n:Int))=true:=zm (by omega);simp only [F132,c0,zI,zE,h,↓reduceIte]
 ·have c0:decide (((l.length:Nat):Int)<(n:Int))=false:=yv (by omega);have c1:decide ((0:Int)<=(n:Int))=true:=zm (by omega);have c2:decide ((n:Int)<=((l.length:Nat):Int))=true:=zm (by omega);simp only [F132,c0,zK,zE,h,↓reduceIte,c1,c2,Int.le_refl,zd,yW,zI,yF];rw [show (l.drop n).take (l.length-n)=l.drop n from List.take_of_length_le (by rw [sG];omega)]
theorem L98_ex (l bs:List UInt8) (hb:bs.length<=4):∃ v:Nat,L98_0 (((),(0:Int),bs,((bs.length:Nat):Int),(0:Int),()),((l,()),()))=some (((),(v:Int),()),((l,()),()))/\v<256^bs.length:=by
 have hF:=zR
 obtain ⟨r,h1,h2⟩:=z6 (f:=B98_0) (λp=>∃ i v:Nat,i<=bs.length/\v<256^i/\p=(((),(v:Int),bs,((bs.length:Nat):Int),(i:Int),()),((l,()),()))) (λp=>bs.length-p.1.2.2.2.2.1.toNat)
  (λr=>∃ v:Nat,r=(((),(v:Int),()),((l,()),()))/\v<256^bs.length) (λp ⟨i,v,hi,hv,hp⟩=>by
   subst hp;rcases Nat.lt_or_ge i bs.length with h | h
   ·left;have hp4:(256:Nat)^i<=256^3:=Nat.pow_le_pow_right (by omega) (by omega);have d0:decide ((i:Int)<((bs.length:Nat):Int))=true:=zm (by omega);have d1:decide ((0:Int)<=(i:Int))=true:=zm (by omega);have w1:zh ((i:Int)+1)=((i+1:Nat):Int):=by rw [zV (by omega) (by omega)];rfl
    have hv':v*256<4611686018427387904:=by
     have:(256:Nat)^3=16777216:=rfl;omega
    have w2:zh ((v:Int)*2^8)=((v*256:Nat):Int):=by rw [zV (by omega) (by omega)];omega
    have hc:=(bs.getD i 0).toNat_lt;have o:wu .or .i64 ((v*256:Nat):Int) (((bs.getD i 0).toNat:Nat):Int)=((v*256 ||| (bs.getD i 0).toNat:Nat):Int):=or64 _ _ hv' (by omega);refine ⟨_,by simp only [B98_0,d0,d1,yW,zI,yF,w1,w2,o],⟨i+1,v*256 ||| (bs.getD i 0).toNat,h,?_,rfl⟩,?_⟩
    ·have e:(256:Nat)^(i+1)=2^(8*(i+1)):=by rw [Nat.pow_mul]
     rw [e];refine Nat.or_lt_two_pow ?_ ?_
     ·rw [<- e,Nat.pow_succ];exact Nat.mul_lt_mul_of_pos_right hv (by omega)
     ·refine Nat.lt_of_lt_of_le (show (bs.getD i 0).toNat<2^8 from hc) (Nat.pow_le_pow_right (by omega) (by omega))
    ·simp only;omega
   ·right;have hi':i=bs.length:=by omega
    subst hi'
    exact ⟨(((),(v:Int),()),((l,()),())),by simp only [B98_0,Int.lt_irrefl,xA,zK],v,rfl,hv⟩)
  (p:=(((),(0:Int),bs,((bs.length:Nat):Int),(0:Int),()),((l,()),()))) ⟨0,0,Nat.zero_le _,by simp,rfl⟩ (by simp only;omega)
 obtain ⟨v,rfl,hv⟩:=h2;exact ⟨v,h1,hv⟩
theorem sY (l:List UInt8) (n:Nat) (hn:n<=4):∃ r l',F98 (((),(n:Int),()),((l,()),()))=some (r,((l',()),()))/\∀ v,r=.inl v->∃ k:Nat,v=(k:Int)/\k<256^n:=by
 have e:=uA l n;by_cases h:l.length<n
 ·rw [if_pos h] at e;exact ⟨.inr (3,()),l,by simp only [F98,e,zE],λv hv=>by cases hv⟩
 ·rw [if_neg h] at e;have ht:(l.take n).length=n:=by rw [xG];omega
  obtain ⟨v,h1,h2⟩:=L98_ex (l.drop n) (l.take n) (by omega);rw [ht] at h2;exact ⟨.inl (v:Int),l.drop n,by simp only [F98,e,zE,h1],λw hw=>by cases hw;exact ⟨v,rfl,h2⟩⟩
theorem F97_ex (l:List UInt8):∃ r l',F97 (((),()),((l,()),()))=some (r,((l',()),()))/\∀ s,r=.inl s->s.length<=255:=by
 obtain ⟨r,l1,e1,h1⟩:=sY l 1 (by omega);rw [show ((1:Nat):Int)=1 from rfl] at e1
 cases r with
 | inr q=>exact ⟨.inr (q.1,()),l1,by simp only [F97,e1,zE],λs hs=>by cases hs⟩
 | inl v =>
  obtain ⟨k,rfl,hk⟩:=h1 v rfl;have e2:=uA l1 k;by_cases h:l1.length<k
  ·rw [if_pos h] at e2;exact ⟨.inr (3,()),l1,by simp only [F97,e1,zE,e2],λs hs=>by cases hs⟩
  ·rw [if_neg h] at e2;refine ⟨.inl (l1.take k),l1.drop k,by simp only [F97,e1,zE,e2],λs hs=>?_⟩
   cases hs;rw [xG];omega
theorem F53_eq' (l:List UInt8) (h:l.length<=100000):F53 ((l,()),())=some ((),(l,())):=by
 have hb:zH (0+l.length) 1=true:=zl (by omega)
 cases l with
 | nil=>simp only [F53,List.isEmpty_nil,zI,hb,List.append_nil,yd]
 | cons a t=>simp only [F53,List.isEmpty_cons,zK,hb,zI,List.nil_append]
theorem F99_ex (l:List UInt8):∃ r l',F99 (((),()),((l,()),()))=some (r,((l',()),())):=by
 obtain ⟨r,l1,e1,h1⟩:=sY l 2 (by omega);rw [show ((2:Nat):Int)=2 from rfl] at e1
 cases r with
 | inr q=>exact ⟨.inr (q.1,()),l1,by simp only [F99,e1,zE]⟩
 | inl v =>
  obtain ⟨k,rfl,hk⟩:=h1 v rfl;have e2:=uA l1 k;by_cases h:l1.length<k
  ·rw [if_pos h] at e2;exact ⟨.inr (3,()),l1,by simp only [F99,e1,zE,e2]⟩
  ·rw [if_neg h] at e2;have e3:=F53_eq' (l1.take k) (by rw [xG];omega);exact ⟨.inl (l1.take k),l1.drop k,by simp only [F99,e1,zE,e2,e3]⟩
abbrev NmT:Type:=Tx×Int×Unit×Unit
abbrev BnT:Type:=Tx×Int×Int×Unit×Unit
theorem L96_1_ex (l:List UInt8) (N:NmT) (bxs:List Bx) (B:BnT) (c0 i0:Int) (cnt:Nat) (hc:cnt<=255) :
  ∃ r,L96_1 (((),(),(),c0,i0,(cnt:Int),(0:Int),()),((l,()),N,bxs,B,([]:List yJ),()))=some r /\
   match r with
   | .inl q=>∃ l' ls',q=(((),(),(),c0,i0,()),((l',()),N,bxs,B,ls',()))
   | .inr q=>∃ e l',q=(((e,()),()),((l',()),N,bxs,())):=by
 obtain ⟨nn,nv,⟨⟩,⟨⟩⟩:=N;obtain ⟨bn,bv,bx,⟨⟩,⟨⟩⟩:=B;have hF:=zR;unfold L96_1
 refine z6 (f:=u0) (λp=>∃ (i:Nat) (l':List UInt8) (ls:List yJ),i<=cnt/\ls.length<=i/\p=(((),(),(),c0,i0,(cnt:Int),(i:Int),()),((l',()),(nn,nv,(),()),bxs,(bn,bv,bx,(),()),ls,()))) (λp=>cnt-p.1.2.2.2.2.2.2.1.toNat) _ ?_
  ⟨0,l,[],Nat.zero_le _,Nat.le_refl _,rfl⟩ (by simp only;omega)
 rintro p ⟨i,l',ls,hi,hl,rfl⟩;rcases Nat.lt_or_ge i cnt with h | h
 ·have d0:decide ((i:Int)<(cnt:Int))=true:=zm (by omega);have w1:zh ((i:Int)+1)=((i+1:Nat):Int):=by rw [zV (by omega) (by omega)];rfl
  obtain ⟨r1,l1,e1,-⟩:=sY l' 4 (by omega);rw [show ((4:Nat):Int)=4 from rfl] at e1
  cases r1 with
  | inr q=>exact .inr ⟨.inr (((q.1,()),()),((l1,()),(nn,nv,(),()),bxs,())),by simp only [u0,d0,zI,e1,zE],_,_,rfl⟩
  | inl v1 =>
   obtain ⟨r2,l2,e2,-⟩:=sY l1 1 (by omega);rw [show ((1:Nat):Int)=1 from rfl] at e2
   cases r2 with
   | inr q=>exact .inr ⟨.inr (((q.1,()),()),((l2,()),(nn,nv,(),()),bxs,())),by simp only [u0,d0,zI,e1,zE,e2],_,_,rfl⟩
   | inl v2 =>
    obtain ⟨r3,l3,e3⟩:=F99_ex l2
    cases r3 with
    | inr q=>exact .inr ⟨.inr (((q.1,()),()),((l3,()),(nn,nv,(),()),bxs,())),by simp only [u0,d0,zI,e1,zE,e2,e3],_,_,rfl⟩
    | inl v3 =>
     have hb:∀ x:yJ,zH (ls.length+[x].length) 40=true:=λx=>zl (by simp only [lSg];omega)
     refine .inl ⟨_,by simp only [u0,d0,zI,e1,zE,e2,e3,hb,w1];rfl,⟨i+1,l3,_,h,?_,rfl⟩,?_⟩
     ·rw [xe,lSg];omega
     ·simp only;omega
 ·have hi':i=cnt:=by omega
  subst hi';exact .inr ⟨.inl (((),(),(),c0,i0,()),((l',()),(nn,nv,(),()),bxs,(bn,bv,bx,(),()),ls,())),by simp only [u0,Int.lt_irrefl,xA,zK],_,_,rfl⟩
theorem L96_0_ex (l:List UInt8) (N:NmT) (cnt:Nat) (hc:cnt<=255) :
  ∃ r,L96_0 (((),(),(cnt:Int),(0:Int),()),((l,()),N,([]:List Bx),()))=some r /\
   match r with
   | .inl q=>∃ l' ls',q=(((),(),()),((l',()),N,ls',()))
   | .inr q=>∃ e l' ls',q=(((e,()),()),((l',()),N,ls',())):=by
 obtain ⟨nn,nv,⟨⟩,⟨⟩⟩:=N;have hF:=zR;unfold L96_0
 refine z6 (f:=vB) (λp=>∃ (i:Nat) (l':List UInt8) (ls:List Bx),i<=cnt/\ls.length<=i/\p=(((),(),(cnt:Int),(i:Int),()),((l',()),(nn,nv,(),()),ls,()))) (λp=>cnt-p.1.2.2.2.1.toNat) _ ?_
  ⟨0,l,[],Nat.zero_le _,Nat.le_refl _,rfl⟩ (by simp only;omega)
 rintro p ⟨i,l',ls,hi,hl,rfl⟩;rcases Nat.lt_or_ge i cnt with h | h
 ·have d0:decide ((i:Int)<(cnt:Int))=true:=zm (by omega);have w1:zh ((i:Int)+1)=((i+1:Nat):Int):=by rw [zV (by omega) (by omega)];rfl
  obtain ⟨r0,l0,e0,-⟩:=F97_ex l'
  cases r0 with
  | inr q=>exact .inr ⟨.inr (((q.1,()),()),((l0,()),(nn,nv,(),()),ls,())),by simp only [vB,d0,zI,e0,zE],_,_,_,rfl⟩
  | inl v0 =>
  obtain ⟨r1,l1,e1,-⟩:=sY l0 4 (by omega);rw [show ((4:Nat):Int)=4 from rfl] at e1
  cases r1 with
  | inr q=>exact .inr ⟨.inr (((q.1,()),()),((l1,()),(nn,nv,(),()),ls,())),by simp only [vB,d0,zI,e0,e1,zE],_,_,_,rfl⟩
  | inl v1 =>
   obtain ⟨r2,l2,e2,-⟩:=sY l1 4 (by omega);rw [show ((4:Nat):Int)=4 from rfl] at e2
   cases r2 with
   | inr q=>exact .inr ⟨.inr (((q.1,()),()),((l2,()),(nn,nv,(),()),ls,())),by simp only [vB,d0,zI,e0,e1,zE,e2],_,_,_,rfl⟩
   | inl v2 =>
    obtain ⟨r3,l3,e3,h3⟩:=sY l2 1 (by omega);rw [show ((1:Nat):Int)=1 from rfl] at e3
    cases r3 with
    | inr q=>exact .inr ⟨.inr (((q.1,()),()),((l3,()),(nn,nv,(),()),ls,())),by simp only [vB,d0,zI,e0,e1,zE,e2,e3],_,_,_,rfl⟩
    | inl v3 =>
     obtain ⟨k,rfl,hk⟩:=h3 v3 rfl;obtain ⟨r4,e4,h4⟩:=L96_1_ex l3 (nn,nv,(),()) ls (v0,v1,v2,(),()) (cnt:Int) (i:Int) k (by omega)
     cases r4 with
     | inr q =>
      obtain ⟨e,l4,rfl⟩:=h4;exact .inr ⟨.inr (((e,()),()),((l4,()),(nn,nv,(),()),ls,())),by simp only [vB,d0,zI,e0,e1,zE,e2,e3,e4],_,_,_,rfl⟩
     | inl q =>
      obtain ⟨l4,ls4,rfl⟩:=h4;have hb:∀ x:Bx,zH (ls.length+[x].length) 56=true:=λx=>zl (by simp only [lSg];omega)
      refine .inl ⟨_,by simp only [vB,d0,zI,e0,e1,zE,e2,e3,e4,hb,w1];rfl,⟨i+1,l4,_,h,?_,rfl⟩,?_⟩
      ·rw [xe,lSg];omega
      ·simp only;omega
 ·have hi':i=cnt:=by omega
  subst hi';exact .inr ⟨.inl (((),(),()),((l',()),(nn,nv,(),()),ls,())),by simp only [vB,Int.lt_irrefl,xA,zK],_,_,rfl⟩
theorem rdR_ex (l:List UInt8):∃ r,rdR l=some r/\r.2.2.1.1.length<=255:=by
 unfold rdR;obtain ⟨r0,l0,e0,h0⟩:=F97_ex l
 cases r0 with
 | inr q=>exact ⟨_,by simp only [F96,e0,zE];rfl,Nat.zero_le _⟩
 | inl v0 =>
  have hv:=h0 v0 rfl;obtain ⟨r1,l1,e1,-⟩:=sY l0 4 (by omega);rw [show ((4:Nat):Int)=4 from rfl] at e1
  cases r1 with
  | inr q=>exact ⟨_,by simp only [F96,e0,e1,zE];rfl,Nat.zero_le _⟩
  | inl v1 =>
   obtain ⟨r3,l3,e3,h3⟩:=sY l1 1 (by omega);rw [show ((1:Nat):Int)=1 from rfl] at e3
   cases r3 with
   | inr q=>exact ⟨_,by simp only [F96,e0,e1,zE,e3];rfl,hv⟩
   | inl v3 =>
    obtain ⟨k,rfl,hk⟩:=h3 v3 rfl;obtain ⟨r4,e4,h4⟩:=L96_0_ex l3 (v0,v1,(),()) k (by omega)
    cases r4 with
    | inr q =>
     obtain ⟨e,l4,ls4,rfl⟩:=h4;exact ⟨_,by simp only [F96,e0,e1,zE,e3,e4];rfl,hv⟩
    | inl q =>
     obtain ⟨l4,ls4,rfl⟩:=h4;exact ⟨_,by simp only [F96,e0,e1,zE,e3,e4];rfl,hv⟩
theorem rd_ok (l:List UInt8):rdOK l=true/\(vm l).1.length<=255:=by
 obtain ⟨r,h1,h2⟩:=rdR_ex l;unfold rdOK vm;rw [h1];exact ⟨rfl,h2⟩
theorem F75_ex (l:List UInt8):∃ u e,F75 ((l,()),())=some ((u,e,()),())/\(e=0->Fine u):=by
 obtain ⟨h1,h2⟩:=rd_ok l;by_cases h3:rdE l=0
 ·obtain ⟨e,h4,h5⟩:=F44_ex ((vm l).1,(vm l).2.1,(vm l).2.2.1,()) (Nat.le_trans h2 (by decide));by_cases he:e=0
  ·subst he;exact ⟨_,0,by simp only [F75,h1,zI,h3,zd,h4,zE,yM,zK],h5⟩
  ·exact ⟨_,e,by simp only [F75,h1,zI,h3,zd,h4,zE,yv he,xf];rfl,λh=>absurd h he⟩
 ·exact ⟨_,rdE l,by simp only [F75,h1,zI,yv h3,zK,zE,xf];rfl,λh=>absurd h h3⟩
def OkP {α:Type} (x:Option α) (P:α->Prop):Prop:=∃ a,x=some a/\P a
theorem xQ {α:Type} {a:α} {P:α->Prop} (h:P a):OkP (some a) P:=⟨a,rfl,h⟩
theorem ok_b1 {α β:Type} {x:Option α} {f:α->Option β} {P:β->Prop} {a:α} (h:x=some a) (h2:OkP (f a) P):OkP (x.bind f) P:=by
 subst h;exact h2
theorem ok_b2 {β:Type} {x:Option (Bool×Unit)} {f:Bool×Unit->Option β} {P:β->Prop} (h:∃ b,x=some (b,())) (h2:∀ b,OkP (f (b,())) P):OkP (x.bind f) P:=by
 obtain ⟨b,rfl⟩:=h;exact h2 b
theorem ok_b3 {α β:Type} {x:Option α} {f:α->Option β} {P:β->Prop} (Q:α->Prop) (h:OkP x Q) (h2:∀ a,Q a->OkP (f a) P):OkP (x.bind f) P:=by
 obtain ⟨a,rfl,ha⟩:=h;exact h2 a ha
theorem t6 {α:Type} {c:Bool} {x y:Option α} {P:α->Prop} (h1:OkP x P) (h2:OkP y P):OkP (cond c x y) P:=by
 cases c
 ·exact h2
 ·exact h1
theorem ok_condT {α:Type} {c:Bool} {x y:Option α} {P:α->Prop} (h:c=true) (h1:OkP x P):OkP (cond c x y) P:=by
 subst h;exact h1
theorem ok_condF {α:Type} {c:Bool} {x y:Option α} {P:α->Prop} (h:c=false) (h1:OkP y P):OkP (cond c x y) P:=by
 subst h;exact h1
theorem ok_cond' {α:Type} {c:Bool} {x y:Option α} {P:α->Prop} (h1:c=true->OkP x P) (h2:c=false->OkP y P):OkP (cond c x y) P:=by
 cases c
 ·exact h2 rfl
 ·exact h1 rfl
structure Chk (d:Dd):Prop where
 user:yq d.2.1=true
 box:d.1=2->zq d.2.2.1=true
abbrev Mid:Type:=(Unit×(Unit×Unit)×Bool×Unit)×(Dd×Unit)
def isMid (d:Dd) (a:Mid):Prop:=∃ b,a=(((),((),()),b,()),(d,()))/\(b=false->Chk d)
abbrev Mid27:Type:=((Unit×Unit)×(Dd×Unit))⊕((Int×Unit)×Unit)
def isMid27 (d:Dd) (a:Mid27):Prop:=(∃ e,a=.inr ((e,()),())/\(e=0->Chk d/\d.1≠8))\/(a=.inl (((),()),(d,()))/\Chk d/\d.1=8)
theorem F73_ex (d:Dd) (hu:d.2.1.length<=maxLen):∃ e,F73 ((d,()),())=some (e,())/\(e=0->Chk d/\(d.1=8->∃ u,F75 ((d.2.2.2.2.2.2.2.2.2.1,()),())=some ((u,0,()),())/\u.1=d.2.1/\Fine u)):=by
 obtain ⟨dd,du,db,dt,uid,how,fl,ds,de,by',⟨⟩⟩:=d;have h28:∀ l:List Int,l.length<=32->F92 ((l,(),()),((dd,du,db,dt,uid,how,fl,ds,de,by',()),()))=some (decide (dd∈l),((dd,du,db,dt,uid,how,fl,ds,de,by',()),())):=λl hl=>F92_eq l _ hl
 suffices h:OkP (F73 (((dd,du,db,dt,uid,how,fl,ds,de,by',()),()),())) λa=>a.2=()/\(a.1=0->Chk (dd,du,db,dt,uid,how,fl,ds,de,by',())/\(dd=8->∃ u,F75 ((by',()),())=some ((u,0,()),())/\u.1=du/\Fine u)) by
  obtain ⟨a,ha,_,h2⟩:=h;exact ⟨a.1,ha,h2⟩
 unfold F73;dsimp only;refine ok_b1 (h28 _ (by decide)) ?_;dsimp only;refine ok_b3 (isMid27 (dd,du,db,dt,uid,how,fl,ds,de,by',())) ?_ ?_
 rotate_left
 ·rintro a (⟨e,rfl,he⟩ | ⟨rfl,hC,h8⟩)
  ·exact xQ ⟨rfl,λh=>⟨(he h).1,λh8=>absurd h8 (he h).2⟩⟩
  ·dsimp only;obtain ⟨u,e,h75,hF⟩:=F75_ex by';refine ok_b1 h75 ?_;dsimp only;refine ok_cond' (λhc=>xQ ⟨rfl,λh=>by simp at h⟩) λhc=>xQ ⟨rfl,λh=>⟨hC,λ_=>?_⟩⟩
   dsimp only at h;subst h;simp only [zd,Bool.true_and,Bool.not_eq_false',xX] at hc;exact ⟨u,h75,hc,hF rfl⟩
 refine t6 (xQ (.inl ⟨14,rfl,λh=>by simp at h⟩)) ?_;refine ok_b3 (isMid (dd,du,db,dt,uid,how,fl,ds,de,by',())) ?_ ?_
 ·obtain ⟨b,hb⟩:=F69_some du hu;refine ok_b1 hb ?_;dsimp only
  cases b with
  | false=>exact ok_condT rfl (xQ ⟨_,rfl,λh=>by simp at h⟩)
  | true =>
   have hU:=F69_good hb hu;refine ok_condF rfl ?_;by_cases h2:dd∈[(2:Int),3,4,5,6,7]
   ·rw [zm h2];refine ok_condT rfl ?_;refine ok_b1 (F70_eq db) ?_;dsimp only
    cases hB:zq db with
    | false=>exact ok_condT rfl (xQ ⟨_,rfl,λh=>by simp at h⟩)
    | true =>
     have hC:Chk (dd,du,db,dt,uid,how,fl,ds,de,by',()):=⟨hU,λ_=>hB⟩
     repeat' first
      | exact xQ ⟨_,rfl,λ_=>hC⟩
      | (refine ok_b1 (h28 _ (by decide)) ?_;dsimp only)
      | (refine ok_b1 (F70_eq _) ?_;dsimp only)
      | refine t6 ?_ ?_
   ·rw [yv h2];have hC:Chk (dd,du,db,dt,uid,how,fl,ds,de,by',()):=⟨hU,λh=>absurd (show dd∈[(2:Int),3,4,5,6,7] by rw [show dd=2 from h];decide) h2⟩;refine ok_condF rfl ?_
    repeat' first
     | exact xQ ⟨_,rfl,λ_=>hC⟩
     | (refine ok_b1 (h28 _ (by decide)) ?_;dsimp only)
     | (refine ok_b1 (F70_eq _) ?_;dsimp only)
     | refine t6 ?_ ?_
 rintro _ ⟨b,rfl,hC⟩;dsimp only;refine ok_cond' (λ_=>xQ (.inl ⟨4,rfl,λh=>by simp at h⟩)) λhb=>?_
 have hC:=hC hb;refine ok_b3 (isMid (dd,du,db,dt,uid,how,fl,ds,de,by',())) ?_ ?_
 ·repeat' first
   | exact xQ ⟨_,rfl,λ_=>hC⟩
   | (refine ok_b1 (h28 _ (by decide)) ?_;dsimp only)
   | (refine ok_b2 (F94_some _ _ _ _) λb=>?_;dsimp only)
   | refine ok_condT (zm rfl) ?_
   | refine t6 ?_ ?_
 rintro _ ⟨b,rfl,-⟩;dsimp only;refine t6 (xQ (.inl ⟨2,rfl,λh=>by simp at h⟩)) ?_;refine ok_b1 (h28 _ (by decide)) ?_;dsimp only;refine t6 (xQ (.inl ⟨6,rfl,λh=>by simp at h⟩)) ?_;refine ok_b1 (h28 _ (by decide)) ?_;dsimp only;refine t6 (xQ (.inl ⟨2,rfl,λh=>by simp at h⟩)) ?_;refine ok_b1 (h28 _ (by decide)) ?_;dsimp only;refine ok_cond' (λh=>xQ (.inl ⟨0,rfl,λ_=>⟨hC,λh8=>?_⟩⟩)) λh=>xQ (.inr ⟨rfl,hC,?_⟩)
 ·rw [show dd=8 from h8] at h;simp at h
 ·simpa using h
def tot (ls:List Bx):Nat:=(ls.map λb=>b.2.2.2.1.length).sum
def byts (ls:List yJ):Nat:=(ls.map λl=>l.2.2.1.length).sum
def bts (ls:List Bx):Nat:=(ls.map λb=>byts b.2.2.2.1).sum
theorem size_from:∀ (ls:List yJ) (n:Nat),(∀ l∈ls,l.2.2.1.length<=600)->n+600*ls.length<=1000000 ->
  zk (λ(l:yJ) n=>(.inl (zh (n+(l.2.2.1.length:Int))):Int⊕Int)) id (n:Int) ls=((n+byts ls:Nat):Int)
 | [],n,_,_=>by simp [zk,byts]
 | a::t,n,h,hn=>by
  have ha:=h a (List.mem_cons_self ..);rw [List.length_cons] at hn;have w:zh ((n:Int)+((a.2.2.1.length:Nat):Int))=((n+a.2.2.1.length:Nat):Int):=by rw [zV (by omega) (by omega)];rfl
  simp only [zk,w];rw [size_from t (n+a.2.2.1.length) (λl hl=>h l (List.mem_cons_of_mem _ hl)) (by omega)];simp only [byts,List.map_cons,List.sum_cons];omega
theorem byts_le:∀ (ls:List yJ),(∀ l∈ls,l.2.2.1.length<=600)->byts ls<=600*ls.length
 | [],_=>by simp [byts]
 | a::t,h=>by
  have ha:=h a (List.mem_cons_self ..)
  have:=byts_le t (λl hl=>h l (List.mem_cons_of_mem _ hl))
  simp only [byts,List.map_cons,List.sum_cons,List.length_cons] at this ⊢;omega
theorem size_eq {ls:List yJ} (h:∀ l∈ls,l.2.2.1.length<=600) (hl:ls.length<=32):size ls=(byts ls:Int):=by
 have:=size_from ls 0 h (by omega)
 rw [Nat.zero_add] at this;exact this
theorem held_sums:∀ (ls:List Bx) (a b:Nat),(∀ x∈ls,Right (z8 x))->a+32*ls.length<=1000000->b+19200*ls.length<=1000000 ->
  ls.foldl uy ((a:Int),(b:Int))=(((a+tot ls:Nat):Int),((b+bts ls:Nat):Int))
 | [],a,b,_,_,_=>by simp [tot,bts]
 | x::t,a,b,h,ha,hb=>by
  have R:=h x (List.mem_cons_self ..);have r1:x.2.2.2.1.length<=32:=R.few;have r2:∀ l∈x.2.2.2.1,l.2.2.1.length<=600:=λl hl=>(R.each l hl).2.2.2
  have r3:=byts_le _ r2;rw [List.length_cons] at ha hb;have w1:zh ((a:Int)+((x.2.2.2.1.length:Nat):Int))=((a+x.2.2.2.1.length:Nat):Int):=by rw [zV (by omega) (by omega)];rfl
  have w2:zh ((b:Int)+size x.2.2.2.1)=((b+byts x.2.2.2.1:Nat):Int):=by rw [size_eq r2 r1,zV (by omega) (by omega)];rfl
  rw [List.foldl_cons];simp only [uy,w1,w2];rw [held_sums t _ _ (λy hy=>h y (List.mem_cons_of_mem _ hy)) (by omega) (by omega)];simp only [tot,bts,List.map_cons,List.sum_cons];rw [Nat.add_assoc,Nat.add_assoc]
theorem tm {ls:List Bx} (h:∀ x∈ls,Right (z8 x)) (hl:ls.length<=6):wth ls=true<->tot ls<=40/\bts ls<=1200:=by
 have e:=held_sums ls 0 0 h (by omega) (by omega)
 have e':xZ ls=((tot ls:Int),(bts ls:Int)):=by
  rw [Nat.zero_add,Nat.zero_add] at e;exact e
 unfold wth;rw [held_eq,e'];simp only [yR,xX];omega
theorem inbx_right:zq inbx=true:=by decide +kernel
theorem new_fine {user:Tx} (h:yq user=true):Fine (tR user) where
 good:=new_good user
 user:=h
 names:=λb hb=>by
  simp only [tR,List.mem_singleton] at hb;subst hb;exact inbx_right
 inb:=⟨(inbx,(1,(1,([],())))),by simp [tR],rfl⟩
 room:=by
  rw [tm (new_good user).each (new_good user).few];simp [tR,tot,bts,byts]
theorem boxd_fine {u:ww} (G:Fine u) {lo:Nat} (hl:lo<u.2.2.1.length) (d:Dd) (h:(boxd u lo d).2.2.1=0):Fine (boxd u lo d).1/\(boxd u lo d).1.1=u.1:=by
 obtain ⟨g1,K,g3⟩:=boxd_good G.good hl d h;have hm:=wo hl
 have hw:wth (u.2.2.1.set lo (w7 (did (z8 (u.2.2.1.getD lo yE)) d).1))=true:=by
  unfold boxd at h;by_cases h0:(did (z8 (u.2.2.1.getD lo yE)) d).2.2=0
  ·rw [if_neg (not_not_intro h0)] at h;by_cases hw:wth (u.2.2.1.set lo (w7 (did (z8 (u.2.2.1.getD lo yE)) d).1))=true
   ·exact hw
   ·rw [if_neg hw] at h;exact absurd h (by simp)
  ·rw [if_pos h0] at h;exact absurd h h0
 rw [g3] at g1 ⊢;generalize did (z8 (u.2.2.1.getD lo yE)) d=r at *;have hn:(w7 r.1).1=(u.2.2.1.getD lo yE).1:=K.name;refine ⟨{ good:=g1,user:=G.user,names:=λb hb=>?_,inb:=?_,room:=hw },rfl⟩
 ·rcases List.mem_or_eq_of_mem_set hb with h | rfl
  ·exact G.names b h
  ·rw [hn];exact G.names _ hm
 ·obtain ⟨b,hb,hbn⟩:=G.inb;obtain ⟨i,hi,rfl⟩:=List.getElem_of_mem hb;by_cases hil:i=lo
  ·subst hil;refine ⟨w7 r.1,List.mem_set hl _,?_⟩;rw [hn,wQ,List.getElem?_eq_getElem hi];exact hbn
  ·refine ⟨u.2.2.1[i],?_,hbn⟩;have:(u.2.2.1.set lo (w7 r.1))[i]'(by rw [List.length_set];exact hi)=u.2.2.1[i]:=List.getElem_set_ne (by omega) _;rw [<- this];exact List.getElem_mem _
theorem tot_app (a b:List Bx):tot (a++b)=tot a+tot b:=by simp [tot]
theorem bts_app (a b:List Bx):bts (a++b)=bts a+bts b:=by simp [bts]
theorem tot_cons (a:Bx) (b:List Bx):tot (a::b)=a.2.2.2.1.length+tot b:=by simp [tot]
theorem bts_cons (a:Bx) (b:List Bx):bts (a::b)=byts a.2.2.2.1+bts b:=by simp [bts]
theorem make_fine {u:ww} (G:Fine u) {lo:Nat} (d:Dd) (h2:d.1=2) (hlo:lo<=u.2.2.1.length) (h3:∀ k,k<lo->(u.2.2.1.getD k yE).1<d.2.2.1) (h4:∀ k,lo<=k->k<u.2.2.1.length->¬ (u.2.2.1.getD k yE).1<d.2.2.1)
  (h6:yX u.2.2.1 d.2.2.1=false->∀ k,k<u.2.2.1.length->(u.2.2.1.getD k yE).1≠d.2.2.1) (hB:zq d.2.2.1=true) (h:(wO u lo d).2.2.1=0):Fine (wO u lo d).1/\(wO u lo d).1.1=u.1:=by
 obtain ⟨g1,g2,g3⟩:=make_good G.good d h2 hlo h3 h4 h6 h;rw [g3] at g1 ⊢;have hr:=(tm G.good.each G.good.few).1 G.room;have e:u.2.2.1.take lo++u.2.2.1.drop lo=u.2.2.1:=List.take_append_drop lo _;have e1:tot (u.2.2.1.take lo)+tot (u.2.2.1.drop lo)=tot u.2.2.1:=by rw [<- tot_app,e]
 have e2:bts (u.2.2.1.take lo)+bts (u.2.2.1.drop lo)=bts u.2.2.1:=by rw [<- bts_app,e]
 refine ⟨{ good:=g1,user:=G.user,names:=λb hb=>?_,inb:=?_,room:=?_ },rfl⟩
 ·rcases List.mem_append.1 hb with hb | hb
  ·rcases List.mem_append.1 hb with hb | hb
   ·exact G.names b (List.mem_of_mem_take hb)
   ·rw [List.mem_singleton.1 hb];exact hB
  ·exact G.names b (List.mem_of_mem_drop hb)
 ·obtain ⟨b,hb,hbn⟩:=G.inb;refine ⟨b,?_,hbn⟩;rw [<- e] at hb;rcases List.mem_append.1 hb with hb | hb
  ·exact List.mem_append_left _ (List.mem_append_left _ hb)
  ·exact List.mem_append_right _ hb
 ·rw [tm g1.each g1.few];simp only [tot_app,bts_app];have z1:tot [((d.2.2.1,(u.2.1+1,(1,([],())))):Bx)]=0:=rfl;have z2:bts [((d.2.2.1,(u.2.1+1,(1,([],())))):Bx)]=0:=rfl;omega
theorem drop_fine {u:ww} (G:Fine u) {lo:Nat} (d:Dd) (h2:d.1≠2) (h5:yX u.2.2.1 d.2.2.1=true->lo<u.2.2.1.length/\(u.2.2.1.getD lo yE).1=d.2.2.1) (h:(wO u lo d).2.2.1=0) :
  Fine (wO u lo d).1/\(wO u lo d).1.1=u.1:=by
 obtain ⟨g1,g2⟩:=drop_good G.good d h2 h
 have hq:yX u.2.2.1 d.2.2.1=true/\d.2.2.1≠inbx:=by
  unfold wO at h;rw [if_neg h2] at h
  cases hh:yX u.2.2.1 d.2.2.1 with
  | false=>rw [hh,if_pos rfl] at h;exact absurd h (by simp)
  | true =>
   rw [hh,if_neg (by simp)] at h;by_cases hc:d.2.2.1=inbx
   ·rw [if_pos hc] at h;exact absurd h (by simp)
   ·exact ⟨rfl,hc⟩
 obtain ⟨k1,k2⟩:=h5 hq.1;rw [g2] at g1 ⊢;have hr:=(tm G.good.each G.good.few).1 G.room;have hs:=del_sub u.2.2.1 lo
 have e:u.2.2.1.take lo++(u.2.2.1[lo]::u.2.2.1.drop (lo+1))=u.2.2.1:=by
  rw [<- List.drop_eq_getElem_cons k1];exact List.take_append_drop lo _
 have e1:tot (u.2.2.1.take lo)+(u.2.2.1[lo].2.2.2.1.length+tot (u.2.2.1.drop (lo+1)))=tot u.2.2.1:=by
  conv=>rhs;rw [<- e]
  rw [tot_app,tot_cons]
 have e2:bts (u.2.2.1.take lo)+(byts u.2.2.1[lo].2.2.2.1+bts (u.2.2.1.drop (lo+1)))=bts u.2.2.1:=by
  conv=>rhs;rw [<- e]
  rw [bts_app,bts_cons]
 refine ⟨{ good:=g1,user:=G.user,names:=λb hb=>G.names b (hs.mem hb),inb:=?_,room:=?_ },rfl⟩
 ·obtain ⟨b,hb,hbn⟩:=G.inb;refine ⟨b,?_,hbn⟩;rw [<- e] at hb;rcases List.mem_append.1 hb with hb | hb
  ·exact List.mem_append_left _ hb
  ·rcases List.mem_cons.1 hb with rfl | hb
   ·exfalso;rw [wQ,List.getElem?_eq_getElem k1] at k2;exact hq.2 (k2.symm.trans hbn)
   ·exact List.mem_append_right _ hb
 ·rw [tm g1.each g1.few];simp only [tot_app,bts_app];omega
end Go.So
