/- Texts that the last one leans on, 8. -/
import Derived.Test.YtncpngfaimipdaaGreatDoorKG
import Derived.Lib.TrimAscii
namespace Go.Fl
open Go Go.Ev
set_option maxRecDepth 100000
section
abbrev Ltr:Type:=Int×(UInt8×(List UInt8×Unit))
abbrev Box:Type:=List UInt8×Int×Int×List Ltr×Unit
abbrev Out:Type:=(Unit×Unit)⊕((Int×Unit)×Unit)
def chk1 (next:Int) (l:Ltr) (last:Int):Int⊕Out :=
 if l.1<=last\/next<=l.1 then .inr (.inr ((4,()),())) else if 32<=l.2.1.toNat then .inr (.inr ((2,()),())) else if 600<l.2.2.1.length then .inr (.inr ((6,()),())) else .inl l.1
def chk (next:Int) (ls:List Ltr):Out:=zd (chk1 next) (λ_=>.inl ((),())) 0 ls
def code:Out->Int
 | .inl _=>0
 | .inr q=>q.1.1
def y3 (b:Box):Int :=
 if b.2.1<1\/4294967295<b.2.1\/b.2.2.1<1\/4294967295<b.2.2.1 then 2 else if 32<b.2.2.2.1.length then 8 else code (chk b.2.2.1 b.2.2.2.1)
theorem L95_eq (nm:List UInt8) (v n:Int) (ls:List Ltr) (hl:ls.length<=32):L95_0 (((),(0:Int),ls,((ls.length:Nat):Int),(0:Int),()),((nm,v,n,ls,()),()))=some (chk n ls):=by
 have hF:=zO
 refine yi (f:=B95_0) (λb i=>(((),b,ls,((ls.length:Nat):Int),(i:Int),()),((nm,v,n,ls,()),()))) ls (chk1 n) _ (λb i a hi ha=>?_) (λb=>?_) (by omega)
 ·have e1:((0:Int),((0:UInt8),(([]:(List UInt8)),())))=((0,0,[],()):Ltr):=rfl
  simp only [B95_0,ym,yY,hi,zV,Bool.and_true,zH,zE,zu,ha,chk1,yL (show i<9223372036854775807 by omega)]
  by_cases h1:a.1<=b\/n<=a.1
  ·simp only [h1,↓reduceIte]
   rcases h1 with h1 | h1 <;> simp [h1]
  ·simp only [h1,↓reduceIte]
   rw [not_or] at h1
   by_cases h2:32<=a.2.1.toNat
   ·simp [h1,h2]
   ·by_cases h3:600<a.2.2.1.length
    ·have h3':(600:Int)<(a.2.2.1.length:Int):=by omega
     simp [h1,h2,h3,h3']
    ·have h3':¬ (600:Int)<(a.2.2.1.length:Int):=by omega
     simp [h1,h2,h3,h3']
 ·simp only [B95_0,Int.lt_irrefl,yu,zK]
theorem F95_eq (b:Box):F95 ((b,()),())=some (y3 b,()):=by
 obtain ⟨nm,v,n,ls,u⟩:=b
 cases u
 simp only [F95,F125,y3,zE]
 by_cases h1:v<1\/4294967295<v\/n<1\/4294967295<n
 ·simp only [h1,↓reduceIte]
  by_cases h2:1<=v/\v<=4294967295
  ·have:¬ (1<=n/\n<=4294967295):=by omega
   simp [h2,this,<- Bool.decide_and]
  ·simp [h2,<- Bool.decide_and]
 ·have h2:1<=v/\v<=4294967295/\1<=n/\n<=4294967295:=by omega
  simp only [h1,↓reduceIte]
  by_cases h3:32<ls.length
  ·have h3':(32:Int)<(ls.length:Int):=by omega
   simp [h2,h3,h3']
  ·have h3':¬ (32:Int)<(ls.length:Int):=by omega
   simp only [h2,h3,h3',L95_eq nm v n ls (by omega),zV,yu,Bool.and_true,yA,yx,zH,zK,zE,↓reduceIte]
   cases chk n ls <;> rfl
def size (ls:List Ltr):Int:=zd (λ(l:Ltr) n=>(.inl (zZ (n+(l.2.2.1.length:Int))):Int⊕Int)) id 0 ls
theorem foldS_map {α β τ υ:Type} (g:τ->υ) {step:α->β->β⊕τ} {fin:β->τ}:∀ (ls:List α) (b:β),
  zd (λa b=>match step a b with | .inl c=>.inl c | .inr r=>.inr (g r)) (λb=>g (fin b)) b ls=g (zd step fin b ls)
 | [],_=>rfl
 | a::t,b=>by
  simp only [zd]
  cases step a b with
  | inl c=>exact foldS_map g t c
  | inr r=>rfl
theorem F96_eq (b:Box) (hl:b.2.2.2.1.length<=maxLen):F96 ((b,()),())=some (size b.2.2.2.1,()):=by
 obtain ⟨nm,v,n,ls,u⟩:=b
 have hF:maxLen<FUEL:=by unfold maxLen FUEL;omega
 have hm:maxLen=9223372036854775807:=rfl
 change ls.length<=maxLen at hl
 have h:L96_0 (((0:Int),ls,((ls.length:Nat):Int),(0:Int),()),())=some (zd (λ(l:Ltr) n=>(.inl (zZ (n+(l.2.2.1.length:Int))):Int⊕((Int×Unit)×Unit))) (λn=>((n,()),())) 0 ls) :=
  yi (f:=B96_0) (λb i=>((b,ls,((ls.length:Nat):Int),(i:Int),()),())) ls _ _ (λb i a hi ha=>by
   simp only [B96_0,ym,yY,hi,zV,Bool.and_true,zH,zE,zu,ha,yL (show i<9223372036854775807 by omega)])
   (λb=>by simp only [B96_0,Int.lt_irrefl,yu,zK]) (by omega)
 have e:=foldS_map (λn:Int=>((n,()),())) (step:=λ(l:Ltr) n=>(.inl (zZ (n+(l.2.2.1.length:Int))):Int⊕Int)) (fin:=id) ls 0
 simp only [id_eq] at e
 rw [e] at h
 simp only [F96,h,zE,size]
end
section
theorem zU {n k:Nat} (h:n*k<=140737488355328):zC n k=true:=zX h
theorem F54_eq (l:List UInt8) (h:l.length<=600):F54 ((l,()),())=some ((),(l,())):=by
 have hb:zC (0+l.length) 1=true:=zU (by omega)
 cases l with
 | nil=>simp only [F54,List.isEmpty_nil,zH,hb,List.append_nil,zS]
 | cons a t=>simp only [F54,List.isEmpty_cons,zK,hb,zH,List.nil_append]
theorem F53_eq (l:List Ltr) (h:l.length<=32):F53 ((l,()),())=some ((),(l,())):=by
 have hb:zC (([]:List Ltr).length+l.length) 40=true:=zU (by simp only [List.length_nil];omega)
 cases l with
 | nil=>simp only [F53,List.isEmpty_nil,zH,hb,List.append_nil,zS]
 | cons a t=>simp only [F53,List.isEmpty_cons,zK,hb,zH,List.nil_append]
theorem set_same {α:Type}:∀ (l:List α) (i:Nat) (a:α),(∀ d,l.getD i d=a)->l.set i a=l
 | [],_,_,_=>rfl
 | x::t,0,a,h=>by rw [<- h a];rfl
 | x::t,i+1,a,h=>by
  rw [List.set_cons_succ,set_same t i a (λd=>by simpa using h d)]
theorem foldS_const {α τ:Type} (r:τ):∀ (l:List α),zd (λ_ (_:Unit)=>(.inl ():Unit⊕τ)) (λ_=>r) () l=r
 | []=>rfl
 | _::t=>foldS_const r t
theorem L170_eq (nm:List UInt8) (v n:Int) (ls ks:List Ltr) (hl:ls.length<=32) (hb:∀ l∈ls,l.2.2.1.length<=600) :
  L170_0 (((),(),((ls.length:Nat):Int),(0:Int),()),((nm,v,n,(),()),((),(),(),(),()),ls,ks,()))=some (((),(),()),((nm,v,n,(),()),((),(),(),(),()),ls,ks,())):=by
 have hF:=zO
 have h:=yi (f:=B170_0) (λ(_:Unit) i=>(((),(),((ls.length:Nat):Int),(i:Int),()),((nm,v,n,(),()),((),(),(),(),()),ls,ks,()))) ls (λ_ _=>.inl ())
  (λ_=>(((),(),()),((nm,v,n,(),()),((),(),(),(),()),ls,ks,()))) (b:=()) (λb i a hi ha=>?_) (λb=>?_) (by omega)
 ·rw [foldS_const] at h
  exact h
 ·have hm:a∈ls:=by
   rw [<- ha (0,0,[],()),xo,List.getElem?_eq_getElem hi]
   exact List.getElem_mem hi
  simp only [B170_0,ym,yY,hi,zV,Bool.and_true,zH,zE,zu,ha,F54_eq _ (hb a hm),yL (show i<9223372036854775807 by omega)]
  rw [set_same ls i (a.1,a.2.1,a.2.2.1,()) (λd=>by rw [ha])]
 ·simp only [B170_0,Int.lt_irrefl,yu,zK]
theorem F170_eq (b:Box) (hl:b.2.2.2.1.length<=32) (hb:∀ l∈b.2.2.2.1,l.2.2.1.length<=600):F170 ((b,()),())=some ((b.1,b.2.1,b.2.2.1,(),()),(b.2.2.2.1,())):=by
 obtain ⟨nm,v,n,ls,u⟩:=b
 cases u
 simp only [F170,F53_eq ls hl,zE,L170_eq nm v n ls [] hl hb]
theorem chk_zero {n:Int}:∀ {ls:List Ltr} {last:Int},code (zd (chk1 n) (λ_=>.inl ((),())) last ls)=0->∀ l∈ls,last<l.1/\l.1<n/\l.2.1.toNat<32/\l.2.2.1.length<=600
 | [],_,_,_,hm=>absurd hm (List.not_mem_nil)
 | a::t,last,h,l,hm=>by
  simp only [zd,chk1] at h
  by_cases h1:a.1<=last\/n<=a.1
  ·simp [h1,code] at h
  ·by_cases h2:32<=a.2.1.toNat
   ·simp [h1,h2,code] at h
   ·by_cases h3:600<a.2.2.1.length
    ·simp [h1,h2,h3,code] at h
    ·simp only [h1,h2,h3,↓reduceIte] at h
     rcases List.mem_cons.mp hm with rfl | hm
     ·exact ⟨by omega,by omega,by omega,by omega⟩
     ·have:=chk_zero h l hm
      exact ⟨by omega,this.2.1,this.2.2.1,this.2.2.2⟩
theorem chk_rise {n:Int}:∀ {ls:List Ltr} {last:Int},code (zd (chk1 n) (λ_=>.inl ((),())) last ls)=0->ls.Pairwise (λa b=>a.1<b.1)
 | [],_,_=>List.Pairwise.nil
 | a::t,last,h=>by
  simp only [zd,chk1] at h
  by_cases h1:a.1<=last\/n<=a.1
  ·simp [h1,code] at h
  ·by_cases h2:32<=a.2.1.toNat
   ·simp [h1,h2,code] at h
   ·by_cases h3:600<a.2.2.1.length
    ·simp [h1,h2,h3,code] at h
    ·simp only [h1,h2,h3,↓reduceIte] at h
     exact List.Pairwise.cons (λl hl=>(chk_zero h l hl).1) (chk_rise h)
structure Right (b:Box):Prop where
 valid:1<=b.2.1/\b.2.1<=4294967295
 next:1<=b.2.2.1/\b.2.2.1<=4294967295
 few:b.2.2.2.1.length<=32
 each:∀ l∈b.2.2.2.1,0<l.1/\l.1<b.2.2.1/\l.2.1.toNat<32/\l.2.2.1.length<=600
 rise:b.2.2.2.1.Pairwise (λa b=>a.1<b.1)
theorem chk_of {n:Int}:∀ {ls:List Ltr} {last:Int},ls.Pairwise (λa b=>a.1<b.1)->(∀ l∈ls,last<l.1/\l.1<n/\l.2.1.toNat<32/\l.2.2.1.length<=600)->code (zd (chk1 n) (λ_=>.inl ((),())) last ls)=0
 | [],_,_,_=>rfl
 | a::t,last,hp,h=>by
  have ha:=h a (List.mem_cons_self ..)
  obtain ⟨hp1,hp2⟩:=List.pairwise_cons.mp hp
  have h1:¬ (a.1<=last\/n<=a.1):=by omega
  have h2:¬ 32<=a.2.1.toNat:=by omega
  have h3:¬ 600<a.2.2.1.length:=by omega
  simp only [zd,chk1,h1,h2,h3,↓reduceIte]
  exact chk_of hp2 (λl hl=>⟨hp1 l hl,(h l (List.mem_cons_of_mem _ hl)).2⟩)
theorem check_zero {b:Box}:y3 b=0<->Right b:=by
 constructor
 ·intro h
  unfold y3 at h
  by_cases h1:b.2.1<1\/4294967295<b.2.1\/b.2.2.1<1\/4294967295<b.2.2.1
  ·rw [if_pos h1] at h;cases h
  ·rw [if_neg h1] at h
   by_cases h2:32<b.2.2.2.1.length
   ·rw [if_pos h2] at h;cases h
   ·rw [if_neg h2] at h
    exact ⟨by omega,by omega,by omega,chk_zero h,chk_rise h⟩
 ·intro h
  have:=h.valid
  have:=h.next
  have:=h.few
  unfold y3
  rw [if_neg (by omega),if_neg (by omega)]
  exact chk_of h.rise h.each
def empty:Box:=([],0,0,[],())
def add (b:Box) (f:UInt8) (p:List UInt8):Box×Int×Int×Unit :=
 if y3 b≠0 then (empty,0,y3 b,())
 else if 32<=f.toNat then (empty,0,2,())
 else if 600<p.length then (empty,0,6,())
 else if b.2.2.2.1.length=32\/b.2.2.1=4294967295 then (empty,0,8,())
 else ((b.1,b.2.1,b.2.2.1+1,b.2.2.2.1++[(b.2.2.1,f,p,())],()),b.2.2.1,0,())
theorem F147_eq (b:Box) (f:UInt8) (p:List UInt8):F147 ((b,f,p,()),())=some (add b f p,()):=by
 have e16:=F95_eq b
 have e24:=F170_eq b
 have ez:=check_zero (b:=b)
 obtain ⟨nm,v,n,ls,u⟩:=b
 cases u
 unfold add
 simp only [F147,e16,zE]
 generalize hc:y3 (nm,v,n,ls,())=c at *
 by_cases h0:c=0
 ·have R:=ez.mp h0
  have hr:=R.few
  have hn:=R.next
  simp only at hr hn
  simp only [h0,ne_eq,not_true_eq_false,↓reduceIte,zV,yA,zK]
  by_cases h1:32<=f.toNat
  ·simp [h1,empty]
  ·by_cases h2:600<p.length
   ·have h2':(600:Int)<(p.length:Int):=by omega
    simp [h1,h2,h2',empty]
   ·have h2':¬ (600:Int)<(p.length:Int):=by omega
    by_cases h3:ls.length=32\/n=4294967295
    ·have h3':(decide (((ls.length:Nat):Int)=32)||decide (n=4294967295))=true:=by
      simp only [Bool.or_eq_true,xh];omega
     simp [h1,h2,h2',h3,h3',empty]
    ·have h3':(decide (((ls.length:Nat):Int)=32)||decide (n=4294967295))=false:=by
      simp only [Bool.or_eq_false_iff,decide_eq_false_iff_not];omega
     have hb:zC (ls.length+1) 40=true:=zU (by omega)
     simp only [show UInt8.toNat 32=32 from rfl,h1,h2,h2',h3,h3',yu,zV,zK,zE,yA,↓reduceIte,e24 hr (λl hl=>(R.each l hl).2.2.2),F54_eq p (by omega),List.length_cons,List.length_nil,Nat.zero_add,hb,zH,
      zQ (n:=n+1) (by omega) (by omega)]
 ·simp [h0,empty]
end
section
theorem add_len (b:Box) (f:UInt8) (p:List UInt8):(add b f p).1.2.2.2.1.length<=32:=by
 unfold add
 by_cases h0:y3 b=0
 ·have R:=check_zero.mp h0
  have:=R.few
  rw [if_neg (not_not_intro h0)]
  split
  ·exact Nat.zero_le _
  ·split
   ·exact Nat.zero_le _
   ·split
    ·exact Nat.zero_le _
    ·rename_i h
     simp only [yS,List.length_cons,List.length_nil]
     omega
 ·rw [if_pos h0]
  exact Nat.zero_le _
end
section
def cmp3 (a b:Int):Int:=if a<b then -1 else if b<a then 1 else 0
theorem F198_eq (a:Int):F198 ((a,()),())=some (false,()):=by
 simp only [F198,zV,yA]
theorem F189_eq (_u _f:Int×Unit) (l:Ltr) (uid:Int):F189 (((l.1,l.2.1,l.2.2.1,()),uid,()),())=some (cmp3 l.1 uid,()):=by
 simp only [F189,F190,F198_eq,zE,zK,cmp3]
 by_cases h1:l.1<uid
 ·simp [h1]
 ·by_cases h2:uid<l.1
  ·simp [h1,h2]
  ·simp [h1,h2]
theorem mid {lo hi:Nat} (h:lo+hi<1000):zZ (Int.fdiv (IntKind.wrap .u64 (zZ ((lo:Int)+(hi:Int)))) (2^1))=(((lo+hi)/2:Nat):Int):=by
 rw [zQ (n:=(lo:Int)+hi) (by omega) (by omega)]
 have e:IntKind.wrap .u64 ((lo:Int)+(hi:Int))=((lo+hi:Nat):Int):=by
  unfold IntKind.wrap
  simp only [IntKind.bits,IntKind.signed]
  simp
  omega
 rw [e]
 have e2:Int.fdiv ((lo+hi:Nat):Int) (2^1)=(((lo+hi)/2:Nat):Int):=by
  rw [Int.fdiv_eq_ediv_of_nonneg _ (by decide)]
  omega
 rw [e2]
 exact zQ (by omega) (by omega)
theorem getD_lt {ls:List Ltr} (h:ls.Pairwise (λa b=>a.1<b.1)) {i j:Nat} (hij:i<j) (hj:j<ls.length) (d:Ltr):(ls.getD i d).1<(ls.getD j d).1:=by
 have:=List.pairwise_iff_getElem.mp h i j (by omega) hj hij
 rw [xo,xo,List.getElem?_eq_getElem hj,List.getElem?_eq_getElem (show i<ls.length by omega)]
 exact this
abbrev ux:Ltr:=(0,0,[],())
theorem L188_eq (ls:List Ltr) (uid:Int) (hl:ls.length<=32) (hr:ls.Pairwise (λa b=>a.1<b.1)) :
  ∃ lo:Nat,tl ((ls,uid,(),((ls.length:Nat):Int),(0:Int),((ls.length:Nat):Int),()),())=some ((ls,uid,(),((ls.length:Nat):Int),(lo:Int),()),())/\lo<=ls.length/\(∀ k,k<lo->(ls.getD k ux).1<uid)/\(∀ k,lo<=k->k<ls.length->uid<=(ls.getD k ux).1):=by
 have hF:=zO
 have h:=yD (f:=wu) (p:=((ls,uid,(),((ls.length:Nat):Int),(0:Int),((ls.length:Nat):Int),()),()))
  (λp=>∃ lo hi:Nat,p=((ls,uid,(),((ls.length:Nat):Int),(lo:Int),(hi:Int),()),())/\lo<=hi/\hi<=ls.length/\(∀ k,k<lo->(ls.getD k ux).1<uid)/\(∀ k,hi<=k->k<ls.length->uid<=(ls.getD k ux).1))
  (λp=>(p.1.2.2.2.2.2.1-p.1.2.2.2.2.1).toNat)
  (λr=>∃ lo:Nat,r=((ls,uid,(),((ls.length:Nat):Int),(lo:Int),()),())/\lo<=ls.length/\(∀ k,k<lo->(ls.getD k ux).1<uid)/\(∀ k,lo<=k->k<ls.length->uid<=(ls.getD k ux).1))
  (λp hp=>by
   obtain ⟨lo,hi,rfl,h1,h2,h3,h4⟩:=hp
   by_cases hlt:lo<hi
   ·left
    have hm1:lo<=(lo+hi)/2:=by omega
    have hm2:(lo+hi)/2<hi:=by omega
    have hm3:(lo+hi)/2<ls.length:=by omega
    have hg:=F189_eq (0,()) (0,()) (ls.getD ((lo+hi)/2) ux) uid
    have hh:wu ((ls,uid,(),((ls.length:Nat):Int),(lo:Int),(hi:Int),()),())=some (.inl (if (ls.getD ((lo+hi)/2) ux).1<uid then ((ls,uid,(),((ls.length:Nat):Int),(((lo+hi)/2+1:Nat):Int),(hi:Int),()),()) else ((ls,uid,(),((ls.length:Nat):Int),(lo:Int),(((lo+hi)/2:Nat):Int),()),()))):=by
     simp only [wu,ym,yY,hlt,zV,zH,zE,mid (show lo+hi<1000 by omega),hm3,Bool.and_true,zu]
     rw [hg]
     simp only [zE,cmp3]
     by_cases hc:(ls.getD ((lo+hi)/2) ux).1<uid
     ·simp only [hc,↓reduceIte,yL (show (lo+hi)/2<9223372036854775807 by omega)]
      rfl
     ·simp only [hc,↓reduceIte]
      by_cases hc2:uid<(ls.getD ((lo+hi)/2) ux).1
      ·simp only [hc2,↓reduceIte];rfl
      ·simp only [hc2,↓reduceIte];rfl
    by_cases hc:(ls.getD ((lo+hi)/2) ux).1<uid
    ·rw [if_pos hc] at hh
     refine ⟨_,hh,⟨_,hi,rfl,by omega,h2,λk hk=>?_,h4⟩,by simp only;omega⟩
     rcases Nat.lt_or_ge k ((lo+hi)/2) with hk2 | hk2
     ·have:=getD_lt hr hk2 hm3 ux
      omega
     ·obtain rfl:k=(lo+hi)/2:=by omega
      exact hc
    ·rw [if_neg hc] at hh
     refine ⟨_,hh,⟨lo,_,rfl,hm1,by omega,h3,λk hk hk3=>?_⟩,by simp only;omega⟩
     rcases Nat.lt_or_ge ((lo+hi)/2) k with hk2 | hk2
     ·have:=getD_lt hr hk2 hk3 ux
      omega
     ·obtain rfl:k=(lo+hi)/2:=by omega
      omega
   ·right
    obtain rfl:lo=hi:=by omega
    refine ⟨((ls,uid,(),((ls.length:Nat):Int),(lo:Int),()),()),?_,lo,rfl,h2,h3,h4⟩
    simp only [wu,Int.lt_irrefl,yu,zK])
  ⟨0,ls.length,rfl,Nat.zero_le _,Nat.le_refl _,λk h=>absurd h (Nat.not_lt_zero _),λk h h'=>by omega⟩ (by simp only;omega)
 obtain ⟨r,h1,lo,rfl,h2⟩:=h
 exact ⟨lo,h1,h2⟩
def has (ls:List Ltr) (uid:Int):Bool:=ls.any λl=>decide (l.1=uid)
theorem F171_eq (b:Box) (uid:Int) (hl:b.2.2.2.1.length<=32) (hr:b.2.2.2.1.Pairwise (λa b=>a.1<b.1)) :
  ∃ i:Nat,F171 ((b,uid,()),())=some (((i:Int),has b.2.2.2.1 uid,()),())/\(has b.2.2.2.1 uid=true->i<b.2.2.2.1.length/\(b.2.2.2.1.getD i ux).1=uid):=by
 obtain ⟨nm,v,n,ls,u⟩:=b
 obtain ⟨lo,h1,h2,h3,h4⟩:=L188_eq ls uid hl hr
 change ls.length<=32 at hl
 change ls.Pairwise (λa b=>a.1<b.1) at hr
 refine ⟨lo,?_,?_⟩
 ·simp only [F171,F188c189,h1,zE,ym,yY,Bool.true_and,zu]
  by_cases hlo:lo<ls.length
  ·have hg:=F189_eq (0,()) (0,()) (ls.getD lo ux) uid
   simp only [hlo,zV,Bool.true_or,zH]
   rw [hg]
   simp only [zE]
   have e:decide (cmp3 (ls.getD lo ux).1 uid=0)=has ls uid:=by
    rw [Bool.eq_iff_iff,xh]
    unfold has
    rw [List.any_eq_true]
    constructor
    ·intro hc
     refine ⟨ls.getD lo ux,?_,?_⟩
     ·rw [xo,List.getElem?_eq_getElem hlo]
      exact List.getElem_mem hlo
     ·have:=h4 lo (Nat.le_refl _) hlo
      unfold cmp3 at hc
      rw [xh]
      split at hc
      ·omega
      ·split at hc
       ·omega
       ·omega
    ·rintro ⟨l,hm,he⟩
     rw [xh] at he
     obtain ⟨k,hk,rfl⟩:=List.getElem_of_mem hm
     have e1:(ls.getD k ux).1=uid:=by
      rw [xo,List.getElem?_eq_getElem hk];exact he
     rcases Nat.lt_trichotomy k lo with h | h | h
     ·have:=h3 k h;omega
     ·subst h
      unfold cmp3
      rw [if_neg (by omega),if_neg (by omega)]
     ·have:=getD_lt hr h hk ux
      have:=h4 lo (Nat.le_refl _) hlo
      omega
   rw [e]
  ·have e:has ls uid=false:=by
    unfold has
    rw [List.any_eq_false]
    intro l hm
    rw [xh]
    obtain ⟨k,hk,rfl⟩:=List.getElem_of_mem hm
    have e1:(ls.getD k ux).1=(ls[k]).1:=by
     rw [xo,List.getElem?_eq_getElem hk];rfl
    have:=h3 k (by omega)
    omega
   simp only [hlo,yu,yx,Bool.or_true,zH,zK,e,zE]
 ·intro hh
  change has ls uid=true at hh
  unfold has at hh
  rw [List.any_eq_true] at hh
  obtain ⟨l,hm,he⟩:=hh
  rw [xh] at he
  obtain ⟨k,hk,rfl⟩:=List.getElem_of_mem hm
  have e1:(ls.getD k ux).1=uid:=by
   rw [xo,List.getElem?_eq_getElem hk];exact he
  change lo<ls.length/\(ls.getD lo ux).1=uid
  rcases Nat.lt_trichotomy k lo with h | h | h
  ·have:=h3 k h;omega
  ·subst h
   exact ⟨hk,e1⟩
  ·have:=getD_lt hr h hk ux
   have:=h4 lo (Nat.le_refl _) (by omega)
   omega
end
section
def keep (uid:Int) (l:Ltr):Bool:=!decide (l.1=uid)
theorem F173_eq (l:Ltr) (uid:Int):F173 (((l.1,l.2.1,l.2.2.1,()),(),()),((uid,()),()))=some (decide (l.1=uid),((uid,()),())):=rfl
abbrev R48:Type:=(((Unit×Unit)×Unit)×((Int×Unit)×Unit))⊕(((Unit×Unit)×Int×Unit)×((Int×Unit)×Unit))
def stp48 (uid:Int) (a:Ltr) (b:Nat):Nat⊕R48:=if a.1=uid then .inr (.inr ((((),()),(b:Int),()),((uid,()),()))) else .inl (b+1)
theorem L191_eq (ls:List Ltr) (uid:Int) (hl:ls.length<=32):tj ((ls,((),()),((ls.length:Nat):Int),(0:Int),()),((uid,()),()))=some (zd (stp48 uid) (λ_=>.inl ((((),()),()),((uid,()),()))) 0 ls):=by
 have hF:=zO
 refine zq (f:=uJ) (λ(_:Nat) i=>((ls,((),()),((ls.length:Nat):Int),(i:Int),()),((uid,()),()))) ls (stp48 uid) _ (λb i=>b=i)
  (λb i a hI hi ha=>?_) (λb _=>?_) (by omega) rfl
 ·subst hI
  have hg:=F173_eq a uid
  simp only [uJ,ym,yY,hi,zV,Bool.and_true,zH,zu,ha]
  rw [hg]
  simp only [zE,stp48]
  by_cases h:a.1=uid
  ·simp only [h,↓reduceIte,zV,zH]
   exact .inr ⟨_,rfl,rfl⟩
  ·simp only [h,↓reduceIte,yu,zK,yL (show b<9223372036854775807 by omega)]
   exact .inl ⟨_,rfl,rfl,trivial⟩
 ·simp only [uJ,Int.lt_irrefl,yu,zK]
theorem fold48 (uid:Int) (z:R48):∀ (ls:List Ltr) (b:Nat),has ls uid=true ->
  ∃ k,zd (stp48 uid) (λ_=>z) b ls=.inr ((((),()),((b+k:Nat):Int),()),((uid,()),()))/\k<ls.length/\(ls.take (k+1)).filter (keep uid)=ls.take k
 | [],_,h=>by cases h
 | a::t,b,h=>by
  by_cases ha:a.1=uid
  ·refine ⟨0,?_,?_,?_⟩
   ·simp only [zd,stp48,ha,↓reduceIte]
    rfl
   ·simp
   ·simp [keep,ha]
  ·have ht:has t uid=true:=by
    simpa [has,ha] using h
   obtain ⟨k,h1,h2,h3⟩:=fold48 uid z t (b+1) ht
   refine ⟨k+1,?_,?_,?_⟩
   ·simp only [zd,stp48,ha,↓reduceIte]
    rw [show b+(k+1)=b+1+k by omega]
    exact h1
   ·simp only [List.length_cons];omega
   ·rw [List.take_succ_cons,List.filter_cons_of_pos (by simp [keep,ha]),h3,List.take_succ_cons]
theorem getD_of_drop {α:Type} {M ls:List α} {j:Nat} (h:M.drop j=ls.drop j) (d:α):M.getD j d=ls.getD j d:=by
 have e:(M.drop j)[0]?=(ls.drop j)[0]?:=by rw [h]
 rw [List.getElem?_drop,List.getElem?_drop,Nat.add_zero] at e
 rw [xo,xo,e]
theorem L172_eq (ls:List Ltr) (uid:Int) (hl:ls.length<=32) (k:Nat) (hk:k<ls.length) (hf:(ls.take (k+1)).filter (keep uid)=ls.take k) :
  ∃ (i:Nat) (M:List Ltr),tm (((),((),()),(k:Int),((k+1:Nat):Int),()),(ls,(uid,()),()))=some (((),((),()),(i:Int),()),(M,(uid,()),()))/\i<=M.length/\M.length=ls.length/\M.take i=ls.filter (keep uid):=by
 have hF:=zO
 have h:=yD (f:=wv) (p:=(((),((),()),(k:Int),((k+1:Nat):Int),()),(ls,(uid,()),())))
  (λp=>∃ (i j:Nat) (M:List Ltr),p=(((),((),()),(i:Int),(j:Int),()),(M,(uid,()),()))/\i<j/\j<=ls.length/\M.length=ls.length/\M.take i=(ls.take j).filter (keep uid)/\M.drop j=ls.drop j)
  (λp=>((ls.length:Int)-p.1.2.2.2.1).toNat)
  (λr=>∃ (i:Nat) (M:List Ltr),r=(((),((),()),(i:Int),()),(M,(uid,()),()))/\i<=M.length/\M.length=ls.length/\M.take i=ls.filter (keep uid))
  (λp hp=>by
   obtain ⟨i,j,M,rfl,h1,h2,h3,h4,h5⟩:=hp
   by_cases hj:j<ls.length
   ·left
    have hjM:j<M.length:=by omega
    have hiM:i<M.length:=by omega
    have hx:=getD_of_drop h5 ux
    have hxe:ls.getD j ux=ls[j]:=by rw [xo,List.getElem?_eq_getElem hj];rfl
    have ht:(ls.take (j+1)).filter (keep uid)=(ls.take j).filter (keep uid)++[ls.getD j ux].filter (keep uid):=by
     rw [List.take_succ_eq_append_getElem hj,List.filter_append,hxe]
    have hd:M.drop (j+1)=ls.drop (j+1):=by
     rw [<- List.drop_drop,<- List.drop_drop,h5]
    have hg:=F173_eq (ls.getD j ux) uid
    by_cases hc:(ls.getD j ux).1=uid
    ·refine ⟨_,?_,⟨i,j+1,M,rfl,by omega,by omega,h3,?_,hd⟩,by simp only;omega⟩
     ·simp only [wv,ym,yY,hjM,zV,Bool.and_true,zH,zE,zu,hx]
      rw [hg]
      simp only [hc,zV,yA,zK,zE,yL (show j<9223372036854775807 by omega)]
     ·rw [ht,h4];simp only [List.filter_cons,keep,hc,zV,yA,Bool.false_eq_true,↓reduceIte,List.filter_nil,List.append_nil]
    ·refine ⟨_,?_,⟨i+1,j+1,M.set i (ls.getD j ux),rfl,by omega,by omega,by rw [List.length_set];exact h3,?_,?_⟩,by simp only;omega⟩
     ·simp only [wv,ym,yY,hjM,zV,Bool.and_true,zH,zE,zu,hx]
      rw [hg]
      simp only [hc,yu,yx,zH,zE,yY,ym,hiM,zV,Bool.and_true,zu,yL (show j<9223372036854775807 by omega),yL (show i<9223372036854775807 by omega)]
     ·have hiS:i<(M.set i (ls.getD j ux)).length:=by rw [List.length_set];exact hiM
      rw [ht,<- h4,List.take_succ_eq_append_getElem hiS,List.take_set_of_le (Nat.le_refl _),List.getElem_set_self]
      simp only [List.filter_cons,keep,hc,yu,yx,↓reduceIte,List.filter_nil]
     ·rw [List.drop_set_of_lt (by omega)];exact hd
   ·right
    obtain rfl:j=ls.length:=by omega
    refine ⟨(((),((),()),(i:Int),()),(M,(uid,()),())),?_,i,M,rfl,by omega,h3,?_⟩
    ·simp only [wv,h3,Int.lt_irrefl,yu,zK]
    ·rw [h4,List.take_length])
  ⟨k,k+1,ls,rfl,by omega,by omega,rfl,hf.symm,rfl⟩ (by simp only;omega)
 obtain ⟨r,h1,i,M,rfl,h2⟩:=h
 exact ⟨i,M,h1,h2⟩
theorem F172_eq (ls:List Ltr) (uid:Int) (hl:ls.length<=32) (hh:has ls uid=true) :
  F172c173 (((),((),()),()),(ls,(uid,()),()))=some (ls.filter (keep uid),((uid,()),())):=by
 obtain ⟨k,h1,h2,h3⟩:=fold48 uid (.inl ((((),()),()),((uid,()),()))) ls 0 hh
 obtain ⟨i,M,h4,h5,h6,h7⟩:=L172_eq ls uid hl k h2 h3
 rw [Nat.zero_add] at h1
 have e48:F191c173 ((ls,((),()),()),((uid,()),()))=some ((k:Int),((uid,()),())):=by
  simp only [F191c173,L191_eq ls uid hl,h1,zE]
 have hk:¬ ((k:Int)=-1):=by omega
 have hi:(i:Int)<=(M.length:Int):=by omega
 have hlt:(List.take i M).length=i:=by rw [yy];omega
 have hi2:(i:Int)<=((List.take i M++List.replicate (M.length-i) ((0:Int),((0:UInt8),(([]:(List UInt8)),())))++List.drop (i+(M.length-i)) M).length:Int):=by
  simp only [yS,hlt,List.length_replicate];omega
 simp only [F172c173,e48,zE,hk,yu,zK,yL (show k<9223372036854775807 by omega),h4,yY,hi,zV,Bool.and_true,Int.le_refl,zH,zu,hi2]
 rw [lAs,List.take_left' hlt,h7]
def cut (b:Box) (uid:Int):Box×Int×Unit :=
 if y3 b≠0 then (empty,y3 b,())
 else if has b.2.2.2.1 uid then ((b.1,b.2.1,b.2.2.1,b.2.2.2.1.filter (keep uid),()),0,())
 else (empty,9,())
theorem F149_eq (b:Box) (uid:Int):F149 ((b,uid,()),())=some (cut b uid,()):=by
 have e16:=F95_eq b
 have e24:=F170_eq b
 have e34:=F171_eq b uid
 have ez:=check_zero (b:=b)
 obtain ⟨nm,v,n,ls,u⟩:=b
 cases u
 unfold cut
 simp only [F149,e16,zE]
 generalize hc:y3 (nm,v,n,ls,())=c at *
 by_cases h0:c=0
 ·have R:=ez.mp h0
  obtain ⟨i,h1,h2⟩:=e34 R.few R.rise
  simp only at h1 h2
  simp only [h0,ne_eq,not_true_eq_false,↓reduceIte,zV,yA,zK,h1,zE]
  cases hh:has ls uid
  ·simp [empty]
  ·simp only [yA,zK,e24 R.few (λl hl=>(R.each l hl).2.2.2),zE,F172_eq ls uid R.few hh,↓reduceIte]
 ·simp [h0,empty]
def lay (how:Int) (was f:UInt8):UInt8:=if how=0 then f else if how=1 then was ||| f else was &&& ~~~f
def stpB (how:Int) (was f:UInt8) (bit is:UInt8):UInt8 :=
 if (decide (how=0)&&decide (f/bit % 2=1)||decide (how=1)&&(decide (was/bit % 2=1)||decide (f/bit % 2=1))||decide (how=2)&&decide (was/bit % 2=1)&&!decide (f/bit % 2=1)) then is+bit else is
def bits (how:Int) (was f:UInt8):UInt8:=stpB how was f 16 (stpB how was f 8 (stpB how was f 4 (stpB how was f 2 (stpB how was f 1 0))))
def relay (uid how:Int) (f:UInt8) (a:Ltr):Ltr:=if a.1=uid then (a.1,lay how a.2.1 f,a.2.2.1,()) else a
def flag (b:Box) (uid how:Int) (f:UInt8):Box×Int×Unit :=
 if y3 b≠0 then (empty,y3 b,())
 else if how<0\/2<how\/32<=f.toNat then (empty,2,())
 else if has b.2.2.2.1 uid then ((b.1,b.2.1,b.2.2.1,b.2.2.2.1.map (relay uid how f),()),0,())
 else (empty,9,())
theorem rise_inj {ls:List Ltr} (h:ls.Pairwise (λa b=>a.1<b.1)) {i j:Nat} (hi:i<ls.length) (hj:j<ls.length) (he:ls[i].1=ls[j].1):i=j:=by
 rcases Nat.lt_trichotomy i j with h' | h' | h'
 ·have:=List.pairwise_iff_getElem.mp h i j hi hj h';omega
 ·exact h'
 ·have:=List.pairwise_iff_getElem.mp h j i hj hi h';omega
theorem set_map {ls:List Ltr} (h:ls.Pairwise (λa b=>a.1<b.1)) {uid:Int} {i:Nat} (hi:i<ls.length) (he:(ls.getD i ux).1=uid) (g:Ltr->Ltr) :
  ls.set i (g (ls.getD i ux))=ls.map λa=>if a.1=uid then g a else a:=by
 have e:ls.getD i ux=ls[i]:=by rw [xo,List.getElem?_eq_getElem hi];rfl
 rw [e] at he ⊢
 refine List.ext_getElem (by simp) λk hk1 hk2=>?_
 rw [List.length_set] at hk1
 rw [List.getElem_set,List.getElem_map]
 by_cases hk:i=k
 ·subst hk
  simp [he]
 ·have:¬ (ls[k].1=uid):=λhq=>hk (rise_inj h hi hk1 (by rw [he,hq]))
  simp [hk,this]
theorem F148_eq (b:Box) (uid how:Int) (f:UInt8):F148 ((b,uid,how,f,()),())=some (flag b uid how f,()):=by
 have e16:=F95_eq b
 have e24:=F170_eq b
 have e34:=F171_eq b uid
 have ez:=check_zero (b:=b)
 obtain ⟨nm,v,n,ls,u⟩:=b
 cases u
 unfold flag
 simp only [F148,e16,zE]
 generalize hc:y3 (nm,v,n,ls,())=c at *
 by_cases h0:c=0
 ·have R:=ez.mp h0
  obtain ⟨i,h1,h2⟩:=e34 R.few R.rise
  simp only at h1 h2
  simp only [h0,ne_eq,not_true_eq_false,↓reduceIte,zV,yA,zK,h1,zE]
  by_cases hb:how<0\/2<how\/32<=f.toNat
  ·have e:(decide (how<0)||decide (2<how)||decide (UInt8.toNat 32<=f.toNat))=true:=by
    simp only [Bool.or_eq_true,xh,show UInt8.toNat 32=32 from rfl];omega
   simp only [e,zH,hb,↓reduceIte,empty]
  ·have e:(decide (how<0)||decide (2<how)||decide (UInt8.toNat 32<=f.toNat))=false:=by
    simp only [Bool.or_eq_false_iff,decide_eq_false_iff_not,show UInt8.toNat 32=32 from rfl];omega
   simp only [e,zK,hb,↓reduceIte]
   cases hh:has ls uid
   ·simp [empty]
   ·obtain ⟨hi,he⟩:=h2 hh
    have s:=set_map R.rise hi he (λa=>(a.1,lay how a.2.1 f,a.2.2.1,()))
    have hm:(λa:Ltr=>if a.1=uid then (a.1,lay how a.2.1 f,a.2.2.1,()) else a)=relay uid how f:=rfl
    rw [hm] at s
    simp only at s
    rw [<- s]
    simp only [yA,zK,e24 R.few (λl hl=>(R.each l hl).2.2.2),zE,yY,ym,hi,zV,Bool.and_true,zH,zu,↓reduceIte]
    obtain rfl | rfl | rfl:how=0\/how=1\/how=2:=by omega
    ·rfl
    ·rfl
    ·rfl
 ·simp [h0,empty]
theorem flag_len (b:Box) (uid how:Int) (f:UInt8):(flag b uid how f).1.2.2.2.1.length<=32:=by
 unfold flag
 split
 ·exact Nat.zero_le _
 ·rename_i h0
  have R:=check_zero.mp (Classical.not_not.mp h0)
  have:=R.few
  split
  ·exact Nat.zero_le _
  ·split
   ·simp only [List.length_map];exact this
   ·exact Nat.zero_le _
theorem cut_len (b:Box) (uid:Int):(cut b uid).1.2.2.2.1.length<=32:=by
 unfold cut
 split
 ·exact Nat.zero_le _
 ·rename_i h0
  have R:=check_zero.mp (Classical.not_not.mp h0)
  have:=R.few
  split
  ·exact Nat.le_trans (List.length_filter_le _ _) this
  ·exact Nat.zero_le _
end
section
def laid (b:Box) (uid how:Int) (f:UInt8):Box:=(b.1,b.2.1,b.2.2.1,b.2.2.2.1.map (relay uid how f),())
theorem flag_good {b:Box} {uid how:Int} {f:UInt8} (h:(flag b uid how f).2.1=0):Right b/\0<=how/\how<=2/\f.toNat<32/\has b.2.2.2.1 uid=true/\flag b uid how f=(laid b uid how f,0,()):=by
 unfold flag at *
 by_cases h1:y3 b≠0
 ·rw [if_pos h1] at h
  exact absurd h h1
 ·rw [if_neg h1] at h ⊢
  by_cases h2:how<0\/2<how\/32<=f.toNat
  ·rw [if_pos h2] at h
   cases h
  ·rw [if_neg h2] at h ⊢
   by_cases h3:has b.2.2.2.1 uid=true
   ·rw [if_pos h3]
    exact ⟨check_zero.mp (Classical.not_not.mp h1),by omega,by omega,by omega,h3,rfl⟩
   ·rw [if_neg h3] at h
    cases h
theorem lay_all:((List.range 32).all λx=>(List.range 32).all λy=>(List.range 3).all λk =>
  decide ((lay k (UInt8.ofNat x) (UInt8.ofNat y)).toNat<32)&&decide (lay k (lay k (UInt8.ofNat x) (UInt8.ofNat y)) (UInt8.ofNat y)=lay k (UInt8.ofNat x) (UInt8.ofNat y))&&decide (lay 2 (lay 1 (UInt8.ofNat x) (UInt8.ofNat y)) (UInt8.ofNat y)=lay 2 (UInt8.ofNat x) (UInt8.ofNat y)))=true:=by kernel_rfl
theorem lay_eq {how:Int} {was f:UInt8} (h1:0<=how) (h2:how<=2) (hw:was.toNat<32) (hf:f.toNat<32) :
  (lay how was f).toNat<32/\lay how (lay how was f) f=lay how was f/\lay 2 (lay 1 was f) f=lay 2 was f:=by
 have h:=List.all_eq_true.mp (List.all_eq_true.mp (List.all_eq_true.mp lay_all was.toNat (List.mem_range.mpr hw)) f.toNat (List.mem_range.mpr hf)) how.toNat (List.mem_range.mpr (by omega))
 rw [UInt8.ofNat_toNat,UInt8.ofNat_toNat,yo,yo,xh,xh,xh] at h
 rw [show ((how.toNat:Nat):Int)=how by omega] at h
 exact ⟨h.1.1,h.1.2,h.2⟩
theorem relay_1 (uid how:Int) (f:UInt8) (a:Ltr):(relay uid how f a).1=a.1:=by
 unfold relay;split <;> rfl
theorem relay_3 (uid how:Int) (f:UInt8) (a:Ltr):(relay uid how f a).2.2.1=a.2.2.1:=by
 unfold relay;split <;> rfl
theorem laid_right {b:Box} {uid how:Int} {f:UInt8} (R:Right b) (h1:0<=how) (h2:how<=2) (h3:f.toNat<32):Right (laid b uid how f) where
 valid:=R.valid
 next:=R.next
 few:=by
  simp only [laid,List.length_map];exact R.few
 each:=λl hl=>by
  simp only [laid] at hl ⊢
  obtain ⟨a,ha,rfl⟩:=List.mem_map.mp hl
  have q:=R.each a ha
  rw [relay_1,relay_3]
  refine ⟨q.1,q.2.1,?_,q.2.2.2⟩
  unfold relay
  split
  ·exact (lay_eq h1 h2 q.2.2.1 h3).1
  ·exact q.2.2.1
 rise:=by
  simp only [laid]
  rw [List.pairwise_map]
  simp only [relay_1]
  exact R.rise
def cutd (b:Box) (uid:Int):Box:=(b.1,b.2.1,b.2.2.1,b.2.2.2.1.filter (keep uid),())
theorem cut_good {b:Box} {uid:Int} (R:Right b):cut b uid=if has b.2.2.2.1 uid then (cutd b uid,0,()) else (empty,9,()):=by
 unfold cut
 rw [if_neg (not_not_intro (check_zero.mpr R))]
 rfl
theorem cutd_right {b:Box} (R:Right b) (uid:Int):Right (cutd b uid) where
 valid:=R.valid
 next:=R.next
 few:=by
  have:=R.few
  exact Nat.le_trans (List.length_filter_le _ _) this
 each:=λl hl=>R.each l ((List.mem_filter.mp hl).1)
 rise:=List.Pairwise.filter _ R.rise
def added (b:Box) (f:UInt8) (p:List UInt8):Box:=(b.1,b.2.1,b.2.2.1+1,b.2.2.2.1++[(b.2.2.1,f,p,())],())
theorem add_good {b:Box} {f:UInt8} {p:List UInt8} (R:Right b) (hf:f.toNat<32) (hp:p.length<=600) :
  add b f p=if b.2.2.2.1.length=32\/b.2.2.1=4294967295 then (empty,0,8,()) else (added b f p,b.2.2.1,0,()):=by
 unfold add
 rw [if_neg (not_not_intro (check_zero.mpr R)),if_neg (by omega),if_neg (by omega)]
 rfl
theorem added_right {b:Box} {f:UInt8} {p:List UInt8} (R:Right b) (hf:f.toNat<32) (hp:p.length<=600) (h:¬ (b.2.2.2.1.length=32\/b.2.2.1=4294967295)):Right (added b f p) where
 valid:=R.valid
 next:=by
  have:=R.next
  simp only [added];omega
 few:=by
  have:=R.few
  simp only [added,yS,List.length_cons,List.length_nil];omega
 each:=λl hl=>by
  have hn:=R.next
  simp only [added] at hl ⊢
  rcases List.mem_append.mp hl with hl | hl
  ·have q:=R.each l hl
   exact ⟨q.1,by omega,q.2.2.1,q.2.2.2⟩
  ·rw [List.mem_singleton.mp hl]
   exact ⟨by omega,by simp only;omega,hf,hp⟩
 rise:=by
  simp only [added]
  rw [List.pairwise_append]
  refine ⟨R.rise,List.pairwise_singleton _ _,λx hx y hy=>?_⟩
  rw [List.mem_singleton.mp hy]
  exact (R.each x hx).2.1
end
end Go.Fl
namespace Go.Fl
open Go Go.Ev
set_option maxRecDepth 100000
abbrev Tx:Type:=List UInt8
abbrev Bx:Type:=Tx×(Int×(Int×(List Ltr×Unit)))
theorem cb_le:∀ (a b:Tx),Lib.compareBytes a b=if a<b then -1 else if a=b then 0 else 1
 | [],[]=>by simp [Lib.compareBytes]
 | [],b::bs=>by simp [Lib.compareBytes]
 | a::r,[]=>by simp [Lib.compareBytes]
 | a::r,b::bs=>by
  have ih:=cb_le r bs
  simp only [Lib.compareBytes,List.cons_lt_cons_iff,List.cons.injEq]
  by_cases h1:a<b
  ·simp [h1]
  ·by_cases h2:b<a
   ·have h3:a≠b:=λe=>by subst e;exact h1 h2
    simp [h1,h2,h3]
   ·have h3:a=b:=by
     apply UInt8.toNat_inj.1
     have k1:¬ a.toNat<b.toNat:=λh=>h1 (UInt8.lt_iff_toNat_lt.2 h)
     have k2:¬ b.toNat<a.toNat:=λh=>h2 (UInt8.lt_iff_toNat_lt.2 h)
     omega
    subst h3
    simp [h1,ih]
theorem u8_eq {a b:UInt8} (h1:¬ a<b) (h2:¬ b<a):a=b:=by
 apply UInt8.toNat_inj.1
 have k1:¬ a.toNat<b.toNat:=λh=>h1 (UInt8.lt_iff_toNat_lt.2 h)
 have k2:¬ b.toNat<a.toNat:=λh=>h2 (UInt8.lt_iff_toNat_lt.2 h)
 omega
theorem wH:∀ {a b:Tx},¬ a<b->a≠b->b<a
 | [],[],_,h=>absurd rfl h
 | [],_::_,h,_=>absurd (by simp) h
 | _::_,[],_,_=>by simp
 | a::r,b::bs,h1,h2=>by
  rw [List.cons_lt_cons_iff] at h1 ⊢
  rw [not_or,not_and] at h1
  by_cases h3:b<a
  ·exact .inl h3
  ·have h4:=u8_eq h1.1 h3
   subst h4
   exact .inr ⟨rfl,wH (h1.2 rfl) λe=>h2 (by rw [e])⟩
theorem cmpb (b:Bx) (nm:Tx):F164 (((b.1,b.2.1,b.2.2.1,b.2.2.2.1,()),nm,()),())=some (Lib.compareBytes b.1 nm,()):=rfl
abbrev yH:Bx:=([],0,0,[],())
theorem getDb_lt {ls:List Bx} (h:ls.Pairwise (λa b=>a.1<b.1)) {i j:Nat} (hij:i<j) (hj:j<ls.length) (d:Bx):(ls.getD i d).1<(ls.getD j d).1:=by
 have:=List.pairwise_iff_getElem.mp h i j (by omega) hj hij
 rw [xo,xo,List.getElem?_eq_getElem hj,List.getElem?_eq_getElem (show i<ls.length by omega)]
 exact this
theorem cb_neg (a b:Tx):Lib.compareBytes a b<0<->a<b:=by
 rw [cb_le]
 split
 ·simp [*]
 ·split <;> simp [*]
theorem L163_eq (ls:List Bx) (nm:Tx) (hl:ls.length<=32) (hr:ls.Pairwise (λa b=>a.1<b.1)) :
  ∃ lo:Nat,tp ((ls,nm,(),((ls.length:Nat):Int),(0:Int),((ls.length:Nat):Int),()),())=some ((ls,nm,(),((ls.length:Nat):Int),(lo:Int),()),())/\lo<=ls.length/\(∀ k,k<lo->(ls.getD k yH).1<nm)/\(∀ k,lo<=k->k<ls.length->¬ (ls.getD k yH).1<nm):=by
 have hF:=zO
 have h:=yD (f:=ww) (p:=((ls,nm,(),((ls.length:Nat):Int),(0:Int),((ls.length:Nat):Int),()),()))
  (λp=>∃ lo hi:Nat,p=((ls,nm,(),((ls.length:Nat):Int),(lo:Int),(hi:Int),()),())/\lo<=hi/\hi<=ls.length/\(∀ k,k<lo->(ls.getD k yH).1<nm)/\(∀ k,hi<=k->k<ls.length->¬ (ls.getD k yH).1<nm))
  (λp=>(p.1.2.2.2.2.2.1-p.1.2.2.2.2.1).toNat)
  (λr=>∃ lo:Nat,r=((ls,nm,(),((ls.length:Nat):Int),(lo:Int),()),())/\lo<=ls.length/\(∀ k,k<lo->(ls.getD k yH).1<nm)/\(∀ k,lo<=k->k<ls.length->¬ (ls.getD k yH).1<nm))
  (λp hp=>by
   obtain ⟨lo,hi,rfl,h1,h2,h3,h4⟩:=hp
   by_cases hlt:lo<hi
   ·left
    have hm1:lo<=(lo+hi)/2:=by omega
    have hm2:(lo+hi)/2<hi:=by omega
    have hm3:(lo+hi)/2<ls.length:=by omega
    have hg:=cmpb (ls.getD ((lo+hi)/2) yH) nm
    have hh:ww ((ls,nm,(),((ls.length:Nat):Int),(lo:Int),(hi:Int),()),())=some (.inl (if (ls.getD ((lo+hi)/2) yH).1<nm then ((ls,nm,(),((ls.length:Nat):Int),(((lo+hi)/2+1:Nat):Int),(hi:Int),()),()) else ((ls,nm,(),((ls.length:Nat):Int),(lo:Int),(((lo+hi)/2:Nat):Int),()),()))):=by
     simp only [ww,ym,yY,hlt,zV,zH,zE,mid (show lo+hi<1000 by omega),hm3,Bool.and_true,zu]
     rw [hg]
     simp only [zE]
     by_cases hc:(ls.getD ((lo+hi)/2) yH).1<nm
     ·simp only [zX ((cb_neg _ _).2 hc),hc,↓reduceIte,yL (show (lo+hi)/2<9223372036854775807 by omega)]
      rfl
     ·simp only [z7 (λh=>hc ((cb_neg _ _).1 h)),hc,↓reduceIte]
      rfl
    by_cases hc:(ls.getD ((lo+hi)/2) yH).1<nm
    ·rw [if_pos hc] at hh
     refine ⟨_,hh,⟨_,hi,rfl,by omega,h2,λk hk=>?_,h4⟩,by simp only;omega⟩
     rcases Nat.lt_or_ge k ((lo+hi)/2) with hk2 | hk2
     ·exact List.lt_trans (getDb_lt hr hk2 hm3 yH) hc
     ·obtain rfl:k=(lo+hi)/2:=by omega
      exact hc
    ·rw [if_neg hc] at hh
     refine ⟨_,hh,⟨lo,_,rfl,hm1,by omega,h3,λk hk hk3=>?_⟩,by simp only;omega⟩
     rcases Nat.lt_or_ge ((lo+hi)/2) k with hk2 | hk2
     ·exact λhh=>hc (List.lt_trans (getDb_lt hr hk2 hk3 yH) hh)
     ·obtain rfl:k=(lo+hi)/2:=by omega
      exact hc
   ·right
    obtain rfl:lo=hi:=by omega
    refine ⟨((ls,nm,(),((ls.length:Nat):Int),(lo:Int),()),()),?_,lo,rfl,h2,h3,h4⟩
    simp only [ww,Int.lt_irrefl,yu,zK])
  ⟨0,ls.length,rfl,Nat.zero_le _,Nat.le_refl _,λk h=>absurd h (Nat.not_lt_zero _),λk h h'=>by omega⟩ (by simp only;omega)
 obtain ⟨r,h1,lo,rfl,h2⟩:=h
 exact ⟨lo,h1,h2⟩
abbrev Usr:Type:=Tx×Int×List Bx×Unit
def yp (ls:List Bx) (nm:Tx):Bool:=ls.any λb=>decide (b.1=nm)
theorem F140_eq (u:Usr) (nm:Tx) (hl:u.2.2.1.length<=32) (hr:u.2.2.1.Pairwise (λa b=>a.1<b.1)) :
  ∃ lo:Nat,F140 ((u,nm,()),())=some (((lo:Int),yp u.2.2.1 nm,()),())/\lo<=u.2.2.1.length/\(∀ k,k<lo->(u.2.2.1.getD k yH).1<nm)/\(∀ k,lo<=k->k<u.2.2.1.length->¬ (u.2.2.1.getD k yH).1<nm) /\
   (yp u.2.2.1 nm=true->lo<u.2.2.1.length/\(u.2.2.1.getD lo yH).1=nm)/\(yp u.2.2.1 nm=false->∀ k,k<u.2.2.1.length->(u.2.2.1.getD k yH).1≠nm):=by
 obtain ⟨un,uv,ls,⟨⟩⟩:=u
 change ls.length<=32 at hl
 change ls.Pairwise (λa b=>a.1<b.1) at hr
 obtain ⟨lo,h1,h2,h3,h4⟩:=L163_eq ls nm hl hr
 have hyes:yp ls nm=true->lo<ls.length/\(ls.getD lo yH).1=nm:=λhh=>by
  unfold yp at hh
  rw [List.any_eq_true] at hh
  obtain ⟨b,hm,he⟩:=hh
  rw [xh] at he
  obtain ⟨k,hk,rfl⟩:=List.getElem_of_mem hm
  have e1:(ls.getD k yH).1=nm:=by
   rw [xo,List.getElem?_eq_getElem hk];exact he
  rcases Nat.lt_trichotomy k lo with h | h | h
  ·have:=h3 k h;rw [e1] at this;exact absurd this (List.lt_irrefl _)
  ·subst h;exact ⟨hk,e1⟩
  ·have q1:=getDb_lt hr h hk yH
   have q2:=h4 lo (Nat.le_refl _) (by omega)
   rw [e1] at q1
   exact absurd q1 q2
 have hno:yp ls nm=false->∀ k,k<ls.length->(ls.getD k yH).1≠nm:=λhh k hk he=>by
  unfold yp at hh
  rw [List.any_eq_false] at hh
  have:=hh ls[k] (List.getElem_mem hk)
  rw [xh] at this
  apply this
  rw [xo,List.getElem?_eq_getElem hk] at he
  exact he
 refine ⟨lo,?_,h2,h3,h4,hyes,hno⟩
 simp only [F140,F163c164,h1,zE,ym,yY,Bool.true_and,zu]
 by_cases hlo:lo<ls.length
 ·simp only [hlo,zV,Bool.true_or,zH]
  rw [cmpb (ls.getD lo yH) nm]
  simp only [zE]
  have e:decide (Lib.compareBytes (ls.getD lo yH).1 nm=0)=yp ls nm:=by
   cases hb:yp ls nm with
   | true =>
    rw [(hyes hb).2,cb_le,if_neg (List.lt_irrefl _),if_pos rfl]
    rfl
   | false =>
    have:=hno hb lo hlo
    rw [cb_le,if_neg (h4 lo (Nat.le_refl _) hlo),if_neg this]
    rfl
  rw [e]
 ·have e:yp ls nm=false:=by
   cases hb:yp ls nm with
   | true=>exact absurd (hyes hb).1 hlo
   | false=>rfl
  simp only [hlo,yu,yx,Bool.or_true,zH,zK,e,zE]
theorem L38_eq (nm:List UInt8) (v n:Int) (ls ks:List Ltr) (hl:ls.length<=32) (hb:∀ l∈ls,l.2.2.1.length<=600) :
  L38_0 (((),(),((ls.length:Nat):Int),(0:Int),()),((nm,v,n,(),()),((),(),(),(),()),ls,ks,()))=some (((),(),()),((nm,v,n,(),()),((),(),(),(),()),ls,ks,())):=by
 have hF:=zO
 have h:=yi (f:=B38_0) (λ(_:Unit) i=>(((),(),((ls.length:Nat):Int),(i:Int),()),((nm,v,n,(),()),((),(),(),(),()),ls,ks,()))) ls (λ_ _=>.inl ())
  (λ_=>(((),(),()),((nm,v,n,(),()),((),(),(),(),()),ls,ks,()))) (b:=()) (λb i a hi ha=>?_) (λb=>?_) (by omega)
 ·rw [foldS_const] at h
  exact h
 ·have hm:a∈ls:=by
   rw [<- ha (0,0,[],()),xo,List.getElem?_eq_getElem hi]
   exact List.getElem_mem hi
  simp only [B38_0,ym,yY,hi,zV,Bool.and_true,zH,zE,zu,ha,F54_eq _ (hb a hm),yL (show i<9223372036854775807 by omega)]
  rw [set_same ls i (a.1,a.2.1,a.2.2.1,()) (λd=>by rw [ha])]
 ·simp only [B38_0,Int.lt_irrefl,yu,zK]
theorem F38_eq (b:Box) (hl:b.2.2.2.1.length<=32) (hb:∀ l∈b.2.2.2.1,l.2.2.1.length<=600):F38 ((b,()),())=some ((b.1,b.2.1,b.2.2.1,b.2.2.2.1,()),()):=by
 obtain ⟨nm,v,n,ls,u⟩:=b
 cases u
 simp only [F38,F53_eq ls hl,zE,L38_eq nm v n ls [] hl hb]
abbrev P2i:Type:=(Int×Int×Unit)×Unit
def heldS (b:Bx) (c:Int×Int):(Int×Int)⊕P2i:=.inl (zZ (c.1+(b.2.2.2.1.length:Int)),zZ (c.2+size b.2.2.2.1))
def held (ls:List Bx):P2i:=zd heldS (λc=>((c.1,c.2,()),())) (0,0) ls
def wth (ls:List Bx):Bool:=decide ((held ls).1.1<=40)&&decide ((held ls).1.2.1<=1200)
theorem F150_eq (u:Usr) (hl:u.2.2.1.length<=32) (hb:∀ b∈u.2.2.1,b.2.2.2.1.length<=32):F150 ((u,()),())=some (wth u.2.2.1,()):=by
 have hF:=zO
 obtain ⟨un,uv,ls,⟨⟩⟩:=u
 change ls.length<=32 at hl
 change ∀ b∈ls,b.2.2.2.1.length<=32 at hb
 have h:L150_0 (((0:Int),(0:Int),ls,((ls.length:Nat):Int),(0:Int),()),())=some (held ls):=by
  unfold L150_0 held
  refine zq (b:=((0,0):Int×Int)) (f:=B150_0) (λ(c:Int×Int) i=>((c.1,c.2,ls,((ls.length:Nat):Int),(i:Int),()),())) ls heldS _ (λ_ _=>True) (λc i a _ hi ha=>?_) (λc _=>?_) (by omega) trivial
  ·refine .inl ⟨_,rfl,trivial,?_⟩
   have hm:a∈ls:=by
    have:=ha a
    rw [xo,List.getElem?_eq_getElem hi] at this
    rw [<- this]
    exact List.getElem_mem hi
   have hs:=F96_eq (a.1,a.2.1,a.2.2.1,a.2.2.2.1,()) (Nat.le_trans (hb a hm) (by decide))
   have hw:=yL (show i<9223372036854775807 by omega)
   simp only [B150_0,ym,yY,hi,zV,Bool.and_true,zH,zE,zu,ha,hs]
   rw [hw]
  ·simp only [B150_0,Int.lt_irrefl,yu,zK]
 simp only [F150,h,zE,wth]
abbrev Dd:Type:=Int×Tx×Tx×Tx×Int×Int×UInt8×Int×Int×List UInt8×Unit
def did (b:Box) (d:Dd):Box×Int×Int :=
 if d.1=4 then ((add b d.2.2.2.2.2.2.1 d.2.2.2.2.2.2.2.2.2.1).1,(add b d.2.2.2.2.2.2.1 d.2.2.2.2.2.2.2.2.2.1).2.1,(add b d.2.2.2.2.2.2.1 d.2.2.2.2.2.2.2.2.2.1).2.2.1)
 else if d.1=5 then ((flag b d.2.2.2.2.1 d.2.2.2.2.2.1 d.2.2.2.2.2.2.1).1,0,(flag b d.2.2.2.2.1 d.2.2.2.2.2.1 d.2.2.2.2.2.2.1).2.1)
 else if d.1=6 then ((cut b d.2.2.2.2.1).1,0,(cut b d.2.2.2.2.1).2.1)
 else (b,0,0)
def yI (b:Bx):Box:=(b.1,b.2.1,b.2.2.1,b.2.2.2.1,())
def wa (b:Box):Bx:=(b.1,(b.2.1,(b.2.2.1,(b.2.2.2.1,()))))
theorem did_len (b:Box) (d:Dd) (h:b.2.2.2.1.length<=32):(did b d).1.2.2.2.1.length<=32:=by
 unfold did
 split
 ·exact add_len _ _ _
 ·split
  ·exact flag_len _ _ _ _
  ·split
   ·exact cut_len _ _
   ·exact h
theorem F37_eq (l:List Bx) (h:l.length<=32):F37 ((l,()),())=some ((),(l,())):=by
 have hb:zC (([]:List Bx).length+l.length) 56=true:=zU (by simp only [List.length_nil];omega)
 cases l with
 | nil=>simp only [F37,List.isEmpty_nil,zH,hb,List.append_nil,zS]
 | cons a t=>simp only [F37,List.isEmpty_cons,zK,hb,zH,List.nil_append]
def boxd (u:Usr) (lo:Nat) (d:Dd):Usr×Int×Int×Unit :=
 if (did (yI (u.2.2.1.getD lo yH)) d).2.2≠0 then (u,0,(did (yI (u.2.2.1.getD lo yH)) d).2.2,())
 else if wth (u.2.2.1.set lo (wa (did (yI (u.2.2.1.getD lo yH)) d).1))=true then ((u.1,u.2.1,u.2.2.1.set lo (wa (did (yI (u.2.2.1.getD lo yH)) d).1),()),(did (yI (u.2.2.1.getD lo yH)) d).2.1,0,())
 else ((u.1,u.2.1,u.2.2.1.set lo (wa (did (yI (u.2.2.1.getD lo yH)) d).1),()),0,8,())
theorem F122_eq (u:Usr) (d:Dd) (hl:u.2.2.1.length<=32) (hb:∀ b∈u.2.2.1,b.2.2.2.1.length<=32) (hr:u.2.2.1.Pairwise (λa b=>a.1<b.1)) :
  (yp u.2.2.1 d.2.2.1=false/\F122 ((u,d,()),())=some ((u,0,9,()),())) \/
  ∃ lo:Nat,lo<u.2.2.1.length/\(u.2.2.1.getD lo yH).1=d.2.2.1/\F122 ((u,d,()),())=some (boxd u lo d,()):=by
 obtain ⟨un,uv,ls,⟨⟩⟩:=u
 obtain ⟨lo,h1,_,_,_,h5,_⟩:=F140_eq (un,uv,ls,()) d.2.2.1 hl hr
 obtain ⟨dd,du,db,dt,uid,how,fl,ds,de,by',⟨⟩⟩:=d
 change ls.length<=32 at hl
 change ∀ b∈ls,b.2.2.2.1.length<=32 at hb
 simp only at h1 h5
 cases hh:yp ls db with
 | false =>
  refine .inl ⟨rfl,?_⟩
  simp only [F122,h1,hh,zE,yx,zH]
 | true =>
  obtain ⟨h6,h7⟩:=h5 hh
  refine .inr ⟨lo,h6,h7,?_⟩
  have hm:ls.getD lo yH∈ls:=by
   rw [xo,List.getElem?_eq_getElem h6]
   exact List.getElem_mem h6
  have hd:=did_len (yI (ls.getD lo yH)) (dd,du,db,dt,uid,how,fl,ds,de,by',()) (hb _ hm)
  have key:∀ B:Bx,B.2.2.2.1.length<=32->F150 (((un,uv,ls.set lo B,()),()),())=some (wth (ls.set lo B),()):=λB hB =>
   F150_eq (un,uv,ls.set lo B,()) (by simpa using hl) (λb hbm=>by
    rcases List.mem_or_eq_of_mem_set hbm with h | rfl
    ·exact hb b h
    ·exact hB)
  have h40:=F37_eq ls hl
  unfold boxd
  unfold did at hd ⊢
  simp only [F122,h1,hh,zE,yA,zK,yY,ym,h6,zV,Bool.and_true,zH,zu]
  have fin:∀ (B:Box) (n e:Int),B.2.2.2.1.length<=32 ->
    (cond (!(decide (e=(0:Int)))) (some (((un,uv,ls,()),(0:Int),e,()),())) (Option.bind (F37 ((ls,()),())) λr11=>(Option.bind (cond ((decide ((0:Int)<=(lo:Int)))&&(decide ((lo:Int)<(((List.length r11.2.1):Nat):Int)))) (some (((),(),n,()),((un,uv,(),()),((),(),(),()),(List.set r11.2.1 (Int.toNat (lo:Int)) (wa B)),([]:List Bx),()))) none) λp12=>(Option.bind (Option.bind (F150 (((p12.2.1.1,p12.2.1.2.1,p12.2.2.2.1,()),()),())) λr13=>(some (((),(),p12.1.2.2.1,(!r13.1),()),((p12.2.1.1,p12.2.1.2.1,(),()),((),(),(),()),p12.2.2.2.1,p12.2.2.2.2.1,())))) λp14=>(cond p14.1.2.2.2.1 (Option.bind (some (((),(),(),()),((p14.2.1.1,p14.2.1.2.1,(),()),p14.2.2.2.1,()))) λp15=>(some (((p15.2.1.1,p15.2.1.2.1,p15.2.2.1,()),(0:Int),(8:Int),()),()))) (some (((p14.2.1.1,p14.2.1.2.1,p14.2.2.2.1,()),p14.1.2.2.1,(0:Int),()),())))))))
    = some ((if e≠0 then ((un,uv,ls,()),0,e,()) else if wth (ls.set lo (wa B))=true then ((un,uv,ls.set lo (wa B),()),n,0,()) else ((un,uv,ls.set lo (wa B),()),0,8,()):Usr×Int×Int×Unit),()):=λB n e hB=>by
   by_cases he:e=0
   ·simp only [he,zV,yA,zK,h40,zE,yY,ym,h6,Bool.and_true,zH,zu,key (wa B) hB,ne_eq,not_true_eq_false,↓reduceIte]
    cases wth (ls.set lo (wa B)) <;> simp
   ·simp only [he,yu,yx,zH,ne_eq,not_false_eq_true,↓reduceIte]
  by_cases c4:dd=4
  ·simp only [c4,↓reduceIte,zV,zH,F147_eq,zE] at hd ⊢
   exact fin _ _ _ hd
  ·by_cases c5:dd=5
   ·simp only [c5,show ¬ (5:Int)=4 from by decide,yu,zK,↓reduceIte,zV,zH,F148_eq,zE] at hd ⊢
    exact fin _ _ _ hd
   ·by_cases c6:dd=6
    ·simp only [c6,show ¬ (6:Int)=4 from by decide,show ¬ (6:Int)=5 from by decide,yu,zK,↓reduceIte,zV,zH,F149_eq,zE] at hd ⊢
     exact fin _ _ _ hd
    ·simp only [c4,c5,c6,yu,zK,↓reduceIte,zE] at hd ⊢
     exact fin (yI (ls.getD lo yH)) 0 0 hd
def inbx:Tx:=[73,78,66,79,88]
def xy (u:Usr) (lo:Nat) (d:Dd):Usr×Int×Int×Unit :=
 if d.1=2 then
  if yp u.2.2.1 d.2.2.1=true then (u,0,10,())
  else if u.2.2.1.length=6\/u.2.1=4294967295 then (u,0,8,())
  else ((u.1,zZ (u.2.1+1),u6 u.2.2.1 (lo:Int) [(d.2.2.1,(zZ (u.2.1+1),(1,([],()))))],()),zZ (u.2.1+1),0,())
 else if yp u.2.2.1 d.2.2.1=false then (u,0,9,())
 else if d.2.2.1=inbx then (u,0,13,())
 else ((u.1,u.2.1,delL u.2.2.1 (lo:Int) ((lo+1:Nat):Int),()),0,0,())
theorem F120_eq (u:Usr) (d:Dd) (hl:u.2.2.1.length<=32) (hr:u.2.2.1.Pairwise (λa b=>a.1<b.1)) :
  ∃ lo:Nat,F120 ((u,d,()),())=some (xy u lo d,())/\lo<=u.2.2.1.length/\(∀ k,k<lo->(u.2.2.1.getD k yH).1<d.2.2.1)/\(∀ k,lo<=k->k<u.2.2.1.length->¬ (u.2.2.1.getD k yH).1<d.2.2.1) /\
   (yp u.2.2.1 d.2.2.1=true->lo<u.2.2.1.length/\(u.2.2.1.getD lo yH).1=d.2.2.1)/\(yp u.2.2.1 d.2.2.1=false->∀ k,k<u.2.2.1.length->(u.2.2.1.getD k yH).1≠d.2.2.1):=by
 obtain ⟨un,uv,ls,⟨⟩⟩:=u
 obtain ⟨lo,h1,h2,h3,h4,h5,h6⟩:=F140_eq (un,uv,ls,()) d.2.2.1 hl hr
 refine ⟨lo,?_,h2,h3,h4,h5,h6⟩
 clear h3 h4 h6
 obtain ⟨dd,du,db,dt,uid,how,fl,ds,de,by',⟨⟩⟩:=d
 change ls.length<=32 at hl
 simp only at h1 h2 h5
 have h40:=F37_eq ls hl
 have hi:∀ x:Bx,insOK ls (lo:Int) [x]=true:=λx=>by
  unfold insOK
  simp only [vx,yo,xh]
  omega
 unfold xy
 by_cases c2:dd=2
 ·cases hh:yp ls db with
  | true=>simp only [F120,h1,hh,c2,zV,Bool.true_and,zH,zE,↓reduceIte]
  | false =>
   by_cases c6:ls.length=6\/uv=4294967295
   ·have e:(decide (((ls.length:Nat):Int)=(6:Int))||decide (uv=(4294967295:Int)))=true:=by
     rw [Bool.or_eq_true,xh,xh];omega
    simp only [F120,h1,hh,c2,e,c6,zV,Bool.true_and,zH,zK,zE,↓reduceIte,Bool.false_eq_true]
   ·have e:(decide (((ls.length:Nat):Int)=(6:Int))||decide (uv=(4294967295:Int)))=false:=by
     rw [Bool.or_eq_false_iff,decide_eq_false_iff_not,decide_eq_false_iff_not];omega
    simp only [F120,h1,hh,c2,e,c6,zV,Bool.true_and,Bool.and_false,zH,zK,zE,↓reduceIte,Bool.false_eq_true,h40,hi,zS]
 ·cases hh:yp ls db with
  | false=>simp only [F120,h1,hh,c2,yu,Bool.false_and,zH,zK,zE,↓reduceIte,yx]
  | true =>
   obtain ⟨h7,_⟩:=h5 hh
   have hw:=yL (show lo<9223372036854775807 by omega)
   have hd:delOK ls (lo:Int) ((lo+1:Nat):Int)=true:=by
    unfold delOK
    simp only [yo,xh]
    omega
   by_cases ci:db=inbx
   ·subst ci
    have ci':decide (inbx=([73,78,66,79,88]:List UInt8))=true:=rfl
    simp only [F120,h1,hh,c2,ci',yu,Bool.false_and,zH,zK,zE,↓reduceIte,yA,Bool.true_eq_false]
   ·have ci':¬ db=[73,78,66,79,88]:=ci
    simp only [F120,h1,hh,c2,ci,ci',yu,Bool.false_and,zH,zK,zE,↓reduceIte,yA,h40,hw,hd,Bool.true_eq_false]
abbrev Mp:Type:=List (Tx×(Tx×(Int×(List Bx×Unit))))
def come (m:Mp) (u:Usr):Int×Mp :=
 if (zG .str m u.1).isSome=true then (10,m) else if m.length=16 then (8,m) else (0,za .str m u.1 (u.1,(u.2.1,(u.2.2.1,()))))
theorem F118_eq (m:Mp) (u:Usr):F118 ((true,u,()),(((),()),m,()))=some ((come m u).1,(((),()),(come m u).2,())):=by
 obtain ⟨un,uv,ls,⟨⟩⟩:=u
 unfold come
 simp only [F118,zH,zS,zE]
 cases hg:(zG .str m un).isSome with
 | true=>simp only [zH,↓reduceIte]
 | false =>
  by_cases h:m.length=16
  ·have h':decide (((m.length:Nat):Int)=16)=true:=zX (by omega)
   rw [if_neg (by simp),if_pos h]
   simp only [zK,h',zH]
  ·have h':decide (((m.length:Nat):Int)=16)=false:=z7 (by omega)
   rw [if_neg (by simp),if_neg h]
   simp only [zK,h']
structure Good (u:Usr):Prop where
 few:u.2.2.1.length<=6
 rise:u.2.2.1.Pairwise (λa b=>a.1<b.1)
 each:∀ b∈u.2.2.1,Right (yI b)
 valid:1<=u.2.1/\u.2.1<=4294967295
 below:∀ b∈u.2.2.1,b.2.1<=u.2.1
def usr (x:Tx×(Int×(List Bx×Unit))):Usr:=(x.1,x.2.1,x.2.2.1,())
theorem Good.len {u:Usr} (g:Good u):∀ b∈u.2.2.1,b.2.2.2.1.length<=32:=λb hb=>(g.each b hb).few
theorem v6 {ls:List Bx} {lo:Nat} (h:lo<ls.length):ls.getD lo yH∈ls:=by
 rw [xo,List.getElem?_eq_getElem h]
 exact List.getElem_mem h
def kept (m:Mp) (user:Tx) (r:Usr×Int×Int×Unit):(Int×Int×Unit)×Mp :=
 ((r.2.1,r.2.2.1,()),if r.2.2.1=0 then za .str m user (r.1.1,(r.1.2.1,(r.1.2.2.1,()))) else m)
def tS (user:Tx):Usr:=(user,1,[(inbx,(1,(1,([],()))))],())
theorem F92_bad (m:Mp) (d:Dd) (e:Int) (hc:xl ((d,()),())=some (e,())) (he:e≠0):F92 ((true,d,()),(((),()),m,()))=some ((0,e,()),(((),()),m,())):=by
 obtain ⟨dd,du,db,dt,uid,how,fl,ds,de,by',⟨⟩⟩:=d
 simp only [F92,hc,zE,z7 he,yx,zH]
theorem F92_open (m:Mp) (d:Dd) (hc:xl ((d,()),())=some (0,())) (h1:d.1=1) :
  F92 ((true,d,()),(((),()),m,()))=some ((1,(come m (tS d.2.1)).1,()),(((),()),(come m (tS d.2.1)).2,())):=by
 obtain ⟨dd,du,db,dt,uid,how,fl,ds,de,by',⟨⟩⟩:=d
 simp only at h1
 subst h1
 have h22:=F118_eq m (tS du)
 unfold tS inbx at h22
 simp only [F92,hc,zE,zV,yA,zK,zH,zS,h22,tS,inbx]
theorem F92_gone (m:Mp) (d:Dd) (hc:xl ((d,()),())=some (0,())) (h1:d.1≠1) (h8:d.1≠8) (hm:zG .str m d.2.1=none) :
  F92 ((true,d,()),(((),()),m,()))=some ((0,9,()),(((),()),m,())):=by
 obtain ⟨dd,du,db,dt,uid,how,fl,ds,de,by',⟨⟩⟩:=d
 simp only at h1 h8 hm
 simp only [F92,hc,zE,zV,yA,zK,zH,zS,hm,z7 h1,z7 h8,Option.isSome_none,yx]
theorem F92_shape (m:Mp) (d:Dd) (u:Tx×(Int×(List Bx×Unit))) (lo:Nat) (hc:xl ((d,()),())=some (0,())) (h2:d.1=2\/d.1=3) (hm:zG .str m d.2.1=some u)
  (h24:F120 ((usr u,d,()),())=some (xy (usr u) lo d,())) :
  F92 ((true,d,()),(((),()),m,()))=some ((kept m d.2.1 (xy (usr u) lo d)).1,(((),()),(kept m d.2.1 (xy (usr u) lo d)).2,())):=by
 obtain ⟨dd,du,db,dt,uid,how,fl,ds,de,by',⟨⟩⟩:=d
 obtain ⟨un,uv,ls,⟨⟩⟩:=u
 simp only at h2 hm
 generalize xy (usr (un,uv,ls,())) lo (dd,du,db,dt,uid,how,fl,ds,de,by',())=R at h24 ⊢
 obtain ⟨⟨ru,rv,rl,⟨⟩⟩,rn,re,⟨⟩⟩:=R
 unfold usr at h24
 simp only at h24
 have h1:dd≠1:=by omega
 have h8:dd≠8:=by omega
 by_cases h22:dd=2
 ·subst h22
  simp only [F92,hc,zE,zV,yA,zK,zH,zS,hm,z7 h1,z7 h8,Option.isSome_some,Option.getD_some,h24,kept]
  by_cases hr:re=0
  ·simp [hr]
  ·simp [hr]
 ·have h33:dd=3:=by omega
  subst h33
  simp only [F92,hc,zE,zV,yA,zK,zH,zS,hm,z7 h1,z7 h8,z7 h22,Option.isSome_some,Option.getD_some,h24,kept]
  by_cases hr:re=0
  ·simp [hr]
  ·simp [hr]
theorem F92_box (m:Mp) (d:Dd) (u:Tx×(Int×(List Bx×Unit))) (R:Usr×Int×Int×Unit) (hc:xl ((d,()),())=some (0,())) (h1:d.1≠1) (h2:d.1≠2) (h3:d.1≠3) (h7:d.1≠7) (h8:d.1≠8) (h9:d.1≠9) (hm:zG .str m d.2.1=some u)
  (h26:F122 ((usr u,d,()),())=some (R,())) :
  F92 ((true,d,()),(((),()),m,()))=some ((kept m d.2.1 R).1,(((),()),(kept m d.2.1 R).2,())):=by
 obtain ⟨dd,du,db,dt,uid,how,fl,ds,de,by',⟨⟩⟩:=d
 obtain ⟨un,uv,ls,⟨⟩⟩:=u
 obtain ⟨⟨ru,rv,rl,⟨⟩⟩,rn,re,⟨⟩⟩:=R
 simp only at h1 h2 h3 h7 h8 h9 hm
 unfold usr at h26
 simp only at h26
 simp only [F92,hc,zE,zV,yA,zK,zH,zS,hm,z7 h1,z7 h2,z7 h3,z7 h7,z7 h8,z7 h9,Option.isSome_some,Option.getD_some,h26,kept]
 by_cases hr:re=0
 ·simp [hr]
 ·simp [hr]

structure Kept (b:Box) (d:Dd) (r:Box×Int×Int):Prop where
 right:Right r.1
 name:r.1.1=b.1
 valid:r.1.2.1=b.2.1
 next:b.2.2.1<=r.1.2.2.1
 put:d.1=4->r.2.1=b.2.2.1/\r.1.2.2.1=b.2.2.1+1/\r.1.2.2.2.1=b.2.2.2.1++[(b.2.2.1,d.2.2.2.2.2.2.1,d.2.2.2.2.2.2.2.2.2.1,())]
 else':d.1≠4->r.2.1=0
theorem did_kept {b:Box} (R:Right b) (d:Dd) (h:(did b d).2.2=0):Kept b d (did b d):=by
 obtain ⟨dd,du,db,dt,uid,how,fl,ds,de,by',⟨⟩⟩:=d
 unfold did at h ⊢
 simp only at h ⊢
 by_cases c4:dd=4
 ·subst c4
  simp only [↓reduceIte] at h ⊢
  by_cases hf:fl.toNat<32
  ·by_cases hp:by'.length<=600
   ·rw [add_good R hf hp] at h ⊢
    by_cases hc:b.2.2.2.1.length=32\/b.2.2.1=4294967295
    ·rw [if_pos hc] at h
     exact absurd h (by decide)
    ·rw [if_neg hc]
     exact ⟨added_right R hf hp hc,rfl,rfl,by simp only [added];omega,λ_=>⟨rfl,rfl,rfl⟩,λh=>absurd rfl h⟩
   ·unfold add at h
    rw [if_neg (not_not_intro (check_zero.mpr R)),if_neg (by omega),if_pos (by omega)] at h
    exact absurd h (by decide)
  ·unfold add at h
   rw [if_neg (not_not_intro (check_zero.mpr R)),if_pos (by omega)] at h
   exact absurd h (by decide)
 ·rw [if_neg c4] at h ⊢
  by_cases c5:dd=5
  ·subst c5
   simp only [↓reduceIte] at h ⊢
   obtain ⟨_,h1,h2,h3,h4,h5⟩:=flag_good h
   rw [h5]
   exact ⟨laid_right R h1 h2 h3,rfl,rfl,Int.le_refl _,λh=>absurd h c4,λ_=>rfl⟩
  ·rw [if_neg c5] at h ⊢
   by_cases c6:dd=6
   ·subst c6
    simp only [↓reduceIte] at h ⊢
    rw [cut_good R] at h ⊢
    by_cases hh:has b.2.2.2.1 uid=true
    ·rw [if_pos hh] at h ⊢
     exact ⟨cutd_right R uid,rfl,rfl,Int.le_refl _,λh=>absurd h c4,λ_=>rfl⟩
    ·rw [if_neg hh] at h
     exact absurd h (by decide)
   ·rw [if_neg c6]
    exact ⟨R,rfl,rfl,Int.le_refl _,λh=>absurd h c4,λ_=>rfl⟩
theorem new_good (user:Tx):Good (tS user) where
 few:=by simp [tS]
 rise:=by simp [tS]
 each:=λb hb=>by
  simp only [tS,List.mem_singleton] at hb
  subst hb
  exact ⟨by simp [yI],by simp [yI],by simp [yI],by simp [yI],by simp [yI]⟩
 valid:=by simp [tS]
 below:=λb hb=>by
  simp only [tS,List.mem_singleton] at hb
  subst hb
  simp [tS]
theorem names_rise {ls:List Bx}:ls.Pairwise (λa b=>a.1<b.1)<->(ls.map (λb=>b.1)).Pairwise (λa b=>a<b):=by
 rw [List.pairwise_map]
theorem set_rise {ls:List Bx} (hr:ls.Pairwise (λa b=>a.1<b.1)) {lo:Nat} {B:Bx} (h:B.1=(ls.getD lo yH).1) (hl:lo<ls.length):(ls.set lo B).Pairwise (λa b=>a.1<b.1):=by
 rw [names_rise] at hr ⊢
 rw [List.map_set,set_same]
 ·exact hr
 ·intro d
  rw [xo,List.getElem?_map,List.getElem?_eq_getElem hl,h,xo,List.getElem?_eq_getElem hl]
  rfl
theorem ins_rise {ls:List Bx} (hr:ls.Pairwise (λa b=>a.1<b.1)) {lo:Nat} {x:Bx} (h1:∀ k,k<lo->(ls.getD k yH).1<x.1) (h2:∀ k,lo<=k->k<ls.length->x.1<(ls.getD k yH).1) :
  (ls.take lo++[x]++ls.drop lo).Pairwise (λa b=>a.1<b.1):=by
 have k1:∀ a∈ls.take lo,a.1<x.1:=λa ha=>by
  obtain ⟨i,hi,rfl⟩:=List.mem_take_iff_getElem.1 ha
  have:=h1 i (by omega)
  rw [xo,List.getElem?_eq_getElem (by omega)] at this
  exact this
 have k2:∀ b∈ls.drop lo,x.1<b.1:=λb hb=>by
  obtain ⟨i,hi,rfl⟩:=List.mem_drop_iff_getElem.1 hb
  have:=h2 (lo+i) (by omega) (by omega)
  rw [xo,List.getElem?_eq_getElem (by omega)] at this
  exact this
 rw [lAs,List.pairwise_append]
 refine ⟨hr.sublist (List.take_sublist _ _),?_,λa ha b hb=>?_⟩
 ·rw [List.singleton_append,List.pairwise_cons]
  exact ⟨k2,hr.sublist (List.drop_sublist _ _)⟩
 ·rw [List.singleton_append] at hb
  rcases List.mem_cons.1 hb with rfl | hb
  ·exact k1 a ha
  ·exact List.lt_trans (k1 a ha) (k2 b hb)
theorem del_sub (ls:List Bx) (lo:Nat):(ls.take lo++ls.drop (lo+1)).Sublist ls:=by
 have h:(ls.take lo++ls.drop (lo+1)).Sublist (ls.take lo++ls.drop lo):=by
  refine List.Sublist.append_left ?_ _
  exact List.drop_sublist_drop_left _ (Nat.le_succ lo)
 rw [List.take_append_drop] at h
 exact h
theorem boxd_good {u:Usr} (G:Good u) {lo:Nat} (hl:lo<u.2.2.1.length) (d:Dd) (h:(boxd u lo d).2.2.1=0) :
    Good (boxd u lo d).1/\Kept (yI (u.2.2.1.getD lo yH)) d (did (yI (u.2.2.1.getD lo yH)) d) /\
      boxd u lo d=((u.1,u.2.1,u.2.2.1.set lo (wa (did (yI (u.2.2.1.getD lo yH)) d).1),()),(did (yI (u.2.2.1.getD lo yH)) d).2.1,0,()):=by
  have hm:=v6 hl
  have R:=G.each _ hm
  have e:boxd u lo d=((u.1,u.2.1,u.2.2.1.set lo (wa (did (yI (u.2.2.1.getD lo yH)) d).1),()),(did (yI (u.2.2.1.getD lo yH)) d).2.1,0,())/\(did (yI (u.2.2.1.getD lo yH)) d).2.2=0:=by
    unfold boxd at h ⊢
    by_cases h0:(did (yI (u.2.2.1.getD lo yH)) d).2.2=0
    . rw [if_neg (not_not_intro h0)] at h ⊢
      by_cases hw:wth (u.2.2.1.set lo (wa (did (yI (u.2.2.1.getD lo yH)) d).1))=true
      . rw [if_pos hw];exact ⟨rfl,h0⟩
      . rw [if_neg hw] at h;exact absurd h (by simp)
    . rw [if_pos h0] at h
      exact absurd h h0
  have K:=did_kept R d e.2
  refine ⟨?_,K,e.1⟩
  rw [e.1]
  generalize did (yI (u.2.2.1.getD lo yH)) d=r at K
  exact {
    few:=by simp only [List.length_set];exact G.few
    rise:=set_rise G.rise (by simp only [wa];rw [K.name];rfl) hl
    each:=λb hb=>by
      rcases List.mem_or_eq_of_mem_set hb with h | rfl
      . exact G.each b h
      . exact K.right
    valid:=G.valid
    below:=λb hb=>by
      rcases List.mem_or_eq_of_mem_set hb with h | rfl
      . exact G.below b h
      . have:=G.below _ hm
        simp only [wa]
        rw [K.valid]
        exact this }
theorem make_good {u:Usr} (G:Good u) {lo:Nat} (d:Dd) (h2:d.1=2) (hlo:lo<=u.2.2.1.length) (h3:∀ k,k<lo->(u.2.2.1.getD k yH).1<d.2.2.1) (h4:∀ k,lo<=k->k<u.2.2.1.length->¬ (u.2.2.1.getD k yH).1<d.2.2.1)
    (h6:yp u.2.2.1 d.2.2.1=false->∀ k,k<u.2.2.1.length->(u.2.2.1.getD k yH).1≠d.2.2.1) (h:(xy u lo d).2.2.1=0) :
    Good (xy u lo d).1/\yp u.2.2.1 d.2.2.1=false/\xy u lo d=((u.1,u.2.1+1,u.2.2.1.take lo++[((d.2.2.1,(u.2.1+1,(1,([],())))):Bx)]++u.2.2.1.drop lo,()),u.2.1+1,0,()):=by
  have hv:=G.valid
  have hw:zZ (u.2.1+1)=u.2.1+1:=zQ (by omega) (by omega)
  have e:xy u lo d=((u.1,u.2.1+1,u.2.2.1.take lo++[((d.2.2.1,(u.2.1+1,(1,([],())))):Bx)]++u.2.2.1.drop lo,()),u.2.1+1,0,())/\yp u.2.2.1 d.2.2.1=false/\u.2.2.1.length≠6/\u.2.1≠4294967295:=by
    unfold xy at h ⊢
    rw [if_pos h2] at h ⊢
    cases hh:yp u.2.2.1 d.2.2.1 with
    | true=>rw [hh,if_pos rfl] at h;exact absurd h (by simp)
    | false =>
      rw [hh,if_neg (by simp)] at h
      rw [if_neg (by simp)]
      by_cases hc:u.2.2.1.length=6\/u.2.1=4294967295
      . rw [if_pos hc] at h;exact absurd h (by simp)
      . rw [if_neg hc,hw]
        rw [not_or] at hc
        exact ⟨by simp only [u6,zu],rfl,hc.1,hc.2⟩
  refine ⟨?_,e.2.1,e.1⟩
  rw [e.1]
  have hno:=h6 e.2.1
  have hf:=G.few
  have hmem:∀ b∈u.2.2.1.take lo++[((d.2.2.1,(u.2.1+1,(1,([],())))):Bx)]++u.2.2.1.drop lo,b∈u.2.2.1\/b=(d.2.2.1,(u.2.1+1,(1,([],())))):=λb hb=>by
    rcases List.mem_append.1 hb with hb | hb
    . rcases List.mem_append.1 hb with hb | hb
      . exact .inl (List.mem_of_mem_take hb)
      . exact .inr (List.mem_singleton.1 hb)
    . exact .inl (List.mem_of_mem_drop hb)
  exact {
    few:=by
      simp only [yS,yy,u0,vx]
      have:=e.2.2.1
      omega
    rise:=ins_rise G.rise h3 λk hk hk2=>wH (h4 k hk hk2) (hno k hk2)
    each:=λb hb=>by
      rcases hmem b hb with h | rfl
      . exact G.each b h
      . have:=e.2.2.2
        exact ⟨by simp only [yI];omega,by simp [yI],by simp [yI],by simp [yI],by simp [yI]⟩
    valid:=by have:=e.2.2.2;simp only;omega
    below:=λb hb=>by
      rcases hmem b hb with h | rfl
      . have:=G.below b h;simp only;omega
      . exact Int.le_refl _ }
theorem drop_good {u:Usr} (G:Good u) {lo:Nat} (d:Dd) (h2:d.1≠2) (h:(xy u lo d).2.2.1=0) :
    Good (xy u lo d).1/\xy u lo d=((u.1,u.2.1,u.2.2.1.take lo++u.2.2.1.drop (lo+1),()),0,0,()):=by
  have e:xy u lo d=((u.1,u.2.1,u.2.2.1.take lo++u.2.2.1.drop (lo+1),()),0,0,()):=by
    unfold xy at h ⊢
    rw [if_neg h2] at h ⊢
    cases hh:yp u.2.2.1 d.2.2.1 with
    | false=>rw [hh,if_pos rfl] at h;exact absurd h (by simp)
    | true =>
      rw [hh,if_neg (by simp)] at h
      rw [if_neg (by simp)]
      by_cases hc:d.2.2.1=inbx
      . rw [if_pos hc] at h;exact absurd h (by simp)
      . rw [if_neg hc]
        simp only [delL,zu]
  refine ⟨?_,e⟩
  rw [e]
  have hs:=del_sub u.2.2.1 lo
  exact {
    few:=Nat.le_trans hs.length_le G.few
    rise:=G.rise.sublist hs
    each:=λb hb=>G.each b (hs.mem hb)
    valid:=G.valid
    below:=λb hb=>G.below b (hs.mem hb) }
abbrev R50:Type:=(Unit×Unit)⊕((Int×Unit)×Unit)
def stp50 (x:Int) (a:Int) (b:Nat):Nat⊕R50:=if x=a then .inr (.inr (((b:Int),()),())) else .inl (b+1)
theorem fold50 (x:Int):∀ (l:List Int) (b:Nat),(x∉l/\zd (stp50 x) (λ_=>(.inl ((),()):R50)) b l=.inl ((),()))\/(x∈l/\∃ n:Nat,zd (stp50 x) (λ_=>(.inl ((),()):R50)) b l=.inr (((n:Int),()),()))
 | [],b=>.inl ⟨by simp,rfl⟩
 | a::t,b=>by
  simp only [zd,stp50]
  by_cases h:x=a
  ·exact .inr ⟨by simp [h],b,by simp [h]⟩
  ·rw [if_neg h]
   rcases fold50 x t (b+1) with ⟨h1,h2⟩ | ⟨h1,n,h2⟩
   ·exact .inl ⟨by simp [h,h1],h2⟩
   ·exact .inr ⟨by simp [h1],n,h2⟩
theorem F133_eq (l:List Int) (x:Int) (hl:l.length<=32):F133 ((l,x,()),())=some (decide (x∈l),()):=by
 have hF:=zO
 have h0:L159_0 ((l,x,((l.length:Nat):Int),(0:Int),()),())=some (zd (stp50 x) (λ_=>(.inl ((),()):R50)) 0 l):=by
  unfold L159_0
  refine zq (b:=0) (f:=B159_0) (λ(_:Nat) i=>((l,x,((l.length:Nat):Int),(i:Int),()),())) l (stp50 x) _ (λb i=>b=i)
   (λb i a hI hi ha=>?_) (λb _=>?_) (by omega) rfl
  ·subst hI
   have hw:=yL (show b<9223372036854775807 by omega)
   simp only [B159_0,ym,yY,hi,zV,Bool.and_true,zH,zu,ha,stp50]
   by_cases h:x=a
   ·exact .inr ⟨_,if_pos h,by simp [h]⟩
   ·refine .inl ⟨_,if_neg h,rfl,?_⟩
    simp only [h,yu,zK]
    rw [hw]
  ·simp only [B159_0,Int.lt_irrefl,yu,zK]
 rcases fold50 x l 0 with ⟨h1,h2⟩ | ⟨h1,n,h2⟩
 ·simp only [F133,F159,h0,h2,zE,h1,yu]
  rfl
 ·simp only [F133,F159,h0,h2,zE,h1,zV,yY]
theorem F132_eq (l:List Int) (d:Dd) (hl:l.length<=32):ui ((l,(),()),(d,()))=some (decide (d.1∈l),(d,())):=by
 obtain ⟨dd,du,db,dt,uid,how,fl,ds,de,by',⟨⟩⟩:=d
 simp only [ui,F133_eq l dd hl,zE]
end Go.Fl
namespace Go.Fl
open Go Go.Ev
set_option maxRecDepth 100000
section
def lowc (c:UInt8):UInt8:=if 65<=c.toNat/\c.toNat<=90 then c+32 else c
theorem th {α:Type}:∀ (a t:List α) (x y:α),(a++x::t).set a.length y=a++y::t
 | [],_,_,_=>rfl
 | b::a,t,x,y=>by
  simp only [List.cons_append,List.length_cons,List.set_cons_succ,th a t x y]
theorem drop_cons {α:Type} {s:List α} {i:Nat} {a:α} (hi:i<s.length) (ha:∀ d,s.getD i d=a):s.drop i=a::s.drop (i+1):=by
 rw [List.drop_eq_getElem_cons hi]
 have:=ha s[i]
 rw [xo,List.getElem?_eq_getElem hi] at this
 rw [show s[i]=a from this]
theorem foldS_push {α β τ:Type} (g:α->β) (fin:List β->τ):∀ (s:List α) (b:List β),zd (λa b=>(.inl (b++[g a]):List β⊕τ)) fin b s=fin (b++s.map g)
 | [],b=>by simp [zd]
 | a::t,b=>by
  simp only [zd]
  rw [foldS_push g fin t]
  simp
theorem F176_eq (s:List UInt8) (hs:s.length<=maxLen):F176 ((s,()),())=some (s.map lowc,()):=by
 have hF:maxLen<FUEL:=by unfold maxLen FUEL;omega
 have hm:maxLen=9223372036854775807:=rfl
 have h:=zq (f:=B176_0) (λ(b:List UInt8) i=>(((),(),((s.length:Nat):Int),(i:Int),()),(b++s.drop i,()))) s (λa b=>.inl (b++[lowc a])) (λb=>(((),()),(b,()))) (λb i=>b.length=i) (b:=[])
  (λb i a hI hi ha=>.inl ⟨_,rfl,by rw [yS,hI];rfl,by
   subst hI
   have hd:=drop_cons hi ha
   have hlt:b.length<(b++s.drop b.length).length:=by rw [hd];simp
   have hg:(b++s.drop b.length).getD b.length 0=a:=by
    rw [hd,xo,List.getElem?_append_right (Nat.le_refl _)]
    simp
   have hset:(b++s.drop b.length).set b.length (a+32)=b++[a+32]++s.drop (b.length+1):=by
    rw [hd,th];simp
   have hkeep:b++s.drop b.length=b++[a]++s.drop (b.length+1):=by
    rw [hd];simp
   simp only [B176_0,ym,yY,hi,hlt,zV,Bool.and_true,zH,zu,hg,hset,show UInt8.toNat 65=65 from rfl,show UInt8.toNat 90=90 from rfl]
   unfold lowc
   by_cases h1:65<=a.toNat
   ·by_cases h2:a.toNat<=90
    ·simp only [h1,h2,zV,yE,zH,zE,and_self,↓reduceIte,yL (show b.length<9223372036854775807 by omega)]
    ·simp only [h1,h2,zV,yu,Bool.and_false,zK,zE,and_false,↓reduceIte,<- hkeep,yL (show b.length<9223372036854775807 by omega)]
   ·simp only [h1,yu,Bool.false_and,zK,zE,false_and,↓reduceIte,<- hkeep,yL (show b.length<9223372036854775807 by omega)]⟩)
  (λb _=>by simp only [B176_0,Int.lt_irrefl,yu,zK,List.drop_length,List.append_nil]) (by omega) rfl
 rw [foldS_push] at h
 have h':L176_0 (((),(),((s.length:Nat):Int),(0:Int),()),(s,()))=some (((),()),(s.map lowc,())):=h
 simp only [F176,h',zE]
end
theorem F156_eq (a b:Tx) (ha:a.length<=maxLen) (hb:b.length<=maxLen):F156 ((a,b,()),())=some (decide (a.map lowc=b.map lowc),()):=by
 simp only [F156,F176_eq a ha,F176_eq b hb,zE]
def fld (s:Tx):Tx:=if s.map lowc=inbx.map lowc then inbx else s
theorem F124_eq (s:Tx) (hs:s.length<=maxLen):F124 ((s,()),())=some (fld s,()):=by
 have h:=F156_eq s inbx hs (by decide)
 unfold inbx at h
 unfold fld inbx
 simp only [F124,h,zE]
 by_cases hc:s.map lowc=List.map lowc [73,78,66,79,88]
 ·simp only [hc,zV,zH,↓reduceIte]
 ·simp only [hc,yu,zK,↓reduceIte]
theorem F134_some (a:Bool) (n x y:Int):∃ b,F134 ((a,n,x,y,()),())=some (b,()):=by
 cases a with
 | false=>exact ⟨decide (n=0),by simp only [F134,yx,zH]⟩
 | true=>exact ⟨decide (x<=n)&&decide (n<=y),by simp only [F134,yA,zK]⟩
end Go.Fl
namespace Go.Fl
open Go Go.Ev
set_option maxRecDepth 100000
section
def wid (s:List UInt8):Nat:=(Go.Lib.decodeGo ⟨s.toArray⟩).2
theorem wid_eq {s:List UInt8} (h:s≠[]):wid s=(Lib.decodeL s).2:=by
 unfold wid Lib.decodeGo
 have:¬ (⟨s.toArray⟩:ByteArray).size=0:=by
  show ¬ s.toArray.size=0
  simpa using h
 rw [if_neg this]
 rfl
theorem decodeN_4 (n b0 b1 b2 b3:Nat):(Lib.decodeN n b0 b1 b2 b3).2<=4:=by
 unfold Lib.decodeN
 repeat' split
 all_goals simp
theorem wid_pos {s:List UInt8} (h:s≠[]):1<=wid s/\wid s<=s.length/\wid s<=4:=by
 rw [wid_eq h]
 exact ⟨Lib.decodeL_width s,Lib.decodeL_le s h,by rw [Lib.decodeL_N];exact decodeN_4 _ _ _ _ _⟩
theorem dec_at {s:List UInt8} {i:Nat} (_h:i<s.length):Utf8.decode ⟨s.toArray⟩ i=Lib.decodeL (s.drop i):=by
 rw [<- Lib.decodeL_drop]
theorem wid_at {s:List UInt8} {i:Nat} (h:i<s.length):(Utf8.decode ⟨s.toArray⟩ i).2=wid (s.drop i):=by
 have hne:s.drop i≠[]:=by
  intro he
  have:=congrArg List.length he
  rw [u0,List.length_nil] at this
  omega
 rw [wid_eq hne,<- Lib.decodeL_drop]
end
theorem dec_pos (s:List UInt8) (i:Nat) (h:i<s.length):1<=(Utf8.decode ⟨s.toArray⟩ i).2:=by
 rw [wid_at h]
 exact (wid_pos (by rw [ne_eq,List.drop_eq_nil_iff];omega)).1
theorem L93_iter (s:List UInt8):∀ (k i:Nat),s.length-i<k->∃ r,iter uI k ((s,(),()),((s,i),()))=some r
 | 0,_,h=>absurd h (Nat.not_lt_zero _)
 | k+1,i,h=>by
  rw [iter]
  by_cases hi:i<s.length
  ·cases hb:uI ((s,(),()),((s,i),())) with
   | none =>
    exfalso
    simp only [uI,hi,zV,zH] at hb
    revert hb
    generalize (!_)=c
    cases c <;> simp
   | some q =>
    cases q with
    | inr r=>exact ⟨r,rfl⟩
    | inl p =>
     have hp:p=((s,(),()),((s,i+(Utf8.decode ⟨s.toArray⟩ i).2),())):=by
      simp only [uI,hi,zV,zH] at hb
      revert hb
      generalize (!_)=c
      cases c
      ·intro hb
       simp only [zK,xC,Sum.inl.injEq] at hb
       exact hb.symm
      ·intro hb
       simp at hb
     subst hp
     have:=dec_pos s i hi
     exact L93_iter s k _ (by omega)
  ·refine ⟨.inl ((s,()),()),?_⟩
   simp only [uI,hi,yu,zK]
theorem F93_some (s:Tx) (hs:s.length<=maxLen):∃ b,F93 ((s,()),())=some (b,()):=by
 have hF:maxLen<FUEL:=by unfold maxLen FUEL;omega
 obtain ⟨r,hr⟩:=L93_iter s FUEL 0 (by omega)
 have h:L93_0 ((s,(),()),((s,0),()))=some r:=hr
 cases r with
 | inl r=>exact ⟨(!(decide (r.1.1=([]:List UInt8))))&&(decide ((((List.length r.1.1):Nat):Int)<=(24:Int))),by simp only [F93,h,zE]⟩
 | inr r=>exact ⟨false,by simp only [F93,h,zE]⟩
end Go.Fl
namespace Go.Fl
open Go Go.Ev
set_option maxRecDepth 100000
structure GoodM (m:Mp):Prop where
 nodup:(m.map (·.1)).Nodup
 good:∀ (k:Tx) u,zG .str m k=some u->Good (usr u)
theorem GoodM.nil:GoodM []:=⟨List.nodup_nil,λk u h=>by cases h⟩
theorem GoodM.set {m:Mp} (G:GoodM m) (k:Tx) (u:Usr) (hu:Good u):GoodM (za .str m k (u.1,(u.2.1,(u.2.2.1,())))) where
 nodup:=uz KE_str G.nodup
 good:=λk' u' h=>by
  rw [vw KE_str G.nodup] at h
  cases hk:yf .str k' k with
  | true =>
   rw [hk,zH,xC] at h
   subst h
   exact hu
  | false =>
   rw [hk,zK] at h
   exact G.good k' u' h
end Go.Fl
namespace Go.Fl
open Go Go.Ev
set_option maxRecDepth 100000
abbrev Ls:Type:=List (List UInt8)
def lets:Nat->List UInt8->Ls
 | 0,_=>[]
 | n+1,s=>if s=[] then [] else s.take (wid s)::lets n (s.drop (wid s))
theorem lets_len:∀ (n:Nat) (s:List UInt8),(lets n s).length<=n
 | 0,s=>by simp [lets]
 | n+1,s=>by
  unfold lets
  split
  ·simp
  ·simp only [List.length_cons]
   have:=lets_len n (s.drop (wid s));omega
theorem lets_nil (n:Nat):lets n []=[]:=by cases n <;> simp [lets]
theorem bytes16 {n:Nat} (h:n<=2000000):zC n 16=true:=by
 unfold zC
 simp
 omega
theorem F108_eq {s:List UInt8} (hs:s.length<=1100000):F108 ((s,()),())=some ((),(lets s.length s,())):=by
 obtain ⟨r,h1,h2⟩:=yD (f:=B108_0) (λp=>∃ (t:List UInt8) (out:Ls) (n:Nat),p=((t,(),()),(out,()))/\t.length<=n/\out.length+n<=s.length/\out++lets n t=lets s.length s) (λp=>p.1.1.length)
  (λr=>r=(((),()),(lets s.length s,())))
  (λp ⟨t,out,n,hp,ht,ho,hl⟩=>by
   subst hp
   by_cases h0:t=[]
   ·right
    subst h0
    rw [lets_nil,List.append_nil] at hl
    exact ⟨_,by rw [<- hl];rfl,rfl⟩
   ·left
    obtain ⟨w1,w2,w3⟩:=wid_pos h0
    have hwd:(Go.Lib.decodeGo ⟨List.toArray t⟩).2=wid t:=rfl
    have hpos:0<t.length:=List.length_pos_iff.2 h0
    obtain ⟨n,rfl⟩:∃ m,n=m+1:=⟨n-1,by omega⟩
    have c1:decide ((0:Int)<((t.length:Nat):Int))=true:=zX (by omega)
    have c2:decide ((0:Int)<=((wid t:Nat):Int))=true:=zX (by omega)
    have c3:decide (((wid t:Nat):Int)<=((t.length:Nat):Int))=true:=zX (by omega)
    have c4:zC (out.length+[List.take (wid t) t].length) 16=true:=bytes16 (by simp<;>omega)
    refine ⟨((t.drop (wid t),(),()),(out++[t.take (wid t)],())),?_,⟨t.drop (wid t),out++[t.take (wid t)],n,rfl,by rw [u0];omega,by simp;omega,?_⟩,?_⟩
    ·simp only [B108_0,hwd,c1,zH,c2,c3,zu,c4,yE,zE,Int.le_refl,zV]
     rw [List.take_of_length_le (by simp)]
    ·rw [<- hl]
     simp only [lets]
     rw [if_neg h0]
     simp
    ·simp only [u0];omega)
  (p:=((s,(),()),([],()))) ⟨s,[],s.length,rfl,Nat.le_refl _,by simp,rfl⟩ (by unfold FUEL;simp only;omega)
 subst h2
 have h1':L108_0 ((s,(),()),([],()))=some (((),()),(lets s.length s,())):=h1
 simp only [F108,h1',zE]
open Go.Qw (pln)
def enc (c:Nat):List UInt8:=(ByteArray.data (Go.Utf8.encode (c:Int))).toList
theorem enc_rune (r:Nat) (h1:r<=1114111) (h2:r<55296\/57344<=r):enc r=Lib.encodeRune (r:Int):=by
 have v:Utf8.valid (r:Int)=true:=by simp [Utf8.valid];omega
 have hb:∀ (x:Int) (n:Nat),x=(n:Int)->UInt8.ofNat n=x.toNat.toUInt8:=λx n h=>by subst h;simp
 unfold enc Lib.encodeRune
 by_cases c1:r<128
 ·rw [Lib.encodeRuneZ_one (by omega) (by omega)]
  simp [Utf8.encode,v,c1]
 ·by_cases c2:r<2048
  ·rw [Lib.encodeRuneZ_two (by omega) (by omega)]
   simp only [List.map_cons,List.map_nil]
   rw [<- hb (192+(r:Int)/64) (192+r/64) (by omega),<- hb (128+(r:Int) % 64) (128+r % 64) (by omega)]
   simp [Utf8.encode,v,c1,c2]
  ·by_cases c3:r<65536
   ·rw [Lib.encodeRuneZ_three (by omega)]
    simp only [List.map_cons,List.map_nil]
    rw [<- hb (224+(r:Int)/4096) (224+r/4096) (by omega),<- hb (128+(r:Int)/64 % 64) (128+r/64 % 64) (by omega),<- hb (128+(r:Int) % 64) (128+r % 64) (by omega)]
    simp [Utf8.encode,v,c1,c2,c3]
   ·rw [Lib.encodeRuneZ_four (by omega) (by omega)]
    simp only [List.map_cons,List.map_nil]
    rw [<- hb (240+(r:Int)/262144) (240+r/262144) (by omega),<- hb (128+(r:Int)/4096 % 64) (128+r/4096 % 64) (by omega),<- hb (128+(r:Int)/64 % 64) (128+r/64 % 64) (by omega),<- hb (128+(r:Int) % 64) (128+r % 64) (by omega)]
    simp [Utf8.encode,v,c1,c2,c3]
theorem dec_valid (l:List UInt8):(Lib.decodeL l).1<=1114111/\((Lib.decodeL l).1<55296\/57344<=(Lib.decodeL l).1):=by
 have k0:=(l.getD 0 0).toNat_lt
 rw [Lib.decodeL_N]
 rcases Lib.decodeN_shape l.length (l.getD 0 0).toNat (l.getD 1 0).toNat (l.getD 2 0).toNat (l.getD 3 0).toNat with ⟨c,e⟩ | ⟨c1,c2,c3,cv,e⟩ | ⟨c1,c2,c3,c4,cv,cs,e⟩ | ⟨c1,c2,c3,c4,c5,cv,cw,e⟩ | e
 all_goals (rw [e];dsimp only;omega)
theorem enc_take (l:List UInt8) (hne:l≠[]) (hv:¬ ((Lib.decodeL l).1=65533/\(Lib.decodeL l).2=1)):enc (Lib.decodeL l).1=l.take (Lib.decodeL l).2:=by
 rw [<- Lib.encode_decode l hne hv]
 exact enc_rune _ (dec_valid l).1 (dec_valid l).2
theorem vd (l:List UInt8) (w i:Nat):(l.take w).getD i 0=if i<w then l.getD i 0 else 0:=by
 rw [xo,xo,List.getElem?_take]
 split <;> rfl
theorem dec_take (l:List UInt8) (hne:l≠[]):Lib.decodeL (l.take (Lib.decodeL l).2)=Lib.decodeL l:=by
 have hl:0<l.length:=List.length_pos_iff.2 hne
 have k0:=(l.getD 0 0).toNat_lt
 have hN:=Lib.decodeL_N l
 rcases Lib.decodeN_shape l.length (l.getD 0 0).toNat (l.getD 1 0).toNat (l.getD 2 0).toNat (l.getD 3 0).toNat with ⟨c,e⟩ | ⟨c1,c2,c3,cv,e⟩ | ⟨c1,c2,c3,c4,cv,cs,e⟩ | ⟨c1,c2,c3,c4,c5,cv,cw,e⟩ | e
 ·rw [e] at hN
  rw [hN,Lib.decodeL_N]
  simp only [vd,Nat.lt_one_iff,if_true,Lib.decodeN,c]
 ·rw [e] at hN
  rw [hN,Lib.decodeL_N]
  have hm:(l.take 2).length=2:=by rw [yy];omega
  simp only [vd,hm,Lib.decodeN,show (0:Nat)<2 from by omega,show (1:Nat)<2 from by omega,if_true]
  rw [if_neg (by omega),if_pos ⟨c1,trivial,c3⟩,if_pos cv]
 ·rw [e] at hN
  rw [hN,Lib.decodeL_N]
  have hm:(l.take 3).length=3:=by rw [yy];omega
  simp only [vd,hm,Lib.decodeN,show (0:Nat)<3 from by omega,show (1:Nat)<3 from by omega,show (2:Nat)<3 from by omega,if_true]
  rw [if_neg (by omega),if_neg (by omega),if_pos ⟨c1,⟨trivial,c3⟩,trivial,c4⟩,if_pos ⟨cv,by omega⟩]
 ·rw [e] at hN
  rw [hN,Lib.decodeL_N]
  have hm:(l.take 4).length=4:=by rw [yy];omega
  simp only [vd,hm,Lib.decodeN,show (0:Nat)<4 from by omega,show (1:Nat)<4 from by omega,show (2:Nat)<4 from by omega,show (3:Nat)<4 from by omega,if_true]
  rw [if_neg (by omega),if_neg (by omega),if_neg (by omega),if_pos ⟨c1,⟨trivial,c3⟩,⟨trivial,c4⟩,trivial,c5⟩,if_pos ⟨cv,by omega⟩]
 ·rw [e] at hN
  rw [hN,Lib.decodeL_N]
  have hm:(l.take 1).length=1:=by rw [yy];omega
  have h128:¬ (l.getD 0 0).toNat<128:=λh=>by
   have:Lib.decodeN l.length (l.getD 0 0).toNat (l.getD 1 0).toNat (l.getD 2 0).toNat (l.getD 3 0).toNat=((l.getD 0 0).toNat,1):=by
    unfold Lib.decodeN;rw [if_pos h]
   rw [e] at this
   have:=congrArg Prod.fst this
   simp only at this
   omega
  simp only [vd,hm,Lib.decodeN,Nat.lt_one_iff,if_true]
  rw [if_neg h128,if_neg (by omega),if_neg (by omega),if_neg (by omega)]
theorem dec_low (l:List UInt8):((l.getD 0 0).toNat<128->Lib.decodeL l=((l.getD 0 0).toNat,1))/\(128<=(l.getD 0 0).toNat->128<=(Lib.decodeL l).1):=by
 have k0:=(l.getD 0 0).toNat_lt
 have hN:=Lib.decodeL_N l
 refine ⟨λh=>?_,λh=>?_⟩
 ·rw [hN];unfold Lib.decodeN;rw [if_pos h]
 ·rcases Lib.decodeN_shape l.length (l.getD 0 0).toNat (l.getD 1 0).toNat (l.getD 2 0).toNat (l.getD 3 0).toNat with ⟨c,e⟩ | ⟨c1,c2,c3,cv,e⟩ | ⟨c1,c2,c3,c4,cv,cs,e⟩ | ⟨c1,c2,c3,c4,c5,cv,cw,e⟩ | e
  all_goals (rw [hN,e];dsimp only;omega)
theorem F109_eq (r:List UInt8) (hne:r≠[]) (hr:r.length<=8000000):F109 ((r.take (Lib.decodeL r).2,()),())=some (pln (Lib.decodeL r).1 (Lib.decodeL r).2,()):=by
 obtain ⟨h1,h2⟩:=dec_low r
 have hd:=dec_take r hne
 have hw:=Lib.decodeL_width r
 have hle:=Lib.decodeL_le r hne
 have hlen:(r.take (Lib.decodeL r).2).length=(Lib.decodeL r).2:=by rw [yy];omega
 have hne':r.take (Lib.decodeL r).2≠[]:=λh=>by rw [h] at hlen;simp at hlen;omega
 have hv:Lib.validD (r.take (Lib.decodeL r).2)=!decide ((Lib.decodeL r).1=65533/\(Lib.decodeL r).2=1):=by
  rw [Lib.validD_step _ hne',hd,List.drop_eq_nil_of_le (by omega),Lib.validD_nil]
  by_cases h:(Lib.decodeL r).1=65533/\(Lib.decodeL r).2=1
  ·rw [if_pos h,zX h];rfl
  ·rw [if_neg h,z7 h];rfl
 have h3:¬ ((Lib.decodeL r).1=65533/\(Lib.decodeL r).2=1)->(Lib.decodeL r).1=65533->(Lib.decodeL r).2=3:=λh h'=>by
  have e:=enc_take r hne h
  rw [h'] at e
  have:=congrArg List.length e
  rw [hlen] at this
  have e3:(enc 65533).length=3:=by decide
  omega
 have e0:(r.take (Lib.decodeL r).2).getD 0 0=r.getD 0 0:=by rw [vd,if_pos (by omega)]
 have f1:decide ((r.take (Lib.decodeL r).2).length<=9223372036854775807)=true:=zX (by omega)
 have f2:decide ((0:Int)<(((r.take (Lib.decodeL r).2).length:Nat):Int))=true:=zX (by omega)
 have z:UInt8.toNat 32=32:=rfl
 unfold F109
 simp only [f1,f2,Bool.true_or,zH,hv,e0,z]
 generalize Lib.decodeL r=d at *
 generalize r.getD 0 0=a at *
 have h127:decide (a=(127:UInt8))=decide (a.toNat=127):=by
  rw [decide_eq_decide]
  exact ⟨λh=>by rw [h];rfl,λh=>UInt8.toNat_inj.1 h⟩
 rw [h127]
 congr 2
 unfold pln
 by_cases ha:a.toNat<128
 ·rw [h1 ha]
  by_cases q1:32<=a.toNat
  ·by_cases q2:a.toNat=127
   ·simp [q2]
   ·have q3:¬ (a.toNat:Int)=127:=by omega
    have q4:¬ (a.toNat:Int)=65533:=by omega
    have q5:(32:Int)<=(a.toNat:Int):=by omega
    have q6:¬ a.toNat=65533:=by omega
    simp [q1,q2,q3,q4,q5,q6]
  ·have q5:¬ (32:Int)<=(a.toNat:Int):=by omega
   simp [q1,q5]
 ·have h4:=h2 (by omega)
  have q1:32<=a.toNat:=by omega
  have q2:¬ a.toNat=127:=by omega
  have q3:(32:Int)<=(d.1:Int):=by omega
  have q4:¬ (d.1:Int)=127:=by omega
  rw [zX q1,z7 q2,zX q3,z7 q4]
  by_cases hbad:d.1=65533/\d.2=1
  ·have q5:(d.1:Int)=65533:=by omega
   have q6:¬ (d.2:Int)=3:=by omega
   rw [zX hbad,zX q5,z7 q6];rfl
  ·rw [z7 hbad]
   by_cases h5:d.1=65533
   ·have h6:=h3 hbad h5
    have q5:(d.1:Int)=65533:=by omega
    have q6:(d.2:Int)=3:=by omega
    rw [zX q5,zX q6];rfl
   ·have q5:¬ (d.1:Int)=65533:=by omega
    rw [z7 q5];rfl
def allP:Nat->List UInt8->Bool
 | 0,_=>true
 | k+1,r=>if r=[] then true else Go.Qw.pln (Lib.decodeL r).1 (Lib.decodeL r).2&&allP k (r.drop (Lib.decodeL r).2)
theorem quoF_err:∀ (k:Nat) (r:List UInt8) (place:Nat) (out:List UInt8),(Go.Qw.quoF k r place out).2.2=if allP k r=true then 0 else 4
 | 0,r,place,out=>rfl
 | k+1,r,place,out=>by
  unfold Go.Qw.quoF allP
  by_cases h:r=[]
  ·rw [if_pos h,if_pos h];rfl
  ·rw [if_neg h,if_neg h]
   cases hp:Go.Qw.pln (Lib.decodeL r).1 (Lib.decodeL r).2
   ·simp
   ·rw [if_pos rfl,quoF_err k,Bool.true_and]
def qok (s:List UInt8):Bool:=decide (s.length<=1024)&&allP s.length s
theorem quo_err (s:List UInt8):decide ((Go.Qw.quo s).2.2=0)=qok s:=by
 unfold Go.Qw.quo qok
 by_cases h:1024<s.length
 ·rw [if_pos h]
  have:¬ s.length<=1024:=by omega
  simp [this]
 ·rw [if_neg h]
  have h':s.length<=1024:=by omega
  rw [quoF_err]
  cases allP s.length s <;> simp [h']
noncomputable def pl (x:List UInt8):Bool:=match F109 ((x,()),()) with
 | some (b,_)=>b
 | none=>false
theorem lets_plain:∀ (n:Nat) (r:List UInt8),r.length<=n->r.length<=8000000 ->
  (∀ x∈lets n r,F109 ((x,()),())=some (pl x,())/\x.length<=4)/\(lets n r).all pl=allP n r
 | 0,r,_,_=>⟨λx hx=>by simp [lets] at hx,rfl⟩
 | n+1,r,hn,hr=>by
  unfold lets allP
  by_cases h:r=[]
  ·rw [if_pos h,if_pos h]
   exact ⟨λx hx=>by simp at hx,rfl⟩
  ·rw [if_neg h,if_neg h]
   have hw:=wid_eq h
   obtain ⟨w1,w2,w3⟩:=wid_pos h
   rw [hw] at w1 w2 w3 ⊢
   have hp:=F109_eq r h hr
   have hpl:pl (r.take (Lib.decodeL r).2)=Go.Qw.pln (Lib.decodeL r).1 (Lib.decodeL r).2:=by
    unfold pl
    rw [hp]
   obtain ⟨h1,h2⟩:=lets_plain n (r.drop (Lib.decodeL r).2) (by simp<;>omega) (by simp<;>omega)
   refine ⟨λx hx=>?_,?_⟩
   ·rcases List.mem_cons.mp hx with rfl | hx
    ·exact ⟨by rw [hp,hpl],by simp;omega⟩
    ·exact h1 x hx
   ·rw [List.all_cons,h2,hpl]
theorem F79_err (s:List UInt8) (hs:s.length<=1100000):∃ o p,F79 ((s,()),())=some ((o,p,if qok s=true then 0 else if 1024<s.length then 6 else 4,()),()):=by
 unfold F79
 by_cases h:1024<s.length
 ·have h1:decide ((1024:Int)<((s.length:Nat):Int))=true:=zX (by omega)
  have h2:qok s=false:=by unfold qok;simp;omega
  simp only [h1,zH]
  exact ⟨[],0,by rw [h2];simp [h]⟩
 ·have h1:decide ((1024:Int)<((s.length:Nat):Int))=false:=z7 (by omega)
  have h2:qok s=allP s.length s:=by unfold qok;simp;omega
  simp only [h1,zK,F108_eq hs,zE]
  obtain ⟨hx,hall⟩:=lets_plain s.length s (Nat.le_refl _) (by omega)
  have hL:(lets s.length s).length<=s.length:=lets_len s.length s
  generalize lets s.length s=L at hx hall hL
  have hF:=zO
  have hw:=zq (f:=B79_0) (λ(b:List UInt8×Nat) i=>(((),b.1,(i:Int),()),(L,()))) L
   (λa b=>if pl a=true then .inl ((if a=[34]\/a=[92] then b.1++[92] else b.1)++a,b.2+1) else .inr (.inr (((),(b.2:Int),(),()),())))
   (λb=>.inl ((b.1,()),())) (λb i=>b.1.length<=1+5*i/\b.2=i) (b:=([34],0))
   (λb i a hI hi ha=>by
    obtain ⟨hI1,hI2⟩:=hI
    obtain ⟨f1,f2⟩:=hx a (by have:=ha [];rw [xo,List.getElem?_eq_getElem hi] at this;simp at this;rw [<- this];exact List.getElem_mem hi)
    have d0:decide ((i:Int)<((L.length:Nat):Int))=true:=zX (by omega)
    have d1:decide ((0:Int)<=(i:Int))=true:=zX (by omega)
    have g1:L.getD (Int.toNat (i:Int)) []=a:=by rw [zu];exact ha []
    have w1:zZ ((i:Int)+1)=((i+1:Nat):Int):=by rw [zQ (by omega) (by omega)];rfl
    have b1:fits (b.1.length+([92]:List UInt8).length)=true:=zX (by simp<;>omega)
    have b2:fits (b.1.length+a.length)=true:=zX (by omega)
    have b3:fits ((b.1++[92]).length+a.length)=true:=zX (by simp<;>omega)
    cases hpl:pl a
    ·right
     refine ⟨_,if_neg (by simp),?_⟩
     simp only [B79_0,d0,d1,yE,zH,g1,f1,hpl,zE,yx,hI2]
    ·left
     refine ⟨_,if_pos rfl,⟨?_,by simp [hI2]⟩,?_⟩
     ·by_cases hq:a=[34]\/a=[92]
      ·simp [if_pos hq];omega
      ·simp [if_neg hq];omega
     ·by_cases hq:a=[34]\/a=[92]
      ·have hq':(decide (a=[34])||decide (a=[92]))=true:=by simpa using hq
       simp only [B79_0,d0,d1,yE,zH,g1,f1,hpl,zE,yA,zK,Bool.true_or,hq',b1,b3,w1,if_pos hq]
      ·have hq':(decide (a=[34])||decide (a=[92]))=false:=by simpa using hq
       simp only [B79_0,d0,d1,yE,zH,g1,f1,hpl,zE,yA,zK,Bool.true_or,hq',b2,w1,if_neg hq])
   (λb _=>by
    have d0:decide (((L.length:Nat):Int)<((L.length:Nat):Int))=false:=by simp
    simp only [B79_0,d0,zK])
   (by omega) ⟨by simp,rfl⟩
  have hw':L79_0 (((),[34],0,()),(L,()))=_:=hw
  rw [hw']
  have hfold:∀ (M:List (List UInt8)) (b:List UInt8×Nat),b.1.length<=1+5*b.2->b.2+M.length<=1100000->(∀ x∈M,x.length<=4) ->
    (M.all pl=true->∃ b':List UInt8×Nat,b'.1.length<=6000000/\zd (λa b=>if pl a=true then .inl ((if a=[34]\/a=[92] then b.1++[92] else b.1)++a,b.2+1) else .inr (.inr (((),(b.2:Int),(),()),())))
     (λb:List UInt8×Nat=>(.inl ((b.1,()),()):((List UInt8×Unit)×Unit)⊕((Unit×Int×Unit×Unit)×Unit))) b M=.inl ((b'.1,()),())) /\
    (M.all pl=false->∃ p:Int,zd (λa b=>if pl a=true then .inl ((if a=[34]\/a=[92] then b.1++[92] else b.1)++a,b.2+1) else .inr (.inr (((),(b.2:Int),(),()),())))
     (λb:List UInt8×Nat=>(.inl ((b.1,()),()):((List UInt8×Unit)×Unit)⊕((Unit×Int×Unit×Unit)×Unit))) b M=.inr (((),p,(),()),())):=by
   intro M
   induction M with
   | nil=>exact λb h1 h2 _=>⟨λ_=>⟨b,by simp at h2;omega,rfl⟩,λh=>by simp at h⟩
   | cons a M ih =>
    intro b h1 h2 h3
    simp only [List.length_cons] at h2
    have ha:=h3 a (by simp)
    have:=ih ((if a=[34]\/a=[92] then b.1++[92] else b.1)++a,b.2+1) (by
     by_cases hq:a=[34]\/a=[92]
     ·simp [if_pos hq];omega
     ·simp [if_neg hq];omega) (by simp only;omega) (λx hx=>h3 x (by simp [hx]))
    cases hpl:pl a
    ·refine ⟨λh=>by simp [hpl] at h,λ_=>⟨(b.2:Int),?_⟩⟩
     simp only [zd,hpl,Bool.false_eq_true,if_false]
    ·simp only [List.all_cons,hpl,Bool.true_and]
     simp only [zd,hpl,if_true]
     exact this
  obtain ⟨q1,q2⟩:=hfold L ([34],0) (by simp) (by simp only;omega) λx hx'=>(hx x hx').2
  rw [h2,<- hall]
  cases hA:L.all pl
  ·obtain ⟨p,hp⟩:=q2 hA
   rw [hp]
   exact ⟨[],p,by simp [h]⟩
  ·obtain ⟨b',hb,hp⟩:=q1 hA
   rw [hp]
   have b1:fits (b'.1.length+([34]:List UInt8).length)=true:=zX (by simp<;>omega)
   simp only [zE,b1,zH]
   exact ⟨b'.1++[34],0,by simp⟩
end Go.Fl
namespace Go.Fl
open Go Go.Ev
set_option maxRecDepth 100000
def goodL:List UInt8:=[97,98,99,100,101,102,103,104,105,106,107,108,109,110,111,112,113,114,115,116,117,118,119,120,121,122,48,49,50,51,52,53,54,55,56,57,46,45,95]
def okc (c:UInt8):Bool:=goodL.any λg=>decide (c=g)
def okn (n:Int):Bool:=((((decide (97<=n)&&decide (n<=122))||(decide (48<=n)&&decide (n<=57)))||decide (n=46))||decide (n=45))||decide (n=95)
theorem okc_all:((List.range 256).all λn=>okc (UInt8.ofNat n) == okn (n:Int))=true:=by decide +kernel
theorem okc_eq (c:UInt8):okc c=okn (c.toNat:Int):=by
 have h:=List.all_eq_true.1 okc_all c.toNat (List.mem_range.2 c.toNat_lt)
 rw [UInt8.ofNat_toNat] at h
 exact eq_of_beq h
theorem okn_big {n:Nat} (h:128<=n):okn (n:Int)=false:=by
 unfold okn
 simp
 omega
def yl (s:Tx):Bool:=s.all okc&&decide (1<=s.length)&&decide (s.length<=24)
theorem drop_all {s:List UInt8} {i:Nat} (h:i<s.length):s.drop i=s.getD i 0::s.drop (i+1):=by
 rw [List.drop_eq_getElem_cons h,xo,List.getElem?_eq_getElem h]
 rfl
theorem L93_good (s:List UInt8):∀ (k i:Nat) (r:(Tx×Unit)×Unit),iter uI k ((s,(),()),((s,i),()))=some (.inl r)->r=((s,()),())/\(s.drop i).all okc=true
 | 0,_,_,h=>by simp [iter] at h
 | k+1,i,r,h=>by
  rw [iter] at h
  by_cases hi:i<s.length
  ·have hd:Utf8.decode ⟨s.toArray⟩ i=Lib.decodeL (s.drop i):=dec_at hi
   have hb:uI ((s,(),()),((s,i),()))=cond (!okn ((Lib.decodeL (s.drop i)).1:Int)) (some (Sum.inr (Sum.inr (((),()),())))) (some (Sum.inl ((s,(),()),((s,(i+(Lib.decodeL (s.drop i)).2)),())))):=by
    rw [<- hd]
    simp only [uI,hi,zV,zH]
    rfl
   rw [hb] at h
   cases hn:okn ((Lib.decodeL (s.drop i)).1:Int) with
   | false=>rw [hn] at h;simp at h
   | true =>
    rw [hn] at h
    simp only [yA,zK] at h
    obtain ⟨l1,l2⟩:=dec_low (s.drop i)
    have hlow:((s.drop i).getD 0 0).toNat<128:=by
     rcases Nat.lt_or_ge ((s.drop i).getD 0 0).toNat 128 with h' | h'
     ·exact h'
     ·exfalso
      rw [okn_big (l2 h')] at hn
      cases hn
    have hdl:=l1 hlow
    rw [hdl] at h hn
    obtain ⟨h1,h2⟩:=L93_good s k (i+1) r h
    refine ⟨h1,?_⟩
    have e:=drop_all hi
    rw [e,List.all_cons,h2,Bool.and_true,okc_eq]
    rw [e] at hn
    exact hn
  ·simp only [uI,hi,yu,zK] at h
   cases h
   refine ⟨rfl,?_⟩
   rw [List.drop_eq_nil_of_le (by omega)]
   rfl
theorem F93_good {s:Tx} (h:F93 ((s,()),())=some (true,())) (hs:s.length<=maxLen):yl s=true:=by
 have hF:maxLen<FUEL:=by unfold maxLen FUEL;omega
 obtain ⟨r,hr⟩:=L93_iter s FUEL 0 (by omega)
 have hL:L93_0 ((s,(),()),((s,0),()))=some r:=hr
 cases r with
 | inr r=>simp only [F93,hL,zE] at h;simp at h
 | inl r =>
  obtain ⟨h1,h2⟩:=L93_good s FUEL 0 r hr
  subst h1
  simp only [F93,hL,zE,xC,Prod.mk.injEq,and_true,yo,Bool.not_eq_true',decide_eq_false_iff_not,xh] at h
  rw [List.drop_zero] at h2
  unfold yl
  have:1<=s.length:=List.length_pos_iff.2 h.1
  simp only [h2,this,zV,Bool.and_true,Bool.true_and,xh]
  omega
theorem foldS_all {α τ:Type} (q:α->Bool) (r f:τ):∀ (l:List α),zd (λa (_:Unit)=>if q a=true then (.inl ():Unit⊕τ) else .inr r) (λ_=>f) () l=if l.all q=true then f else r
 | []=>rfl
 | a::t=>by
  have ih:=foldS_all q r f t
  simp only [zd,List.all_cons]
  rcases Bool.eq_false_or_eq_true (q a) with hq | hq
  ·simp only [hq,↓reduceIte,Bool.true_and,ih]
  ·simp only [hq,Bool.false_eq_true,↓reduceIte,Bool.false_and]
theorem foldS_any {α τ:Type} (q:α->Bool) (f:Bool->τ):∀ (l:List α) (b:Bool),zd (λa b=>(.inl (b||q a):Bool⊕τ)) f b l=f (b||l.any q)
 | [],b=>by simp [zd]
 | a::t,b=>by
  simp only [zd,List.any_cons]
  rw [foldS_any q f t,Bool.or_assoc]
theorem L65_1_eq (s:Tx) (i:Nat) (hi:i<s.length):L65_1 ((s,(i:Int),false,(0:Int),()),())=some ((s,(i:Int),okc (s.getD i 0),()),()):=by
 have hF:=zO
 unfold L65_1
 refine (yi (f:=B65_1) (λ(b:Bool) k=>((s,(i:Int),b,(k:Int),()),())) goodL (λa b=>.inl (b||decide (s.getD i 0=a))) (λb=>((s,(i:Int),b,()),()))
  (λb k a hk ha=>?_) (λb=>?_) (by show 39<FUEL;omega) (b:=false)).trans ?_
 ·have hk39:k<39:=hk
  have c0:decide ((k:Int)<39)=true:=zX (by omega)
  have c1:decide ((0:Int)<=(i:Int))=true:=zX (by omega)
  have c2:decide ((i:Int)<((s.length:Nat):Int))=true:=zX (by omega)
  have c3:decide ((0:Int)<=(k:Int))=true:=zX (by omega)
  have w1:zZ ((k:Int)+1)=((k+1:Nat):Int):=by rw [zQ (by omega) (by omega)];rfl
  have ha':List.getD ([97,98,99,100,101,102,103,104,105,106,107,108,109,110,111,112,113,114,115,116,117,118,119,120,121,122,48,49,50,51,52,53,54,55,56,57,46,45,95]:List UInt8) k 0=a:=ha 0
  simp only [B65_1,c0,c1,c2,c3,yE,Bool.true_or,zH,zu,zE,ha',w1]
 ·have c0:decide (((goodL.length:Nat):Int)<39)=false:=rfl
  simp only [B65_1,c0,zK]
 ·rw [foldS_any (λa=>decide (s.getD i 0=a)),Bool.false_or]
  rfl
theorem uF (s:Tx) (hs:s.length<=maxLen):F65 ((s,()),())=some (yl s,()):=by
 have hF:maxLen<FUEL:=by unfold maxLen FUEL;omega
 have hm:maxLen<=9223372036854775807:=by unfold maxLen;omega
 have hn:s.length<FUEL:=Nat.lt_of_le_of_lt hs hF
 have hL:L65_0 ((s,(0:Int),()),())=some (if s.all okc=true then (.inl ((s,()),()):((Tx×Unit)×Unit)⊕((Unit×Unit)×Unit)) else .inr (((),()),())):=by
  unfold L65_0
  refine (yi (f:=B65_0) (λ(_:Unit) i=>((s,(i:Int),()),())) s (λa _=>if okc a=true then .inl () else .inr (.inr (((),()),()))) (λ_=>.inl ((s,()),()))
   (λb i a hi ha=>?_) (λb=>?_) hn (b:=())).trans ?_
  ·have c0:decide ((i:Int)<((s.length:Nat):Int))=true:=zX (by omega)
   have w1:zZ ((i:Int)+1)=((i+1:Nat):Int):=by rw [zQ (by omega) (by omega)];rfl
   have e:=L65_1_eq s i hi
   rw [ha 0] at e
   cases hq:okc a
   ·simp only [B65_0,c0,zH,e,zE,hq,yx,Bool.false_eq_true,↓reduceIte]
   ·simp only [B65_0,c0,zH,e,zE,hq,yA,zK,↓reduceIte,w1]
  ·simp only [B65_0,Int.lt_irrefl,yu,zK]
  ·rw [foldS_all]
 simp only [F65,hL,zE]
 unfold yl
 cases s.all okc
 ·simp
 ·have e1:decide ((1:Int)<=((s.length:Nat):Int))=decide (1<=s.length):=by rw [decide_eq_decide];omega
  have e2:decide (((s.length:Nat):Int)<=24)=decide (s.length<=24):=by rw [decide_eq_decide];omega
  simp only [↓reduceIte,zE,e1,e2,Bool.true_and]
noncomputable def zl (s:Tx):Bool:=decide (1<=s.length)&&decide (s.length<=24)&&qok s&&decide (fld s=s)
theorem F94_eq (s:Tx):F94 ((s,()),())=some (zl s,()):=by
 have hq:decide ((quo s).2.2=0)=qok s:=quo_err s
 have e2:decide (((s.length:Nat):Int)<=24)=decide (s.length<=24):=by rw [decide_eq_decide];omega
 have e1:(!(decide (s=([]:List UInt8))))=decide (1<=s.length):=by
  cases s <;> simp
 unfold zl
 simp only [F94,e1,e2,hq]
 cases hc:(decide (1<=s.length)&&decide (s.length<=24))&&qok s with
 | false=>simp
 | true =>
  have hl:s.length<=24:=by
   simp only [yo,xh] at hc
   omega
  simp only [zH,F124_eq s (Nat.le_trans hl (by decide)),zE,Bool.true_and]
theorem F110_eq (s:Tx) (hs:s.length<=1100000):F110 ((s,()),())=some (s.map lowc,()):=by
 have hF:=zO
 have hL:L110_0 ((s,([]:List UInt8),(0:Int),()),())=some ((s.map lowc,()),()):=by
  unfold L110_0
  refine (zq (f:=B110_0) (λ(b:List UInt8) i=>((s,b,(i:Int),()),())) s (λa b=>.inl (b++[lowc a])) (λb=>((b,()),())) (λb i=>b.length=i)
   (λb i a hI hi ha=>?_) (λb _=>?_) (by omega) (b:=[]) rfl).trans ?_
  ·left
   refine ⟨_,rfl,by simp [hI],?_⟩
   have c0:decide ((i:Int)<((s.length:Nat):Int))=true:=zX (by omega)
   have c1:decide ((0:Int)<=(i:Int))=true:=zX (by omega)
   have w1:zZ ((i:Int)+1)=((i+1:Nat):Int):=by rw [zQ (by omega) (by omega)];rfl
   have b1:∀ c:UInt8,fits (b.length+([c]:List UInt8).length)=true:=λc=>zX (by simp<;>omega)
   have z1:UInt8.toNat 65=65:=rfl
   have z2:UInt8.toNat 90=90:=rfl
   simp only [B110_0,c0,c1,yE,zH,zu,ha 0,z1,z2]
   unfold lowc
   by_cases h1:65<=a.toNat
   ·by_cases h2:a.toNat<=90
    ·simp only [h1,h2,zV,yE,zH,zE,b1,w1,and_self,↓reduceIte]
    ·simp only [h1,h2,zV,yu,Bool.and_false,zK,zH,zE,b1,w1,and_false,↓reduceIte]
   ·simp only [h1,yu,Bool.false_and,zK,zH,zE,b1,w1,false_and,↓reduceIte]
  ·simp only [B110_0,Int.lt_irrefl,yu,zK]
  ·rw [foldS_push]
   rfl
 simp only [F110,hL,zE]
theorem F80_eq (s:Tx) (hs:s.length<=1100000):F80 ((s,()),())=some (fld s,()):=by
 have hi:List.map lowc inbx=[105,110,98,111,120]:=by decide
 simp only [F80,F110_eq s hs,zE]
 unfold fld
 rw [hi]
 by_cases h:s.map lowc=[105,110,98,111,120]
 ·simp only [h,zV,zH,↓reduceIte]
  rfl
 ·simp only [h,yu,zK,↓reduceIte]
theorem yw (s:Tx) (hs:s.length<=1100000):F66 ((s,()),())=some (zl s,()):=by
 obtain ⟨o,p,h⟩:=F79_err s hs
 have e1:decide ((1:Int)<=((s.length:Nat):Int))=decide (1<=s.length):=by rw [decide_eq_decide];omega
 have e2:decide (((s.length:Nat):Int)<=24)=decide (s.length<=24):=by rw [decide_eq_decide];omega
 have hq:decide ((if qok s=true then 0 else if 1024<s.length then 6 else 4:Int)=0)=qok s:=by
  cases qok s
  ·by_cases h':1024<s.length <;> simp [h']
  ·simp
 unfold zl
 simp only [F66,h,zE,e1,e2,hq]
 cases hc:(decide (1<=s.length)&&decide (s.length<=24))&&qok s with
 | false=>simp
 | true=>simp only [zH,F80_eq s hs,zE,Bool.true_and]
theorem bl_eq:∀ (a b:Tx),Op.bytesLess a b=decide (a<b)
 | [],[]=>by simp [Op.bytesLess]
 | [],b::bs=>by simp [Op.bytesLess]
 | a::r,[]=>by simp [Op.bytesLess]
 | a::r,b::bs=>by
  have ih:=bl_eq r bs
  simp only [Op.bytesLess,ih,List.cons_lt_cons_iff]
  by_cases h1:a<b
  ·simp [h1]
  ·by_cases h2:a=b
   ·simp [h2]
   ·simp [h1,h2]
def uY (c:Int×Int) (b:Bx):Int×Int:=(zZ (c.1+(b.2.2.2.1.length:Int)),zZ (c.2+size b.2.2.2.1))
def xD (ls:List Bx):Int×Int:=ls.foldl uY (0,0)
theorem held_foldl:∀ (ls:List Bx) (c:Int×Int),zd heldS (λc=>((c.1,c.2,()),())) c ls=(((ls.foldl uY c).1,(ls.foldl uY c).2,()),())
 | [],_=>rfl
 | b::t,c=>held_foldl t (uY c b)
theorem held_eq (ls:List Bx):held ls=(((xD ls).1,(xD ls).2,()),()):=held_foldl ls (0,0)
theorem heldL_succ {ls:List Bx} {i:Nat} (h:i<ls.length):xD (ls.take (i+1))=uY (xD (ls.take i)) (ls.getD i yH):=by
 unfold xD
 rw [List.take_succ_eq_append_getElem h,List.foldl_append,xo,List.getElem?_eq_getElem h]
 rfl
structure Fine (u:Usr):Prop where
 good:Good u
 user:yl u.1=true
 names:∀ b∈u.2.2.1,zl b.1=true
 inb:∃ b∈u.2.2.1,b.1=inbx
 room:wth u.2.2.1=true
theorem Right.prev {ls:List Ltr} (h:ls.Pairwise (λa b=>a.1<b.1)) {j:Nat} (hj:j+1<ls.length):(ls.getD j ux).1<(ls.getD (j+1) ux).1:=getD_lt h (Nat.lt_succ_self j) hj ux
theorem F67_eq {b:Box} (R:Right b):F67 ((b,()),())=some (0,()):=by
 obtain ⟨nm,v,n,ls,⟨⟩⟩:=b
 have hF:=zO
 have h1:=R.valid
 have h2:=R.next
 have h3:=R.few
 have h4:=R.each
 have h5:=R.rise
 simp only at h1 h2 h3 h4 h5
 have c1:decide (v<1)=false:=z7 (by omega)
 have c2:decide (4294967295<v)=false:=z7 (by omega)
 have c3:decide (n<1)=false:=z7 (by omega)
 have c4:decide (4294967295<n)=false:=z7 (by omega)
 have c5:decide ((32:Int)<((ls.length:Nat):Int))=false:=z7 (by omega)
 have hL:L67_0 (((),(0:Int),()),((nm,v,n,ls,()),()))=some (.inl ((),())):=by
  unfold L67_0
  refine (yi (f:=B67_0) (λ(_:Unit) i=>(((),(i:Int),()),((nm,v,n,ls,()),()))) ls (λ_ _=>.inl ()) (λ_=>.inl ((),()))
   (λb i a hi ha=>?_) (λb=>?_) (by omega) (b:=())).trans ?_
  ·have hm:a∈ls:=by
    have:=ha ux
    rw [xo,List.getElem?_eq_getElem hi] at this
    rw [<- this]
    exact List.getElem_mem hi
   obtain ⟨l1,l2,l3,l4⟩:=h4 a hm
   have d0:decide ((i:Int)<((ls.length:Nat):Int))=true:=zX (by omega)
   have d1:decide ((0:Int)<=(i:Int))=true:=zX (by omega)
   have d2:decide (a.1<1)=false:=z7 (by omega)
   have d3:decide (n<=a.1)=false:=z7 (by omega)
   have d4:decide (31<a.2.1.toNat)=false:=z7 (by omega)
   have d5:decide ((600:Int)<((a.2.2.1.length:Nat):Int))=false:=z7 (by omega)
   have w1:zZ ((i:Int)+1)=((i+1:Nat):Int):=by rw [zQ (by omega) (by omega)];rfl
   have z:UInt8.toNat 31=31:=rfl
   have ha':=ha ux
   cases i with
   | zero =>
    have p0:decide ((0:Int)<((0:Nat):Int))=false:=rfl
    simp only [B67_0,d0,d1,yE,zH,zu,ha',zE,p0,d2,d3,Bool.false_and,Bool.or_false,yx,Bool.or_true,zK,z,d4,d5,w1]
   | succ j =>
    have p0:decide ((0:Int)<((j+1:Nat):Int))=true:=zX (by omega)
    have w2:zZ (((j+1:Nat):Int)-1)=(j:Int):=by rw [zQ (by omega) (by omega)];omega
    have p1:decide ((0:Int)<=(j:Int))=true:=zX (by omega)
    have p2:decide ((j:Int)<((ls.length:Nat):Int))=true:=zX (by omega)
    have hr:=Right.prev h5 hi
    rw [ha'] at hr
    have p3:decide (a.1<=(ls.getD j ux).1)=false:=z7 (by omega)
    simp only [B67_0,d0,d1,yE,zH,zu,ha',zE,p0,w2,p1,p2,p3,Bool.true_or,d2,d3,Bool.and_false,Bool.or_false,zK,z,d4,d5,w1]
  ·simp only [B67_0,Int.lt_irrefl,yu,zK]
  ·have:∀ l:List Ltr,zd (λ(_:Ltr) (_:Unit)=>(.inl ():Unit⊕((Unit×Unit)⊕((Int×Unit)×Unit)))) (λ_=>.inl ((),())) () l=.inl ((),()):=λl=>by
    induction l with
    | nil=>rfl
    | cons a t ih=>exact ih
   rw [this]
 simp only [F67,c1,c2,c3,c4,c5,Bool.or_self,zK,hL,zE]
theorem F68_eq (b:Box) (hl:b.2.2.2.1.length<=32):F68 ((b,()),())=some (size b.2.2.2.1,()):=by
 obtain ⟨nm,v,n,ls,⟨⟩⟩:=b
 have hF:=zO
 change ls.length<=32 at hl
 have h:L68_0 (((),(0:Int),(0:Int),()),((nm,v,n,ls,()),()))=some (zd (λ(l:Ltr) n=>(.inl (zZ (n+(l.2.2.1.length:Int))):Int⊕((Int×Unit)×Unit))) (λn=>((n,()),())) 0 ls):=by
  unfold L68_0
  refine yi (f:=B68_0) (λb i=>(((),b,(i:Int),()),((nm,v,n,ls,()),()))) ls _ _ (λb i a hi ha=>?_) (λb=>by simp only [B68_0,Int.lt_irrefl,yu,zK]) (by omega)
  simp only [B68_0,ym,yY,hi,zV,Bool.and_true,zH,zE,zu,ha,yL (show i<9223372036854775807 by omega)]
 have e:=foldS_map (λn:Int=>((n,()),())) (step:=λ(l:Ltr) n=>(.inl (zZ (n+(l.2.2.1.length:Int))):Int⊕Int)) (fin:=id) ls 0
 simp only [id_eq] at e
 rw [e] at h
 simp only [F68,h,zE,size]
structure Upon (u:Usr) (i:Nat):Prop where
 each:∀ k,k<i->zl (u.2.2.1.getD k yH).1=true/\Right (yI (u.2.2.1.getD k yH))/\(u.2.2.1.getD k yH).2.1<=u.2.1
 rise:∀ k,k+1<i->(u.2.2.1.getD k yH).1<(u.2.2.1.getD (k+1) yH).1
abbrev R13:Type:=((Bool×Int×Int×Unit)×Unit)⊕((Int×Unit)×Unit)
abbrev R44:Type:=((Int×Int×Bool×Unit)×Unit)⊕((Int×Unit)×Unit)
def has1 (ls:List Bx):Bool:=ls.any λb=>decide (b.1=inbx)
theorem has1_succ {ls:List Bx} {i:Nat} (h:i<ls.length):has1 (ls.take (i+1))=(has1 (ls.take i)||decide ((ls.getD i yH).1=inbx)):=by
 unfold has1
 rw [List.take_succ_eq_append_getElem h,List.any_append,xo,List.getElem?_eq_getElem h]
 simp
theorem L74_ex (u:Usr) (hl:u.2.2.1.length<=6):∃ r:R44,L74_0 (((),(0:Int),(0:Int),false,u.2.2.1,((u.2.2.1.length:Nat):Int),(0:Int),()),((u.1,u.2.1,u.2.2.1,()),()))=some r /\
  match r with
  | .inl q=>q=(((xD u.2.2.1).1,(xD u.2.2.1).2,has1 u.2.2.1,()),())/\Upon u u.2.2.1.length
  | .inr q=>q.1.1≠0:=by
 obtain ⟨un,uv,ls,⟨⟩⟩:=u
 change ls.length<=6 at hl
 have hF:=zO
 unfold L74_0
 refine yD (f:=uZ) (λp=>∃ i:Nat,i<=ls.length/\p=(((),(xD (ls.take i)).1,(xD (ls.take i)).2,has1 (ls.take i),ls,((ls.length:Nat):Int),(i:Int),()),((un,uv,ls,()),()))/\Upon (un,uv,ls,()) i)
  (λp=>ls.length-p.1.2.2.2.2.2.2.1.toNat) (λr:R44=>match r with
   | .inl q=>q=(((xD ls).1,(xD ls).2,has1 ls,()),())/\Upon (un,uv,ls,()) ls.length
   | .inr q=>q.1.1≠0) ?_ ⟨0,Nat.zero_le _,rfl,⟨λk hk=>absurd hk (Nat.not_lt_zero _),λk hk=>absurd hk (Nat.not_lt_zero _)⟩⟩ (by simp only;omega)
 rintro p ⟨i,hi,rfl,U⟩
 rcases Nat.lt_or_ge i ls.length with h | h
 ·have d0:decide ((i:Int)<((ls.length:Nat):Int))=true:=zX (by omega)
  have d1:decide ((0:Int)<=(i:Int))=true:=zX (by omega)
  have w1:zZ ((i:Int)+1)=((i+1:Nat):Int):=by rw [zQ (by omega) (by omega)];rfl
  have hs:=heldL_succ h
  have ho:=has1_succ h
  obtain ⟨⟨bn,bv,bx,bl,⟨⟩⟩,hb⟩:∃ b,ls.getD i yH=b:=⟨_,rfl⟩
  rw [hb] at hs ho
  have hgd:ls.getD i (([]:List UInt8),((0:Int),((0:Int),(([]:(List Ltr)),()))))=(bn,bv,bx,bl,()):=hb
  have e70:=F94_eq bn
  have e71:=F95_eq (bn,bv,bx,bl,())
  have g:((decide ((0:Int)<=zZ ((i:Int)-(1:Int)))&&decide (zZ ((i:Int)-(1:Int))<((ls.length:Nat):Int)))||(!(decide ((0:Int)<(i:Int))&&(!(!(zl bn))))))=true:=by
   cases i with
   | zero=>simp
   | succ j =>
    have w2:zZ (((j+1:Nat):Int)-1)=(j:Int):=by rw [zQ (by omega) (by omega)];omega
    rw [w2,zX (show (0:Int)<=(j:Int) by omega),zX (show (j:Int)<((ls.length:Nat):Int) by omega)]
    rfl
  obtain ⟨bad,hbad⟩:∃ x,((!(zl bn))||(decide ((0:Int)<(i:Int))&&(Op.bytesLess bn (ls.getD (Int.toNat (zZ ((i:Int)-(1:Int)))) (([]:List UInt8),((0:Int),((0:Int),(([]:(List Ltr)),()))))).1||decide (bn=(ls.getD (Int.toNat (zZ ((i:Int)-(1:Int)))) (([]:List UInt8),((0:Int),((0:Int),(([]:(List Ltr)),()))))).1))))=x:=⟨_,rfl⟩
  cases bad with
  | true =>
   right
   refine ⟨.inr ((4,()),()),?_,by show (4:Int)≠0;omega⟩
   simp only [uZ,d0,d1,yE,zH,zu,hgd,zE,e70,g,hbad]
  | false =>
   by_cases hc:y3 (bn,bv,bx,bl,())=0
   ·have R:=check_zero.1 hc
    have e72:=F96_eq (bn,bv,bx,bl,()) (Nat.le_trans R.few (by decide))
    by_cases hv:uv<bv
    ·right
     refine ⟨.inr ((2,()),()),?_,by show (2:Int)≠0;omega⟩
     simp only [uZ,d0,d1,yE,zH,zu,hgd,zE,e70,g,hbad,zK,e71,hc,zV,yA,zX hv]
    ·left
     have hn:zl bn=true:=by
      revert hbad
      cases zl bn <;> simp
     refine ⟨_,?_,⟨i+1,h,rfl,?_⟩,?_⟩
     ·simp only [uZ,d0,d1,yE,zH,zu,hgd,zE,e70,g,hbad,zK,e71,hc,zV,yA,z7 hv,e72,hs,ho,w1,uY]
      rfl
     ·refine ⟨λk hk=>?_,λk hk=>?_⟩
      ·rcases Nat.lt_or_ge k i with h' | h'
       ·exact U.each k h'
       ·obtain rfl:k=i:=by omega
        show zl (ls.getD k yH).1=true/\Right (yI (ls.getD k yH))/\(ls.getD k yH).2.1<=uv
        rw [hb]
        exact ⟨hn,R,by simp only;omega⟩
      ·rcases Nat.lt_or_ge (k+1) i with h' | h'
       ·exact U.rise k h'
       ·obtain rfl:i=k+1:=by omega
        show (ls.getD k yH).1<(ls.getD (k+1) yH).1
        rw [hb]
        have w2:zZ (((k+1:Nat):Int)-1)=(k:Int):=by rw [zQ (by omega) (by omega)];omega
        rw [w2,zu,hn,zX (show (0:Int)<((k+1:Nat):Int) by omega),bl_eq] at hbad
        simp only [yA,Bool.false_or,Bool.true_and,Bool.or_eq_false_iff,decide_eq_false_iff_not] at hbad
        exact wH hbad.1 hbad.2
     ·simp only;omega
   ·right
    refine ⟨.inr ((y3 (bn,bv,bx,bl,()),()),()),?_,hc⟩
    simp only [uZ,d0,d1,yE,zH,zu,hgd,zE,e70,g,hbad,zK,e71,z7 hc,yx]
 ·have hi':i=ls.length:=by omega
  subst hi'
  right
  rw [List.take_length] at *
  refine ⟨.inl (((xD ls).1,(xD ls).2,has1 ls,()),()),?_,rfl,U⟩
  simp only [uZ,Int.lt_irrefl,yu,zK]
theorem rise_of {ls:List Bx} (h:∀ k,k+1<ls.length->(ls.getD k yH).1<(ls.getD (k+1) yH).1):ls.Pairwise (λa b=>a.1<b.1):=by
 rw [List.pairwise_iff_getElem]
 have key:∀ (n i:Nat),i+n+1<ls.length->(ls.getD i yH).1<(ls.getD (i+n+1) yH).1:=by
  intro n
  induction n with
  | zero=>exact λi hi=>h i hi
  | succ n ih=>exact λi hi=>List.lt_trans (ih i (by omega)) (h (i+n+1) hi)
 intro i j hi hj hij
 have:=key (j-i-1) i (by omega)
 rw [show i+(j-i-1)+1=j by omega,xo,xo,List.getElem?_eq_getElem hi,List.getElem?_eq_getElem hj] at this
 exact this
theorem F74_ex (u:Usr) (hu:u.1.length<=maxLen):∃ e,F74 ((u,()),())=some (e,())/\(e=0->Fine u):=by
  obtain ⟨un,uv,ls,⟨⟩⟩:=u
  change un.length<=maxLen at hu
  obtain ⟨b,hb⟩:=F93_some un hu
  cases b with
  | false=>exact ⟨4,by simp only [F74,hb,zE,yx,zH],λh=>by cases h⟩
  | true =>
    by_cases h1:uv<1\/4294967295<uv
    . refine ⟨2,?_,λh=>by cases h⟩
      have:(decide (uv<1)||decide (4294967295<uv))=true:=by simpa using h1
      simp only [F74,hb,zE,yA,zK,this,zH]
    . have c1:(decide (uv<1)||decide (4294967295<uv))=false:=by simp;omega
      by_cases h2:ls.length=0\/6<ls.length
      . refine ⟨8,?_,λh=>by cases h⟩
        have:(decide (((ls.length:Nat):Int)=0)||decide ((6:Int)<((ls.length:Nat):Int)))=true:=by
          rw [Bool.or_eq_true,xh,xh];omega
        simp only [F74,hb,zE,yA,zK,c1,this,zH]
      . have c2:(decide (((ls.length:Nat):Int)=0)||decide ((6:Int)<((ls.length:Nat):Int)))=false:=by
          rw [Bool.or_eq_false_iff];exact ⟨z7 (by omega),z7 (by omega)⟩
        obtain ⟨r,hr,hq⟩:=L74_ex (un,uv,ls,()) (by show ls.length<=6;omega)
        simp only at hr hq
        cases r with
        | inr q =>
          refine ⟨q.1.1,?_,λh=>absurd h hq⟩
          simp only [F74,hb,zE,yA,zK,c1,c2,hr]
        | inl q =>
          obtain ⟨rfl,U⟩:=hq
          cases h3:has1 ls with
          | false=>exact ⟨4,by simp only [F74,hb,zE,yA,zK,c1,c2,hr,h3,yx,zH],λh=>by cases h⟩
          | true =>
            by_cases h4:40<(xD ls).1\/1200<(xD ls).2
            . refine ⟨8,?_,λh=>by cases h⟩
              have:(decide (40<(xD ls).1)||decide (1200<(xD ls).2))=true:=by simpa using h4
              simp only [F74,hb,zE,yA,zK,c1,c2,hr,h3,this,zH]
            . have c3:(decide (40<(xD ls).1)||decide (1200<(xD ls).2))=false:=by simp;omega
              refine ⟨0,by simp only [F74,hb,zE,yA,zK,c1,c2,hr,h3,c3],λ_=>?_⟩
              have hm:∀ b∈ls,zl b.1=true/\Right (yI b)/\b.2.1<=uv:=λb hb'=>by
                obtain ⟨i,hi,rfl⟩:=List.getElem_of_mem hb'
                have:=U.each i hi
                simp only [xo,List.getElem?_eq_getElem hi,Option.getD_some] at this
                exact this
              exact {
                good:=⟨by show ls.length<=6;omega,rise_of U.rise,λb hb'=>(hm b hb').2.1,by show 1<=uv/\uv<=4294967295;omega,λb hb'=>(hm b hb').2.2⟩
                user:=F93_good hb hu
                names:=λb hb'=>(hm b hb').1
                inb:=by
                  unfold has1 at h3
                  obtain ⟨b,hb1,hb2⟩:=List.any_eq_true.1 h3
                  exact ⟨b,hb1,of_decide_eq_true hb2⟩
                room:=by
                  show wth ls=true
                  unfold wth
                  rw [held_eq]
                  simp only [yo,xh]
                  omega }
theorem wz {s:Tx} (h:zl s=true):s.length<=24:=by
 unfold zl at h
 simp only [yo,xh] at h
 omega
theorem user_le {s:Tx} (h:yl s=true):s.length<=24:=by
 unfold yl at h
 simp only [yo,xh] at h
 omega
theorem F47_eq {u:Usr} (G:Fine u):F47 ((u,()),())=some (0,()):=by
 obtain ⟨un,uv,ls,⟨⟩⟩:=u
 have hF:=zO
 have g1:=G.good.few
 have g2:=G.good.valid
 have g3:=G.good.rise
 have g4:=G.good.each
 have g5:=G.good.below
 have g6:=G.names
 have g7:=G.inb
 have g8:=G.room
 have e32:=uF un (Nat.le_trans (user_le G.user) (by decide))
 rw [show yl un=true from G.user] at e32
 simp only at g1 g2 g3 g4 g5 g6 g7 g8
 have c1:(decide (uv<1)||decide (4294967295<uv))=false:=by simp;omega
 have hpos:1<=ls.length:=by
  obtain ⟨b,hb,_⟩:=g7
  exact List.length_pos_of_mem hb
 have c2:(decide (((ls.length:Nat):Int)<1)||decide ((6:Int)<((ls.length:Nat):Int)))=false:=by simp;omega
 have hL:L47_0 (((),false,(0:Int),(0:Int),(0:Int),()),((un,uv,ls,()),()))=some (.inl ((has1 ls,(xD ls).1,(xD ls).2,()),())):=by
  unfold L47_0
  refine (zq (f:=B47_0) (λ(b:Bool×(Int×Int)) i=>(((),b.1,b.2.1,b.2.2,(i:Int),()),((un,uv,ls,()),()))) ls (λa b=>.inl (b.1||decide (a.1=inbx),uY b.2 a)) (λb=>.inl ((b.1,b.2.1,b.2.2,()),())) (λ_ _=>True)
   (λb i a _ hi ha=>?_) (λb _=>?_) (by omega) (b:=(false,(0,0))) trivial).trans ?_
  ·refine .inl ⟨_,rfl,trivial,?_⟩
   have hm:a∈ls:=by
    have:=ha yH
    rw [xo,List.getElem?_eq_getElem hi] at this
    rw [<- this]
    exact List.getElem_mem hi
   have e33:=yw a.1 (Nat.le_trans (wz (g6 a hm)) (by decide))
   rw [g6 a hm] at e33
   have e34:=F67_eq (g4 a hm)
   have e35:=F68_eq (yI a) (g4 a hm).few
   unfold yI at e34 e35
   have d0:decide ((i:Int)<((ls.length:Nat):Int))=true:=zX (by omega)
   have d1:decide ((0:Int)<=(i:Int))=true:=zX (by omega)
   have d2:decide (uv<a.2.1)=false:=z7 (by have:=g5 a hm;omega)
   have w1:zZ ((i:Int)+1)=((i+1:Nat):Int):=by rw [zQ (by omega) (by omega)];rfl
   have ha':=ha yH
   have hin:(decide (a.1=([73,78,66,79,88]:List UInt8)))=decide (a.1=inbx):=rfl
   cases i with
   | zero =>
    have p0:decide ((0:Int)<((0:Nat):Int))=false:=rfl
    simp only [B47_0,d0,d1,yE,zH,zu,ha',zE,e33,p0,yA,yx,Bool.false_and,Bool.or_true,Bool.or_self,zK,e34,zV,d2,e35,hin,w1,uY]
   | succ j =>
    have p0:decide ((0:Int)<((j+1:Nat):Int))=true:=zX (by omega)
    have w2:zZ (((j+1:Nat):Int)-1)=(j:Int):=by rw [zQ (by omega) (by omega)];omega
    have p1:decide ((0:Int)<=(j:Int))=true:=zX (by omega)
    have p2:decide ((j:Int)<((ls.length:Nat):Int))=true:=zX (by omega)
    have hr:=getDb_lt g3 (Nat.lt_succ_self j) hi yH
    rw [show j.succ=j+1 from rfl,ha'] at hr
    have p3:Op.bytesLess a.1 (ls.getD j yH).1=false:=by
     rw [bl_eq]
     exact z7 (List.lt_asymm hr)
    have p4:decide (a.1=(ls.getD j yH).1)=false:=z7 λh=>by
     rw [h] at hr
     exact List.lt_irrefl _ hr
    simp only [B47_0,d0,d1,yE,zH,zu,ha',zE,e33,p0,w2,p1,p2,p3,p4,Bool.true_or,yA,Bool.and_false,Bool.or_self,zK,e34,zV,d2,e35,hin,w1,uY]
  ·simp only [B47_0,Int.lt_irrefl,yu,zK]
  ·have:∀ (l:List Bx) (b:Bool×(Int×Int)),zd (λ(a:Bx) (b:Bool×(Int×Int))=>(.inl (b.1||decide (a.1=inbx),uY b.2 a):(Bool×(Int×Int))⊕R13)) (λb=>.inl ((b.1,b.2.1,b.2.2,()),())) b l=.inl ((b.1||has1 l,(l.foldl uY b.2).1,(l.foldl uY b.2).2,()),()):=λl=>by
    induction l with
    | nil=>intro b;simp [zd,has1]
    | cons a t ih =>
     intro b
     simp only [zd]
     rw [ih]
     simp only [has1,List.any_cons,List.foldl_cons,Bool.or_assoc]
   rw [this]
   simp only [Bool.false_or,xD]
 have h3:has1 ls=true:=by
  obtain ⟨b,hb1,hb2⟩:=g7
  exact List.any_eq_true.2 ⟨b,hb1,zX hb2⟩
 unfold wth at g8
 rw [held_eq] at g8
 simp only [yo,xh] at g8
 have c3:(decide (40<(xD ls).1)||decide (1200<(xD ls).2))=false:=by simp;omega
 simp only [F47,e32,zE,yA,zK,c1,c2,hL,h3,c3]
theorem or64 (a b:Nat) (ha:a<4611686018427387904) (hb:b<4611686018427387904):wV .or .i64 (a:Int) (b:Int)=((a ||| b:Nat):Int):=by
 have hx:a ||| b<4611686018427387904:=Nat.or_lt_two_pow (n:=62) ha hb
 have e:wV .or .i64 (a:Int) (b:Int)=zZ ((BitVec.ofInt 64 (a:Int) ||| BitVec.ofInt 64 (b:Int)).toNat:Int):=rfl
 rw [e,BitVec.ofInt_natCast,BitVec.ofInt_natCast,BitVec.toNat_or,BitVec.toNat_ofNat,BitVec.toNat_ofNat]
 rw [Nat.mod_eq_of_lt (show a<2^64 by omega),Nat.mod_eq_of_lt (show b<2^64 by omega)]
 exact zQ (by omega) (by omega)
theorem vU (l:List UInt8) (n:Nat):F162 (((),(n:Int),()),((l,()),()))=some (if l.length<n then (.inr (3,()),((l,()),())) else (.inl (l.take n),((l.drop n,()),()))):=by
 by_cases h:l.length<n
 ·have c0:decide (((l.length:Nat):Int)<(n:Int))=true:=zX (by omega)
  simp only [F162,c0,zH,zE,h,↓reduceIte]
 ·have c0:decide (((l.length:Nat):Int)<(n:Int))=false:=z7 (by omega)
  have c1:decide ((0:Int)<=(n:Int))=true:=zX (by omega)
  have c2:decide ((n:Int)<=((l.length:Nat):Int))=true:=zX (by omega)
  simp only [F162,c0,zK,zE,h,↓reduceIte,c1,c2,Int.le_refl,zV,yE,zH,zu]
  rw [show (l.drop n).take (l.length-n)=l.drop n from List.take_of_length_le (by rw [u0];omega)]
theorem L138_ex (l bs:List UInt8) (hb:bs.length<=4):∃ v:Nat,L138_0 (((),(0:Int),bs,((bs.length:Nat):Int),(0:Int),()),((l,()),()))=some (((),(v:Int),()),((l,()),()))/\v<256^bs.length:=by
 have hF:=zO
 obtain ⟨r,h1,h2⟩:=yD (f:=B138_0) (λp=>∃ i v:Nat,i<=bs.length/\v<256^i/\p=(((),(v:Int),bs,((bs.length:Nat):Int),(i:Int),()),((l,()),()))) (λp=>bs.length-p.1.2.2.2.2.1.toNat)
  (λr=>∃ v:Nat,r=(((),(v:Int),()),((l,()),()))/\v<256^bs.length) (λp ⟨i,v,hi,hv,hp⟩=>by
   subst hp
   rcases Nat.lt_or_ge i bs.length with h | h
   ·left
    have hp4:(256:Nat)^i<=256^3:=Nat.pow_le_pow_right (by omega) (by omega)
    have d0:decide ((i:Int)<((bs.length:Nat):Int))=true:=zX (by omega)
    have d1:decide ((0:Int)<=(i:Int))=true:=zX (by omega)
    have w1:zZ ((i:Int)+1)=((i+1:Nat):Int):=by rw [zQ (by omega) (by omega)];rfl
    have hv':v*256<4611686018427387904:=by
     have:(256:Nat)^3=16777216:=rfl
     omega
    have w2:zZ ((v:Int)*2^8)=((v*256:Nat):Int):=by rw [zQ (by omega) (by omega)];omega
    have hc:=(bs.getD i 0).toNat_lt
    have o:wV .or .i64 ((v*256:Nat):Int) (((bs.getD i 0).toNat:Nat):Int)=((v*256 ||| (bs.getD i 0).toNat:Nat):Int):=or64 _ _ hv' (by omega)
    refine ⟨_,by simp only [B138_0,d0,d1,yE,zH,zu,w1,w2,o],⟨i+1,v*256 ||| (bs.getD i 0).toNat,h,?_,rfl⟩,?_⟩
    ·have e:(256:Nat)^(i+1)=2^(8*(i+1)):=by rw [Nat.pow_mul]
     rw [e]
     refine Nat.or_lt_two_pow ?_ ?_
     ·rw [<- e,Nat.pow_succ]
      exact Nat.mul_lt_mul_of_pos_right hv (by omega)
     ·refine Nat.lt_of_lt_of_le (show (bs.getD i 0).toNat<2^8 from hc) (Nat.pow_le_pow_right (by omega) (by omega))
    ·simp only;omega
   ·right
    have hi':i=bs.length:=by omega
    subst hi'
    exact ⟨(((),(v:Int),()),((l,()),())),by simp only [B138_0,Int.lt_irrefl,yu,zK],v,rfl,hv⟩)
  (p:=(((),(0:Int),bs,((bs.length:Nat):Int),(0:Int),()),((l,()),()))) ⟨0,0,Nat.zero_le _,by simp,rfl⟩ (by simp only;omega)
 obtain ⟨v,rfl,hv⟩:=h2
 exact ⟨v,h1,hv⟩
theorem vV (l:List UInt8) (n:Nat) (hn:n<=4):∃ r l',F138 (((),(n:Int),()),((l,()),()))=some (r,((l',()),()))/\∀ v,r=.inl v->∃ k:Nat,v=(k:Int)/\k<256^n:=by
 have e:=vU l n
 by_cases h:l.length<n
 ·rw [if_pos h] at e
  exact ⟨.inr (3,()),l,by simp only [F138,e,zE],λv hv=>by cases hv⟩
 ·rw [if_neg h] at e
  have ht:(l.take n).length=n:=by rw [yy];omega
  obtain ⟨v,h1,h2⟩:=L138_ex (l.drop n) (l.take n) (by omega)
  rw [ht] at h2
  exact ⟨.inl (v:Int),l.drop n,by simp only [F138,e,zE,h1],λw hw=>by cases hw;exact ⟨v,rfl,h2⟩⟩
theorem F137_ex (l:List UInt8):∃ r l',F137 (((),()),((l,()),()))=some (r,((l',()),()))/\∀ s,r=.inl s->s.length<=255:=by
 obtain ⟨r,l1,e1,h1⟩:=vV l 1 (by omega)
 rw [show ((1:Nat):Int)=1 from rfl] at e1
 cases r with
 | inr q=>exact ⟨.inr (q.1,()),l1,by simp only [F137,e1,zE],λs hs=>by cases hs⟩
 | inl v =>
  obtain ⟨k,rfl,hk⟩:=h1 v rfl
  have e2:=vU l1 k
  by_cases h:l1.length<k
  ·rw [if_pos h] at e2
   exact ⟨.inr (3,()),l1,by simp only [F137,e1,zE,e2],λs hs=>by cases hs⟩
  ·rw [if_neg h] at e2
   refine ⟨.inl (l1.take k),l1.drop k,by simp only [F137,e1,zE,e2],λs hs=>?_⟩
   cases hs
   rw [yy]
   omega
theorem F54_eq' (l:List UInt8) (h:l.length<=100000):F54 ((l,()),())=some ((),(l,())):=by
 have hb:zC (0+l.length) 1=true:=zU (by omega)
 cases l with
 | nil=>simp only [F54,List.isEmpty_nil,zH,hb,List.append_nil,zS]
 | cons a t=>simp only [F54,List.isEmpty_cons,zK,hb,zH,List.nil_append]
theorem F139_ex (l:List UInt8):∃ r l',F139 (((),()),((l,()),()))=some (r,((l',()),())):=by
 obtain ⟨r,l1,e1,h1⟩:=vV l 2 (by omega)
 rw [show ((2:Nat):Int)=2 from rfl] at e1
 cases r with
 | inr q=>exact ⟨.inr (q.1,()),l1,by simp only [F139,e1,zE]⟩
 | inl v =>
  obtain ⟨k,rfl,hk⟩:=h1 v rfl
  have e2:=vU l1 k
  by_cases h:l1.length<k
  ·rw [if_pos h] at e2
   exact ⟨.inr (3,()),l1,by simp only [F139,e1,zE,e2]⟩
  ·rw [if_neg h] at e2
   have e3:=F54_eq' (l1.take k) (by rw [yy];omega)
   exact ⟨.inl (l1.take k),l1.drop k,by simp only [F139,e1,zE,e2,e3]⟩
abbrev NmT:Type:=Tx×Int×Unit×Unit
abbrev BnT:Type:=Tx×Int×Int×Unit×Unit
theorem L136_1_ex (l:List UInt8) (N:NmT) (bxs:List Bx) (B:BnT) (c0 i0:Int) (cnt:Nat) (hc:cnt<=255) :
  ∃ r,L136_1 (((),(),(),c0,i0,(cnt:Int),(0:Int),()),((l,()),N,bxs,B,([]:List Ltr),()))=some r /\
   match r with
   | .inl q=>∃ l' ls',q=(((),(),(),c0,i0,()),((l',()),N,bxs,B,ls',()))
   | .inr q=>∃ e l',q=(((e,()),()),((l',()),N,bxs,())):=by
 obtain ⟨nn,nv,⟨⟩,⟨⟩⟩:=N
 obtain ⟨bn,bv,bx,⟨⟩,⟨⟩⟩:=B
 have hF:=zO
 unfold L136_1
 refine yD (f:=wY) (λp=>∃ (i:Nat) (l':List UInt8) (ls:List Ltr),i<=cnt/\ls.length<=i/\p=(((),(),(),c0,i0,(cnt:Int),(i:Int),()),((l',()),(nn,nv,(),()),bxs,(bn,bv,bx,(),()),ls,()))) (λp=>cnt-p.1.2.2.2.2.2.2.1.toNat) _ ?_
  ⟨0,l,[],Nat.zero_le _,Nat.le_refl _,rfl⟩ (by simp only;omega)
 rintro p ⟨i,l',ls,hi,hl,rfl⟩
 rcases Nat.lt_or_ge i cnt with h | h
 ·have d0:decide ((i:Int)<(cnt:Int))=true:=zX (by omega)
  have w1:zZ ((i:Int)+1)=((i+1:Nat):Int):=by rw [zQ (by omega) (by omega)];rfl
  obtain ⟨r1,l1,e1,-⟩:=vV l' 4 (by omega)
  rw [show ((4:Nat):Int)=4 from rfl] at e1
  cases r1 with
  | inr q=>exact .inr ⟨.inr (((q.1,()),()),((l1,()),(nn,nv,(),()),bxs,())),by simp only [wY,d0,zH,e1,zE],_,_,rfl⟩
  | inl v1 =>
   obtain ⟨r2,l2,e2,-⟩:=vV l1 1 (by omega)
   rw [show ((1:Nat):Int)=1 from rfl] at e2
   cases r2 with
   | inr q=>exact .inr ⟨.inr (((q.1,()),()),((l2,()),(nn,nv,(),()),bxs,())),by simp only [wY,d0,zH,e1,zE,e2],_,_,rfl⟩
   | inl v2 =>
    obtain ⟨r3,l3,e3⟩:=F139_ex l2
    cases r3 with
    | inr q=>exact .inr ⟨.inr (((q.1,()),()),((l3,()),(nn,nv,(),()),bxs,())),by simp only [wY,d0,zH,e1,zE,e2,e3],_,_,rfl⟩
    | inl v3 =>
     have hb:∀ x:Ltr,zC (ls.length+[x].length) 40=true:=λx=>zU (by simp only [vx];omega)
     refine .inl ⟨_,by simp only [wY,d0,zH,e1,zE,e2,e3,hb,w1];rfl,⟨i+1,l3,_,h,?_,rfl⟩,?_⟩
     ·rw [yS,vx];omega
     ·simp only;omega
 ·have hi':i=cnt:=by omega
  subst hi'
  exact .inr ⟨.inl (((),(),(),c0,i0,()),((l',()),(nn,nv,(),()),bxs,(bn,bv,bx,(),()),ls,())),by simp only [wY,Int.lt_irrefl,yu,zK],_,_,rfl⟩
theorem L136_0_ex (l:List UInt8) (N:NmT) (cnt:Nat) (hc:cnt<=255) :
  ∃ r,L136_0 (((),(),(cnt:Int),(0:Int),()),((l,()),N,([]:List Bx),()))=some r /\
   match r with
   | .inl q=>∃ l' ls',q=(((),(),()),((l',()),N,ls',()))
   | .inr q=>∃ e l' ls',q=(((e,()),()),((l',()),N,ls',())):=by
 obtain ⟨nn,nv,⟨⟩,⟨⟩⟩:=N
 have hF:=zO
 unfold L136_0
 refine yD (f:=xN) (λp=>∃ (i:Nat) (l':List UInt8) (ls:List Bx),i<=cnt/\ls.length<=i/\p=(((),(),(cnt:Int),(i:Int),()),((l',()),(nn,nv,(),()),ls,()))) (λp=>cnt-p.1.2.2.2.1.toNat) _ ?_
  ⟨0,l,[],Nat.zero_le _,Nat.le_refl _,rfl⟩ (by simp only;omega)
 rintro p ⟨i,l',ls,hi,hl,rfl⟩
 rcases Nat.lt_or_ge i cnt with h | h
 ·have d0:decide ((i:Int)<(cnt:Int))=true:=zX (by omega)
  have w1:zZ ((i:Int)+1)=((i+1:Nat):Int):=by rw [zQ (by omega) (by omega)];rfl
  obtain ⟨r0,l0,e0,-⟩:=F137_ex l'
  cases r0 with
  | inr q=>exact .inr ⟨.inr (((q.1,()),()),((l0,()),(nn,nv,(),()),ls,())),by simp only [xN,d0,zH,e0,zE],_,_,_,rfl⟩
  | inl v0 =>
  obtain ⟨r1,l1,e1,-⟩:=vV l0 4 (by omega)
  rw [show ((4:Nat):Int)=4 from rfl] at e1
  cases r1 with
  | inr q=>exact .inr ⟨.inr (((q.1,()),()),((l1,()),(nn,nv,(),()),ls,())),by simp only [xN,d0,zH,e0,e1,zE],_,_,_,rfl⟩
  | inl v1 =>
   obtain ⟨r2,l2,e2,-⟩:=vV l1 4 (by omega)
   rw [show ((4:Nat):Int)=4 from rfl] at e2
   cases r2 with
   | inr q=>exact .inr ⟨.inr (((q.1,()),()),((l2,()),(nn,nv,(),()),ls,())),by simp only [xN,d0,zH,e0,e1,zE,e2],_,_,_,rfl⟩
   | inl v2 =>
    obtain ⟨r3,l3,e3,h3⟩:=vV l2 1 (by omega)
    rw [show ((1:Nat):Int)=1 from rfl] at e3
    cases r3 with
    | inr q=>exact .inr ⟨.inr (((q.1,()),()),((l3,()),(nn,nv,(),()),ls,())),by simp only [xN,d0,zH,e0,e1,zE,e2,e3],_,_,_,rfl⟩
    | inl v3 =>
     obtain ⟨k,rfl,hk⟩:=h3 v3 rfl
     obtain ⟨r4,e4,h4⟩:=L136_1_ex l3 (nn,nv,(),()) ls (v0,v1,v2,(),()) (cnt:Int) (i:Int) k (by omega)
     cases r4 with
     | inr q =>
      obtain ⟨e,l4,rfl⟩:=h4
      exact .inr ⟨.inr (((e,()),()),((l4,()),(nn,nv,(),()),ls,())),by simp only [xN,d0,zH,e0,e1,zE,e2,e3,e4],_,_,_,rfl⟩
     | inl q =>
      obtain ⟨l4,ls4,rfl⟩:=h4
      have hb:∀ x:Bx,zC (ls.length+[x].length) 56=true:=λx=>zU (by simp only [vx];omega)
      refine .inl ⟨_,by simp only [xN,d0,zH,e0,e1,zE,e2,e3,e4,hb,w1];rfl,⟨i+1,l4,_,h,?_,rfl⟩,?_⟩
      ·rw [yS,vx];omega
      ·simp only;omega
 ·have hi':i=cnt:=by omega
  subst hi'
  exact .inr ⟨.inl (((),(),()),((l',()),(nn,nv,(),()),ls,())),by simp only [xN,Int.lt_irrefl,yu,zK],_,_,rfl⟩
theorem rdR_ex (l:List UInt8):∃ r,rdR l=some r/\r.2.2.1.1.length<=255:=by
 unfold rdR
 obtain ⟨r0,l0,e0,h0⟩:=F137_ex l
 cases r0 with
 | inr q=>exact ⟨_,by simp only [F136,e0,zE];rfl,Nat.zero_le _⟩
 | inl v0 =>
  have hv:=h0 v0 rfl
  obtain ⟨r1,l1,e1,-⟩:=vV l0 4 (by omega)
  rw [show ((4:Nat):Int)=4 from rfl] at e1
  cases r1 with
  | inr q=>exact ⟨_,by simp only [F136,e0,e1,zE];rfl,Nat.zero_le _⟩
  | inl v1 =>
   obtain ⟨r3,l3,e3,h3⟩:=vV l1 1 (by omega)
   rw [show ((1:Nat):Int)=1 from rfl] at e3
   cases r3 with
   | inr q=>exact ⟨_,by simp only [F136,e0,e1,zE,e3];rfl,hv⟩
   | inl v3 =>
    obtain ⟨k,rfl,hk⟩:=h3 v3 rfl
    obtain ⟨r4,e4,h4⟩:=L136_0_ex l3 (v0,v1,(),()) k (by omega)
    cases r4 with
    | inr q =>
     obtain ⟨e,l4,ls4,rfl⟩:=h4
     exact ⟨_,by simp only [F136,e0,e1,zE,e3,e4];rfl,hv⟩
    | inl q =>
     obtain ⟨l4,ls4,rfl⟩:=h4
     exact ⟨_,by simp only [F136,e0,e1,zE,e3,e4];rfl,hv⟩
theorem rd_ok (l:List UInt8):rdOK l=true/\(vM l).1.length<=255:=by
 obtain ⟨r,h1,h2⟩:=rdR_ex l
 unfold rdOK vM
 rw [h1]
 exact ⟨rfl,h2⟩
theorem F119_ex (l:List UInt8):∃ u e,F119 ((l,()),())=some ((u,e,()),())/\(e=0->Fine u):=by
 obtain ⟨h1,h2⟩:=rd_ok l
 by_cases h3:rdE l=0
 ·obtain ⟨e,h4,h5⟩:=F74_ex ((vM l).1,(vM l).2.1,(vM l).2.2.1,()) (Nat.le_trans h2 (by decide))
  by_cases he:e=0
  ·subst he
   exact ⟨_,0,by simp only [F119,h1,zH,h3,zV,h4,zE,yA,zK],h5⟩
  ·exact ⟨_,e,by simp only [F119,h1,zH,h3,zV,h4,zE,z7 he,yx];rfl,λh=>absurd h he⟩
 ·exact ⟨_,rdE l,by simp only [F119,h1,zH,z7 h3,zK,zE,yx];rfl,λh=>absurd h h3⟩
def OkP {α:Type} (x:Option α) (P:α->Prop):Prop:=∃ a,x=some a/\P a
theorem y4 {α:Type} {a:α} {P:α->Prop} (h:P a):OkP (some a) P:=⟨a,rfl,h⟩
theorem ok_b1 {α β:Type} {x:Option α} {f:α->Option β} {P:β->Prop} {a:α} (h:x=some a) (h2:OkP (f a) P):OkP (x.bind f) P:=by
 subst h;exact h2
theorem ok_b2 {β:Type} {x:Option (Bool×Unit)} {f:Bool×Unit->Option β} {P:β->Prop} (h:∃ b,x=some (b,())) (h2:∀ b,OkP (f (b,())) P):OkP (x.bind f) P:=by
 obtain ⟨b,rfl⟩:=h;exact h2 b
theorem ok_b3 {α β:Type} {x:Option α} {f:α->Option β} {P:β->Prop} (Q:α->Prop) (h:OkP x Q) (h2:∀ a,Q a->OkP (f a) P):OkP (x.bind f) P:=by
 obtain ⟨a,rfl,ha⟩:=h;exact h2 a ha
theorem tQ {α:Type} {c:Bool} {x y:Option α} {P:α->Prop} (h1:OkP x P) (h2:OkP y P):OkP (cond c x y) P:=by
 cases c
 ·exact h2
 ·exact h1
theorem ok_condT {α:Type} {c:Bool} {x y:Option α} {P:α->Prop} (h:c=true) (h1:OkP x P):OkP (cond c x y) P:=by
 subst h;exact h1
theorem ok_condF {α:Type} {c:Bool} {x y:Option α} {P:α->Prop} (h:c=false) (h1:OkP y P):OkP (cond c x y) P:=by
 subst h;exact h1
theorem ok_cond' {α:Type} {c:Bool} {x y:Option α} {P:α->Prop} (h1:c=true->OkP x P) (h2:c=false->OkP y P):OkP (cond c x y) P:=by
 cases c
 ·exact h2 rfl
 ·exact h1 rfl
structure Chk (d:Dd):Prop where
 user:yl d.2.1=true
 box:d.1=2->zl d.2.2.1=true
abbrev Mid:Type:=(Unit×(Unit×Unit)×Bool×Unit)×(Dd×Unit)
def isMid (d:Dd) (a:Mid):Prop:=∃ b,a=(((),((),()),b,()),(d,()))/\(b=false->Chk d)
abbrev Mid27:Type:=((Unit×Unit)×(Dd×Unit))⊕((Int×Unit)×Unit)
def isMid27 (d:Dd) (a:Mid27):Prop:=(∃ e,a=.inr ((e,()),())/\(e=0->Chk d/\d.1≠8))\/(a=.inl (((),()),(d,()))/\Chk d/\d.1=8)
theorem F117_ex (d:Dd) (hu:d.2.1.length<=maxLen):∃ e,xl ((d,()),())=some (e,())/\(e=0->Chk d/\(d.1=8->∃ u,F119 ((d.2.2.2.2.2.2.2.2.2.1,()),())=some ((u,0,()),())/\u.1=d.2.1/\Fine u)):=by
 obtain ⟨dd,du,db,dt,uid,how,fl,ds,de,by',⟨⟩⟩:=d
 have h28:∀ l:List Int,l.length<=32->ui ((l,(),()),((dd,du,db,dt,uid,how,fl,ds,de,by',()),()))=some (decide (dd∈l),((dd,du,db,dt,uid,how,fl,ds,de,by',()),())):=λl hl=>F132_eq l _ hl
 suffices h:OkP (xl (((dd,du,db,dt,uid,how,fl,ds,de,by',()),()),())) λa=>a.2=()/\(a.1=0->Chk (dd,du,db,dt,uid,how,fl,ds,de,by',())/\(dd=8->∃ u,F119 ((by',()),())=some ((u,0,()),())/\u.1=du/\Fine u)) by
  obtain ⟨a,ha,_,h2⟩:=h
  exact ⟨a.1,ha,h2⟩
 unfold xl
 dsimp only
 refine ok_b1 (h28 _ (by decide)) ?_
 dsimp only
 refine ok_b3 (isMid27 (dd,du,db,dt,uid,how,fl,ds,de,by',())) ?_ ?_
 rotate_left
 ·rintro a (⟨e,rfl,he⟩ | ⟨rfl,hC,h8⟩)
  ·exact y4 ⟨rfl,λh=>⟨(he h).1,λh8=>absurd h8 (he h).2⟩⟩
  ·dsimp only
   obtain ⟨u,e,h75,hF⟩:=F119_ex by'
   refine ok_b1 h75 ?_
   dsimp only
   refine ok_cond' (λhc=>y4 ⟨rfl,λh=>by simp at h⟩) λhc=>y4 ⟨rfl,λh=>⟨hC,λ_=>?_⟩⟩
   dsimp only at h
   subst h
   simp only [zV,Bool.true_and,Bool.not_eq_false',xh] at hc
   exact ⟨u,h75,hc,hF rfl⟩
 refine tQ (y4 (.inl ⟨14,rfl,λh=>by simp at h⟩)) ?_
 refine ok_b3 (isMid (dd,du,db,dt,uid,how,fl,ds,de,by',())) ?_ ?_
 ·obtain ⟨b,hb⟩:=F93_some du hu
  refine ok_b1 hb ?_
  dsimp only
  cases b with
  | false=>exact ok_condT rfl (y4 ⟨_,rfl,λh=>by simp at h⟩)
  | true =>
   have hU:=F93_good hb hu
   refine ok_condF rfl ?_
   by_cases h2:dd∈[(2:Int),3,4,5,6,7]
   ·rw [zX h2]
    refine ok_condT rfl ?_
    refine ok_b1 (F94_eq db) ?_
    dsimp only
    cases hB:zl db with
    | false=>exact ok_condT rfl (y4 ⟨_,rfl,λh=>by simp at h⟩)
    | true =>
     have hC:Chk (dd,du,db,dt,uid,how,fl,ds,de,by',()):=⟨hU,λ_=>hB⟩
     repeat' first
      | exact y4 ⟨_,rfl,λ_=>hC⟩
      | (refine ok_b1 (h28 _ (by decide)) ?_;dsimp only)
      | (refine ok_b1 (F94_eq _) ?_;dsimp only)
      | refine tQ ?_ ?_
   ·rw [z7 h2]
    have hC:Chk (dd,du,db,dt,uid,how,fl,ds,de,by',()):=⟨hU,λh=>absurd (show dd∈[(2:Int),3,4,5,6,7] by rw [show dd=2 from h];decide) h2⟩
    refine ok_condF rfl ?_
    repeat' first
     | exact y4 ⟨_,rfl,λ_=>hC⟩
     | (refine ok_b1 (h28 _ (by decide)) ?_;dsimp only)
     | (refine ok_b1 (F94_eq _) ?_;dsimp only)
     | refine tQ ?_ ?_
 rintro _ ⟨b,rfl,hC⟩
 dsimp only
 refine ok_cond' (λ_=>y4 (.inl ⟨4,rfl,λh=>by simp at h⟩)) λhb=>?_
 have hC:=hC hb
 refine ok_b3 (isMid (dd,du,db,dt,uid,how,fl,ds,de,by',())) ?_ ?_
 ·repeat' first
   | exact y4 ⟨_,rfl,λ_=>hC⟩
   | (refine ok_b1 (h28 _ (by decide)) ?_;dsimp only)
   | (refine ok_b2 (F134_some _ _ _ _) λb=>?_;dsimp only)
   | refine ok_condT (zX rfl) ?_
   | refine tQ ?_ ?_
 rintro _ ⟨b,rfl,-⟩
 dsimp only
 refine tQ (y4 (.inl ⟨2,rfl,λh=>by simp at h⟩)) ?_
 refine ok_b1 (h28 _ (by decide)) ?_
 dsimp only
 refine tQ (y4 (.inl ⟨6,rfl,λh=>by simp at h⟩)) ?_
 refine ok_b1 (h28 _ (by decide)) ?_
 dsimp only
 refine tQ (y4 (.inl ⟨2,rfl,λh=>by simp at h⟩)) ?_
 refine ok_b1 (h28 _ (by decide)) ?_
 dsimp only
 refine ok_cond' (λh=>y4 (.inl ⟨0,rfl,λ_=>⟨hC,λh8=>?_⟩⟩)) λh=>y4 (.inr ⟨rfl,hC,?_⟩)
 ·rw [show dd=8 from h8] at h
  simp at h
 ·simpa using h
def tot (ls:List Bx):Nat:=(ls.map λb=>b.2.2.2.1.length).sum
def byts (ls:List Ltr):Nat:=(ls.map λl=>l.2.2.1.length).sum
def bts (ls:List Bx):Nat:=(ls.map λb=>byts b.2.2.2.1).sum
theorem size_from:∀ (ls:List Ltr) (n:Nat),(∀ l∈ls,l.2.2.1.length<=600)->n+600*ls.length<=1000000 ->
  zd (λ(l:Ltr) n=>(.inl (zZ (n+(l.2.2.1.length:Int))):Int⊕Int)) id (n:Int) ls=((n+byts ls:Nat):Int)
 | [],n,_,_=>by simp [zd,byts]
 | a::t,n,h,hn=>by
  have ha:=h a (List.mem_cons_self ..)
  rw [List.length_cons] at hn
  have w:zZ ((n:Int)+((a.2.2.1.length:Nat):Int))=((n+a.2.2.1.length:Nat):Int):=by rw [zQ (by omega) (by omega)];rfl
  simp only [zd,w]
  rw [size_from t (n+a.2.2.1.length) (λl hl=>h l (List.mem_cons_of_mem _ hl)) (by omega)]
  simp only [byts,List.map_cons,List.sum_cons]
  omega
theorem byts_le:∀ (ls:List Ltr),(∀ l∈ls,l.2.2.1.length<=600)->byts ls<=600*ls.length
 | [],_=>by simp [byts]
 | a::t,h=>by
  have ha:=h a (List.mem_cons_self ..)
  have:=byts_le t (λl hl=>h l (List.mem_cons_of_mem _ hl))
  simp only [byts,List.map_cons,List.sum_cons,List.length_cons] at this ⊢
  omega
theorem size_eq {ls:List Ltr} (h:∀ l∈ls,l.2.2.1.length<=600) (hl:ls.length<=32):size ls=(byts ls:Int):=by
 have:=size_from ls 0 h (by omega)
 rw [Nat.zero_add] at this
 exact this
theorem held_sums:∀ (ls:List Bx) (a b:Nat),(∀ x∈ls,Right (yI x))->a+32*ls.length<=1000000->b+19200*ls.length<=1000000 ->
  ls.foldl uY ((a:Int),(b:Int))=(((a+tot ls:Nat):Int),((b+bts ls:Nat):Int))
 | [],a,b,_,_,_=>by simp [tot,bts]
 | x::t,a,b,h,ha,hb=>by
  have R:=h x (List.mem_cons_self ..)
  have r1:x.2.2.2.1.length<=32:=R.few
  have r2:∀ l∈x.2.2.2.1,l.2.2.1.length<=600:=λl hl=>(R.each l hl).2.2.2
  have r3:=byts_le _ r2
  rw [List.length_cons] at ha hb
  have w1:zZ ((a:Int)+((x.2.2.2.1.length:Nat):Int))=((a+x.2.2.2.1.length:Nat):Int):=by rw [zQ (by omega) (by omega)];rfl
  have w2:zZ ((b:Int)+size x.2.2.2.1)=((b+byts x.2.2.2.1:Nat):Int):=by rw [size_eq r2 r1,zQ (by omega) (by omega)];rfl
  rw [List.foldl_cons]
  simp only [uY,w1,w2]
  rw [held_sums t _ _ (λy hy=>h y (List.mem_cons_of_mem _ hy)) (by omega) (by omega)]
  simp only [tot,bts,List.map_cons,List.sum_cons]
  rw [Nat.add_assoc,Nat.add_assoc]
theorem tI {ls:List Bx} (h:∀ x∈ls,Right (yI x)) (hl:ls.length<=6):wth ls=true<->tot ls<=40/\bts ls<=1200:=by
 have e:=held_sums ls 0 0 h (by omega) (by omega)
 have e':xD ls=((tot ls:Int),(bts ls:Int)):=by
  rw [Nat.zero_add,Nat.zero_add] at e
  exact e
 unfold wth
 rw [held_eq,e']
 simp only [yo,xh]
 omega
theorem inbx_right:zl inbx=true:=by decide +kernel
theorem new_fine {user:Tx} (h:yl user=true):Fine (tS user) where
 good:=new_good user
 user:=h
 names:=λb hb=>by
  simp only [tS,List.mem_singleton] at hb
  subst hb
  exact inbx_right
 inb:=⟨(inbx,(1,(1,([],())))),by simp [tS],rfl⟩
 room:=by
  rw [tI (new_good user).each (new_good user).few]
  simp [tS,tot,bts,byts]
theorem boxd_fine {u:Usr} (G:Fine u) {lo:Nat} (hl:lo<u.2.2.1.length) (d:Dd) (h:(boxd u lo d).2.2.1=0):Fine (boxd u lo d).1/\(boxd u lo d).1.1=u.1:=by
 obtain ⟨g1,K,g3⟩:=boxd_good G.good hl d h
 have hm:=v6 hl
 have hw:wth (u.2.2.1.set lo (wa (did (yI (u.2.2.1.getD lo yH)) d).1))=true:=by
  unfold boxd at h
  by_cases h0:(did (yI (u.2.2.1.getD lo yH)) d).2.2=0
  ·rw [if_neg (not_not_intro h0)] at h
   by_cases hw:wth (u.2.2.1.set lo (wa (did (yI (u.2.2.1.getD lo yH)) d).1))=true
   ·exact hw
   ·rw [if_neg hw] at h;exact absurd h (by simp)
  ·rw [if_pos h0] at h
   exact absurd h h0
 rw [g3] at g1 ⊢
 generalize did (yI (u.2.2.1.getD lo yH)) d=r at *
 have hn:(wa r.1).1=(u.2.2.1.getD lo yH).1:=K.name
 refine ⟨{ good:=g1,user:=G.user,names:=λb hb=>?_,inb:=?_,room:=hw },rfl⟩
 ·rcases List.mem_or_eq_of_mem_set hb with h | rfl
  ·exact G.names b h
  ·rw [hn];exact G.names _ hm
 ·obtain ⟨b,hb,hbn⟩:=G.inb
  obtain ⟨i,hi,rfl⟩:=List.getElem_of_mem hb
  by_cases hil:i=lo
  ·subst hil
   refine ⟨wa r.1,List.mem_set hl _,?_⟩
   rw [hn,xo,List.getElem?_eq_getElem hi]
   exact hbn
  ·refine ⟨u.2.2.1[i],?_,hbn⟩
   have:(u.2.2.1.set lo (wa r.1))[i]'(by rw [List.length_set];exact hi)=u.2.2.1[i]:=List.getElem_set_ne (by omega) _
   rw [<- this]
   exact List.getElem_mem _
theorem tot_app (a b:List Bx):tot (a++b)=tot a+tot b:=by simp [tot]
theorem bts_app (a b:List Bx):bts (a++b)=bts a+bts b:=by simp [bts]
theorem tot_cons (a:Bx) (b:List Bx):tot (a::b)=a.2.2.2.1.length+tot b:=by simp [tot]
theorem bts_cons (a:Bx) (b:List Bx):bts (a::b)=byts a.2.2.2.1+bts b:=by simp [bts]
theorem make_fine {u:Usr} (G:Fine u) {lo:Nat} (d:Dd) (h2:d.1=2) (hlo:lo<=u.2.2.1.length) (h3:∀ k,k<lo->(u.2.2.1.getD k yH).1<d.2.2.1) (h4:∀ k,lo<=k->k<u.2.2.1.length->¬ (u.2.2.1.getD k yH).1<d.2.2.1)
  (h6:yp u.2.2.1 d.2.2.1=false->∀ k,k<u.2.2.1.length->(u.2.2.1.getD k yH).1≠d.2.2.1) (hB:zl d.2.2.1=true) (h:(xy u lo d).2.2.1=0):Fine (xy u lo d).1/\(xy u lo d).1.1=u.1:=by
 obtain ⟨g1,g2,g3⟩:=make_good G.good d h2 hlo h3 h4 h6 h
 rw [g3] at g1 ⊢
 have hr:=(tI G.good.each G.good.few).1 G.room
 have e:u.2.2.1.take lo++u.2.2.1.drop lo=u.2.2.1:=List.take_append_drop lo _
 have e1:tot (u.2.2.1.take lo)+tot (u.2.2.1.drop lo)=tot u.2.2.1:=by rw [<- tot_app,e]
 have e2:bts (u.2.2.1.take lo)+bts (u.2.2.1.drop lo)=bts u.2.2.1:=by rw [<- bts_app,e]
 refine ⟨{ good:=g1,user:=G.user,names:=λb hb=>?_,inb:=?_,room:=?_ },rfl⟩
 ·rcases List.mem_append.1 hb with hb | hb
  ·rcases List.mem_append.1 hb with hb | hb
   ·exact G.names b (List.mem_of_mem_take hb)
   ·rw [List.mem_singleton.1 hb];exact hB
  ·exact G.names b (List.mem_of_mem_drop hb)
 ·obtain ⟨b,hb,hbn⟩:=G.inb
  refine ⟨b,?_,hbn⟩
  rw [<- e] at hb
  rcases List.mem_append.1 hb with hb | hb
  ·exact List.mem_append_left _ (List.mem_append_left _ hb)
  ·exact List.mem_append_right _ hb
 ·rw [tI g1.each g1.few]
  simp only [tot_app,bts_app]
  have z1:tot [((d.2.2.1,(u.2.1+1,(1,([],())))):Bx)]=0:=rfl
  have z2:bts [((d.2.2.1,(u.2.1+1,(1,([],())))):Bx)]=0:=rfl
  omega
theorem drop_fine {u:Usr} (G:Fine u) {lo:Nat} (d:Dd) (h2:d.1≠2) (h5:yp u.2.2.1 d.2.2.1=true->lo<u.2.2.1.length/\(u.2.2.1.getD lo yH).1=d.2.2.1) (h:(xy u lo d).2.2.1=0) :
  Fine (xy u lo d).1/\(xy u lo d).1.1=u.1:=by
 obtain ⟨g1,g2⟩:=drop_good G.good d h2 h
 have hq:yp u.2.2.1 d.2.2.1=true/\d.2.2.1≠inbx:=by
  unfold xy at h
  rw [if_neg h2] at h
  cases hh:yp u.2.2.1 d.2.2.1 with
  | false=>rw [hh,if_pos rfl] at h;exact absurd h (by simp)
  | true =>
   rw [hh,if_neg (by simp)] at h
   by_cases hc:d.2.2.1=inbx
   ·rw [if_pos hc] at h;exact absurd h (by simp)
   ·exact ⟨rfl,hc⟩
 obtain ⟨k1,k2⟩:=h5 hq.1
 rw [g2] at g1 ⊢
 have hr:=(tI G.good.each G.good.few).1 G.room
 have hs:=del_sub u.2.2.1 lo
 have e:u.2.2.1.take lo++(u.2.2.1[lo]::u.2.2.1.drop (lo+1))=u.2.2.1:=by
  rw [<- List.drop_eq_getElem_cons k1]
  exact List.take_append_drop lo _
 have e1:tot (u.2.2.1.take lo)+(u.2.2.1[lo].2.2.2.1.length+tot (u.2.2.1.drop (lo+1)))=tot u.2.2.1:=by
  conv=>rhs;rw [<- e]
  rw [tot_app,tot_cons]
 have e2:bts (u.2.2.1.take lo)+(byts u.2.2.1[lo].2.2.2.1+bts (u.2.2.1.drop (lo+1)))=bts u.2.2.1:=by
  conv=>rhs;rw [<- e]
  rw [bts_app,bts_cons]
 refine ⟨{ good:=g1,user:=G.user,names:=λb hb=>G.names b (hs.mem hb),inb:=?_,room:=?_ },rfl⟩
 ·obtain ⟨b,hb,hbn⟩:=G.inb
  refine ⟨b,?_,hbn⟩
  rw [<- e] at hb
  rcases List.mem_append.1 hb with hb | hb
  ·exact List.mem_append_left _ hb
  ·rcases List.mem_cons.1 hb with rfl | hb
   ·exfalso
    rw [xo,List.getElem?_eq_getElem k1] at k2
    exact hq.2 (k2.symm.trans hbn)
   ·exact List.mem_append_right _ hb
 ·rw [tI g1.each g1.few]
  simp only [tot_app,bts_app]
  omega
def pfx (s p:Tx):Bool:=decide (p.length<=s.length)&&decide (s.take p.length=p)
theorem F178_eq (s p:Tx):F178 ((s,p,()),())=some (pfx s p,()):=by
 have e:decide (((p.length:Nat):Int)<=((s.length:Nat):Int))=decide (p.length<=s.length):=by rw [decide_eq_decide];omega
 have c1:decide ((0:Int)<=((p.length:Nat):Int))=true:=zX (by omega)
 unfold pfx
 simp only [F178,e,c1,Bool.true_and,zu]
 cases decide (p.length<=s.length) <;> simp
def vp (nm frm:Tx):Bool:=decide (nm=frm)||pfx nm (frm++[47])
def wj (nm frm tt:Tx):Tx:=if vp nm frm=true then tt++nm.drop frm.length else nm
theorem pfx_le {s p:Tx} (h:pfx s p=true):p.length<=s.length:=by
 unfold pfx at h
 simp only [yo,xh] at h
 exact h.1
theorem F143_eq (nm frm tt:Tx) (h1:nm.length<=1100000) (h2:frm.length<=1100000) (h3:tt.length<=1100000):F143 ((nm,frm,tt,()),())=some ((wj nm frm tt,vp nm frm,()),()):=by
 have f1:fits (frm.length+([47]:List UInt8).length)=true:=zX (by simp<;>omega)
 have e135:F167 ((nm,frm++[47],()),())=some (pfx nm (frm++[47]),()):=by simp only [F167,F178_eq,zE]
 have c1:decide ((0:Int)<=((frm.length:Nat):Int))=true:=zX (by omega)
 have f2:fits (tt.length+(nm.drop frm.length).length)=true:=zX (by rw [u0];omega)
 have t1:(nm.drop frm.length).take (nm.length-frm.length)=nm.drop frm.length:=List.take_of_length_le (by rw [u0];omega)
 unfold wj vp
 by_cases he:nm=frm
 ·subst he
  simp only [F143,f1,Bool.true_or,zH,zV,yA,zK,c1,Int.le_refl,yE,zu,t1,f2,↓reduceIte]
 ·cases hp:pfx nm (frm++[47]) with
  | false =>
   simp only [F143,f1,Bool.true_or,zH,z7 he,yx,e135,zE,hp,zK,Bool.or_self,Bool.false_eq_true,↓reduceIte]
  | true =>
   have hl:=pfx_le hp
   rw [yS] at hl
   have c2:decide (((frm.length:Nat):Int)<=((nm.length:Nat):Int))=true:=zX (by omega)
   simp only [F143,f1,Bool.true_or,zH,z7 he,yx,e135,zE,hp,c1,c2,Int.le_refl,zV,yE,zu,t1,f2,Bool.or_true,↓reduceIte]
def ren (frm tt:Tx) (b:Bx):Bx:=(wj b.1 frm tt,(b.2.1,(b.2.2.1,(b.2.2.2.1,()))))
abbrev R77:Type:=((Unit×Unit×Int×Unit)×((Tx×Int×Unit×Unit)×((Unit×Unit×Unit×Unit)×(List Bx×(List Bx×Unit)))))⊕((Unit×Unit×Unit×Unit)×((Tx×Int×Unit×Unit)×(List Bx×Unit)))
theorem L121_0_ex (un:Tx) (uv:Int) (d:Dd) (ls xs:List Bx) (hl:ls.length<=6) (hn:∀ b∈ls,zl b.1=true) (h2:d.2.2.1.length<=1100000) (h3:d.2.2.2.1.length<=1100000) :
  ∃ r:R77,L121_0 (((),(),(),(0:Int),(),((ls.length:Nat):Int),(0:Int),()),((un,uv,(),()),d,((),(),(),()),ls,xs,()))=some r /\
   match r with
   | .inl q=>∃ n,q=(((),(),n,()),((un,uv,(),()),((),(),(),()),ls.map (ren d.2.2.1 d.2.2.2.1),xs,()))/\∀ b∈ls,zl (wj b.1 d.2.2.1 d.2.2.2.1)=true
   | .inr q=>∃ cur,q=(((),(),(),()),((un,uv,(),()),cur,())):=by
 obtain ⟨dd,du,db,dt,uid,how,fl,ds,de,by',⟨⟩⟩:=d
 simp only at h2 h3 ⊢
 have hF:=zO
 unfold L121_0
 refine yD (f:=wZ) (λp=>∃ (i:Nat) (n:Int),i<=ls.length/\(∀ k,k<i->zl (wj (ls.getD k yH).1 db dt)=true) /\
   p=(((),(),(),n,(),((ls.length:Nat):Int),(i:Int),()),((un,uv,(),()),(dd,du,db,dt,uid,how,fl,ds,de,by',()),((),(),(),()),(ls.take i).map (ren db dt)++ls.drop i,xs,())))
  (λp=>ls.length-p.1.2.2.2.2.2.2.1.toNat) _ ?_ ⟨0,0,Nat.zero_le _,λk hk=>absurd hk (Nat.not_lt_zero _),by simp⟩ (by simp only;omega)
 rintro p ⟨i,n,hi,hk,rfl⟩
 rcases Nat.lt_or_ge i ls.length with h | h
 ·have d0:decide ((i:Int)<((ls.length:Nat):Int))=true:=zX (by omega)
  have d1:decide ((0:Int)<=(i:Int))=true:=zX (by omega)
  have w1:zZ ((i:Int)+1)=((i+1:Nat):Int):=by rw [zQ (by omega) (by omega)];rfl
  have hlen:((ls.take i).map (ren db dt)++ls.drop i).length=ls.length:=by simp;omega
  have hti:((ls.take i).map (ren db dt)).length=i:=by simp;omega
  obtain ⟨⟨bn,bv,bx,bl,⟨⟩⟩,hb⟩:∃ b,ls[i]=b:=⟨_,rfl⟩
  have hcur:(ls.take i).map (ren db dt)++ls.drop i=(ls.take i).map (ren db dt)++((bn,(bv,(bx,(bl,()))))::ls.drop (i+1)):=by
   rw [List.drop_eq_getElem_cons h,hb]
  have hg:((ls.take i).map (ren db dt)++ls.drop i).getD i (([]:List UInt8),((0:Int),((0:Int),(([]:(List Ltr)),()))))=(bn,(bv,(bx,(bl,())))):=by
   rw [hcur,xo,List.getElem?_append_right (by omega),hti,Nat.sub_self]
   rfl
  have hset:∀ x:Bx,((ls.take i).map (ren db dt)++ls.drop i).set i x=(ls.take i).map (ren db dt)++(x::ls.drop (i+1)):=λx=>by
   rw [hcur]
   have:=th ((ls.take i).map (ren db dt)) (ls.drop (i+1)) (bn,(bv,(bx,(bl,())))) x
   rw [hti] at this
   exact this
  have hnext:(ls.take i).map (ren db dt)++((wj bn db dt,(bv,(bx,(bl,()))))::ls.drop (i+1))=(ls.take (i+1)).map (ren db dt)++ls.drop (i+1):=by
   rw [List.take_succ_eq_append_getElem h,List.map_append,List.map_cons,hb]
   simp [ren]
  have hbn:bn.length<=24:=by
   have:=wz (hn ls[i] (List.getElem_mem h))
   rw [hb] at this
   exact this
  have e102:=F143_eq bn db dt (by omega) h2 h3
  have e70:=F94_eq (wj bn db dt)
  generalize hC:(ls.take i).map (ren db dt)++ls.drop i=C at hlen hg hset
  cases hr:zl (wj bn db dt) with
  | false =>
   rw [hr] at e70
   right
   refine ⟨.inr (((),(),(),()),((un,uv,(),()),C,())),?_,_,rfl⟩
   cases hm:vp bn db with
   | false =>
    rw [hm] at e102
    simp only [wZ,d0,d1,hlen,yE,zH,zK,zu,zE,hg,e102,e70,yx]
   | true =>
    rw [hm] at e102
    simp only [wZ,d0,d1,hlen,yE,zH,zu,zE,hg,e102,e70,yx]
  | true =>
   rw [hr] at e70
   left
   have hgood:∀ k,k<i+1->zl (wj (ls.getD k yH).1 db dt)=true:=λk hk'=>by
    rcases Nat.lt_or_ge k i with h' | h'
    ·exact hk k h'
    ·obtain rfl:k=i:=by omega
     rw [xo,List.getElem?_eq_getElem h,hb]
     exact hr
   cases hm:vp bn db with
   | false =>
    rw [hm] at e102
    refine ⟨_,by simp only [wZ,d0,d1,hlen,yE,zH,zK,zu,zE,hg,e102,e70,yA,hset,hnext,w1];rfl,⟨i+1,_,h,hgood,rfl⟩,?_⟩
    simp only;omega
   | true =>
    rw [hm] at e102
    refine ⟨_,by simp only [wZ,d0,d1,hlen,yE,zH,zK,zu,zE,hg,e102,e70,yA,hset,hnext,w1];rfl,⟨i+1,_,h,hgood,rfl⟩,?_⟩
    simp only;omega
 ·have hi':i=ls.length:=by omega
  subst hi'
  right
  refine ⟨.inl (((),(),n,()),((un,uv,(),()),((),(),(),()),ls.map (ren db dt),xs,())),?_,n,rfl,λb hb=>?_⟩
  ·simp only [wZ,Int.lt_irrefl,yu,zK,List.take_length,List.drop_length,List.append_nil]
  ·obtain ⟨k,hk',rfl⟩:=List.getElem_of_mem hb
   have:=hk k hk'
   rw [xo,List.getElem?_eq_getElem hk'] at this
   exact this
theorem L121_1_ex (un:Tx) (uv n:Int) (ls xs:List Bx) (h1:1<=ls.length) (hl:ls.length<=6) :
  ∃ r:R77,L121_1 (((),(),n,((ls.length-1:Nat):Int),(0:Int),()),((un,uv,(),()),((),(),(),()),ls,xs,()))=some r /\
   match r with
   | .inl q=>q=(((),(),n,()),((un,uv,(),()),((),(),(),()),ls,xs,()))/\∀ k,k+1<ls.length->(ls.getD k yH).1≠(ls.getD (k+1) yH).1
   | .inr q=>q=(((),(),(),()),((un,uv,(),()),ls,())):=by
 have hF:=zO
 unfold L121_1
 refine yD (f:=uk) (λp=>∃ (i:Nat),i<=ls.length-1/\(∀ k,k<i->(ls.getD k yH).1≠(ls.getD (k+1) yH).1) /\
   p=(((),(),n,((ls.length-1:Nat):Int),(i:Int),()),((un,uv,(),()),((),(),(),()),ls,xs,())))
  (λp=>ls.length-p.1.2.2.2.2.1.toNat) _ ?_ ⟨0,Nat.zero_le _,λk hk=>absurd hk (Nat.not_lt_zero _),rfl⟩ (by simp only;omega)
 rintro p ⟨i,hi,hk,rfl⟩
 rcases Nat.lt_or_ge i (ls.length-1) with h | h
 ·have d0:decide ((i:Int)<((ls.length-1:Nat):Int))=true:=zX (by omega)
  have d1:decide ((0:Int)<=(i:Int))=true:=zX (by omega)
  have d2:decide ((i:Int)<((ls.length:Nat):Int))=true:=zX (by omega)
  have w1:zZ ((i:Int)+1)=((i+1:Nat):Int):=by rw [zQ (by omega) (by omega)];rfl
  have d3:decide ((0:Int)<=((i+1:Nat):Int))=true:=zX (by omega)
  have d4:decide (((i+1:Nat):Int)<((ls.length:Nat):Int))=true:=zX (by omega)
  by_cases he:(ls.getD i yH).1=(ls.getD (i+1) yH).1
  ·right
   refine ⟨.inr (((),(),(),()),((un,uv,(),()),ls,())),?_,rfl⟩
   simp only [uk,d0,d1,d2,w1,d3,d4,yE,zH,zu,he,zV]
  ·left
   refine ⟨_,by simp only [uk,d0,d1,d2,w1,d3,d4,yE,zH,zu,he,yu,zK],⟨i+1,h,λk hk'=>?_,rfl⟩,?_⟩
   ·rcases Nat.lt_or_ge k i with h' | h'
    ·exact hk k h'
    ·obtain rfl:k=i:=by omega
     exact he
   ·simp only;omega
 ·have hi':i=ls.length-1:=by omega
  subst hi'
  right
  refine ⟨.inl (((),(),n,()),((un,uv,(),()),((),(),(),()),ls,xs,())),?_,rfl,λk hk'=>hk k (by omega)⟩
  simp only [uk,Int.lt_irrefl,yu,zK]
theorem inbx_stays {frm:Tx} (tt:Tx) (h:frm≠inbx):wj inbx frm tt=inbx:=by
 have hp:pfx inbx (frm++[47])=false:=by
  cases hp:pfx inbx (frm++[47]) with
  | false=>rfl
  | true =>
   exfalso
   unfold pfx at hp
   simp only [yo,xh] at hp
   have:(47:UInt8)∈inbx:=by
    refine List.mem_of_mem_take (i:=(frm++[47]).length) ?_
    rw [hp.2]
    simp
   exact absurd this (by decide)
 unfold wj vp
 rw [hp,z7 (λh'=>h h'.symm)]
 rfl
theorem sum_perm {a b:List Bx} (h:a.Perm b):tot a=tot b/\bts a=bts b:=⟨(h.map _).sum_nat,(h.map _).sum_nat⟩
theorem ren_sums (f t:Tx) (ls:List Bx):tot (ls.map (ren f t))=tot ls/\bts (ls.map (ren f t))=bts ls:=by
 unfold tot bts
 rw [List.map_map,List.map_map]
 exact ⟨rfl,rfl⟩
theorem F121_ex {u:Usr} (G:Fine u) (d:Dd) (h3:d.2.2.2.1.length<=1100000):∃ R:Usr×Int×Int×Unit,uj ((u,d,()),())=some (R,())/\(R.2.2.1=0->Fine R.1/\R.1.1=u.1):=by
  obtain ⟨un,uv,ls,⟨⟩⟩:=u
  obtain ⟨lo,e39,_,_,_,h5,_⟩:=F140_eq (un,uv,ls,()) d.2.2.1 (Nat.le_trans G.good.few (by omega)) G.good.rise
  obtain ⟨dd,du,db,dt,uid,how,fl,ds,de,by',⟨⟩⟩:=d
  have g1:=G.good.few
  have g3:=G.good.each
  have g4:=G.good.below
  have g5:=G.names
  have g6:=G.inb
  have g7:=G.room
  simp only at h3 e39 h5 g1 g3 g4 g5 g6 g7
  cases hh:yp ls db with
  | false =>
    rw [hh] at e39
    exact ⟨((un,uv,ls,()),0,9,()),by simp only [uj,e39,zE,yx,zH],λh=>by simp at h⟩
  | true =>
    rw [hh] at e39
    obtain ⟨k1,k2⟩:=h5 hh
    by_cases hin:db=inbx
    . refine ⟨((un,uv,ls,()),0,13,()),?_,λh=>by simp at h⟩
      have:decide (db=([73,78,66,79,88]:List UInt8))=true:=zX hin
      simp only [uj,e39,zE,yA,zK,this,zH]
    . have hdi:decide (db=([73,78,66,79,88]:List UInt8))=false:=z7 hin
      have e30:=F37_eq ls (by omega)
      have hdb:db.length<=24:=by
        have:=wz (g5 _ (v6 k1))
        rw [k2] at this
        exact this
      obtain ⟨r,e0,hr⟩:=L121_0_ex un uv (dd,du,db,dt,uid,how,fl,ds,de,by',()) ls [] g1 g5 (by simp only;omega) h3
      cases r with
      | inr q =>
        obtain ⟨cur,rfl⟩:=hr
        exact ⟨((un,uv,cur,()),0,6,()),by simp only [uj,e39,zE,yA,zK,hdi,e30,e0],λh=>by simp at h⟩
      | inl q =>
        obtain ⟨n,rfl,hnm⟩:=hr
        simp only at hnm
        have hp:(srtB (ls.map (ren db dt))).Perm (ls.map (ren db dt)):=srtBy_perm _ _ _
        have hs:(srtB (ls.map (ren db dt))).Pairwise λa b=>¬ b.1<a.1:=srtBy_sorted _ _ _
        have hlen:(srtB (ls.map (ren db dt))).length=ls.length:=by rw [hp.length_eq,List.length_map]
        have hok:srtBOK (ls.map (ren db dt))=true:=by
          unfold srtBOK
          simp only [List.length_map,yo,xh,Bool.not_eq_true',List.isEmpty_eq_false_iff]
          refine ⟨by omega,λh=>?_⟩
          have:=congrArg List.length h
          rw [List.length_map,List.length_nil] at this
          omega
        obtain ⟨S,hS⟩:∃ S,srtB (ls.map (ren db dt))=S:=⟨_,rfl⟩
        rw [hS] at hp hs hlen
        obtain ⟨r,e1,hr⟩:=L121_1_ex un uv n S [] (by omega) (by omega)
        have c1:decide ((1:Int)<=((S.length:Nat):Int))=true:=zX (by omega)
        cases r with
        | inr q =>
          obtain rfl:=hr
          exact ⟨((un,uv,S,()),0,10,()),by simp only [uj,e39,zE,yA,zK,hdi,e30,e0,hok,zH,hS,c1,Int.le_refl,zV,yE,zu,e1],λh=>by simp at h⟩
        | inl q =>
          obtain ⟨rfl,hd⟩:=hr
          refine ⟨((un,uv,S,()),n,0,()),by simp only [uj,e39,zE,yA,zK,hdi,e30,e0,hok,zH,hS,c1,Int.le_refl,zV,yE,zu,e1],λ_=>⟨?_,rfl⟩⟩
          have hmem:∀ b∈S,∃ a∈ls,ren db dt a=b:=λb hb=>List.mem_map.1 (hp.mem_iff.1 hb)
          have hrise:S.Pairwise λa b=>a.1<b.1:=rise_of λk hk=>by
            have h1:=List.pairwise_iff_getElem.1 hs k (k+1) (by omega) hk (by omega)
            have h2:=hd k hk
            rw [xo,xo,List.getElem?_eq_getElem (show k<S.length by omega),List.getElem?_eq_getElem hk] at h2 ⊢
            exact wH h1 λe=>h2 e.symm
          have heach:∀ b∈S,Right (yI b):=λb hb=>by
            obtain ⟨a,ha,rfl⟩:=hmem b hb
            have R:=g3 a ha
            exact ⟨R.valid,R.next,R.few,R.each,R.rise⟩
          have hfew:S.length<=6:=by omega
          have hsum:=sum_perm hp
          have hsum2:=ren_sums db dt ls
          have hroom:=(tI g3 g1).1 g7
          exact {
            good:=⟨hfew,hrise,heach,G.good.valid,λb hb=>by
              obtain ⟨a,ha,rfl⟩:=hmem b hb
              exact g4 a ha⟩
            user:=G.user
            names:=λb hb=>by
              obtain ⟨a,ha,rfl⟩:=hmem b hb
              exact hnm a ha
            inb:=by
              obtain ⟨b,hb,hbn⟩:=g6
              refine ⟨ren db dt b,hp.mem_iff.2 (List.mem_map_of_mem hb),?_⟩
              unfold ren
              rw [hbn]
              exact inbx_stays dt hin
            room:=by
              show wth S=true
              rw [tI heach hfew]
              omega }
end Go.Fl
