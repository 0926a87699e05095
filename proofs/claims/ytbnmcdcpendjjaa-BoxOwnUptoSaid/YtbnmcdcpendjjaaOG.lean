/- Texts that the last one leans on, 7. -/
import Derived.Test.YtbnmcdcpendjjaaOF
namespace Go.Bx
open Go Go.Ev
set_option maxRecDepth 100000
theorem bytes_ok {n k:Nat} (h:n*k<=140737488355328):bytesOK n k=true:=dTt h
theorem F25_eq (l:List UInt8) (h:l.length<=600):F25 ((l,()),())=some ((),(l,())):=by
 have hb:bytesOK (0+l.length) 1=true:=bytes_ok (by omega)
 cases l with
 | nil=>simp only [F25,List.isEmpty_nil,cTt,hb,List.append_nil,agr_self]
 | cons a t=>simp only [F25,List.isEmpty_cons,cFf,hb,cTt,List.nil_append]
theorem F38_eq (l:List Ltr) (h:l.length<=32):F38 ((l,()),())=some ((),(l.map (λx=>(false,x)),())):=by
 have hb:bytesOK (([]:List (Bool×Ltr)).length+(l.map (λx=>(false,x))).length) 40=true:=bytes_ok (by simp only [List.length_nil,List.length_map];omega)
 cases l with
 | nil =>
  have hb':bytesOK (([]:List (Bool×Ltr)).length+([]:List (Bool×Ltr)).length) 40=true:=hb
  simp only [F38,List.isEmpty_nil,cTt,List.nil_append,List.map_nil,hb',agr_self]
 | cons a t=>simp only [F38,List.isEmpty_cons,cFf,hb,cTt,List.nil_append]
def mkd (i:Nat) (ls:List Ltr):List (Bool×Ltr):=(ls.take i).map (λx=>(true,x))++(ls.drop i).map (λx=>(false,x))
theorem mkd_len (i:Nat) (ls:List Ltr):(mkd i ls).length=ls.length:=by
 simp only [mkd,lAp,List.length_map,lTk,lDr];omega
theorem mkd_get {i:Nat} {ls:List Ltr} (h:i<ls.length) (d:Bool×Ltr):(mkd i ls).getD i d=(false,ls[i]):=by
 have h0:((ls.take i).map (λx:Ltr=>(true,x))).length=i:=by simp;omega
 simp only [mkd,List.getD,List.getElem?_append_right (Nat.le_of_eq h0),h0,Nat.sub_self,List.getElem?_map,List.getElem?_drop,Nat.add_zero,List.getElem?_eq_getElem h,Option.map_some,Option.getD_some]
theorem mkd_set {i:Nat} {ls:List Ltr} (h:i<ls.length):(mkd i ls).set i (true,ls[i])=mkd (i+1) ls:=by
 have h0:((ls.take i).map (λx:Ltr=>(true,x))).length=i:=by simp;omega
 unfold mkd
 rw [List.set_append_right _ _ (Nat.le_of_eq h0),h0,Nat.sub_self,List.drop_eq_getElem_cons h,List.map_cons,List.set_cons_zero,List.take_succ_eq_append_getElem h,List.map_append,lAs]
 rfl
theorem mkd_all (ls:List Ltr):(List.all (mkd ls.length ls) λp=>p.1)=true/\(mkd ls.length ls).map (λp=>p.2)=ls:=by
 simp [mkd,Function.comp_def]
theorem foldS_const {α τ:Type} (r:τ):∀ (l:List α),foldS (λ_ (_:Unit)=>(.inl ():Unit⊕τ)) (λ_=>r) () l=r
 | []=>rfl
 | _::t=>foldS_const r t
theorem L24_eq (nm:List UInt8) (v n:Int) (ls ks:List Ltr) (hl:ls.length<=32) (hb:∀ l∈ls,l.2.2.1.length<=600) :
  L24_0 (((),(),((ls.length:Nat):Int),(0:Int),()),((nm,v,n,(),()),((),(),(),(),()),mkd 0 ls,ks,()))=some (((),(),()),((nm,v,n,(),()),((),(),(),(),()),mkd ls.length ls,ks,())):=by
 have hF:=FUEL_big
 have h:=walk_list (f:=B24_0) (λ(_:Unit) i=>(((),(),((ls.length:Nat):Int),(i:Int),()),((nm,v,n,(),()),((),(),(),(),()),mkd i ls,ks,()))) ls (λ_ _=>.inl ())
  (λ_=>(((),(),()),((nm,v,n,(),()),((),(),(),(),()),mkd ls.length ls,ks,()))) (b:=()) (λb i a hi ha=>?_) (λb=>?_) (by omega)
 ·rw [foldS_const] at h
  exact h
 ·have ha0:ls[i]=a:=by
   have:=ha (0,0,[],())
   rwa [gDe,List.getElem?_eq_getElem hi,Option.getD_some] at this
  have hm:a∈ls:=ha0 ▸ List.getElem_mem hi
  have hi':i<(mkd i ls).length:=by rw [mkd_len];exact hi
  simp only [B24_0,nat_lt,nat_nn,hi,hi',dTr,Bool.and_true,cTt,oBs,nCt,mkd_get hi,ha0,F25_eq _ (hb a hm),w64_nat (show i<9223372036854775807 by omega)]
  rw [<- mkd_set hi,ha0]
 ·simp only [B24_0,Int.lt_irrefl,dFl,cFf]
theorem F24_eq (b:Box) (hl:b.2.2.2.1.length<=32) (hb:∀ l∈b.2.2.2.1,l.2.2.1.length<=600):F24 ((b,()),())=some ((b.1,b.2.1,b.2.2.1,(),()),(b.2.2.2.1,())):=by
 obtain ⟨nm,v,n,ls,u⟩:=b
 cases u
 have h0:ls.map (λx=>(false,x))=mkd 0 ls:=by simp [mkd]
 have h1:=mkd_all ls
 have h2:=L24_eq nm v n ls [] hl hb
 simp only [F24,F38_eq ls hl,oBs,List.length_map]
 rw [h0,h2]
 simp only [oBs,h1.1,h1.2,cTt]
theorem chk_zero {n:Int}:∀ {ls:List Ltr} {last:Int},code (foldS (chk1 n) (λ_=>.inl ((),())) last ls)=0->∀ l∈ls,last<l.1/\l.1<n/\l.2.1.toNat<32/\l.2.2.1.length<=600
 | [],_,_,_,hm=>absurd hm (List.not_mem_nil)
 | a::t,last,h,l,hm=>by
  simp only [foldS,chk1] at h
  by_cases h1:a.1<=last\/n<=a.1
  ·simp [h1,code] at h
  ·by_cases h2:32<=a.2.1.toNat
   ·simp [h1,h2,code] at h
   ·by_cases h3:600<a.2.2.1.length
    ·simp [h1,h2,h3,code] at h
    ·simp only [h1,h2,h3,↓reduceIte] at h
     rcases List.mem_cons.mp hm with rfl | hm
     ·exact ⟨by omega,by omega,by omega,by omega⟩
     ·have:=chk_zero h l hm
      exact ⟨by omega,this.2.1,this.2.2.1,this.2.2.2⟩
theorem chk_rise {n:Int}:∀ {ls:List Ltr} {last:Int},code (foldS (chk1 n) (λ_=>.inl ((),())) last ls)=0->ls.Pairwise (λa b=>a.1<b.1)
 | [],_,_=>List.Pairwise.nil
 | a::t,last,h=>by
  simp only [foldS,chk1] at h
  by_cases h1:a.1<=last\/n<=a.1
  ·simp [h1,code] at h
  ·by_cases h2:32<=a.2.1.toNat
   ·simp [h1,h2,code] at h
   ·by_cases h3:600<a.2.2.1.length
    ·simp [h1,h2,h3,code] at h
    ·simp only [h1,h2,h3,↓reduceIte] at h
     exact List.Pairwise.cons (λl hl=>(chk_zero h l hl).1) (chk_rise h)
structure Right (b:Box):Prop where
 valid:1<=b.2.1/\b.2.1<=4294967295
 next:1<=b.2.2.1/\b.2.2.1<=4294967295
 few:b.2.2.2.1.length<=32
 each:∀ l∈b.2.2.2.1,0<l.1/\l.1<b.2.2.1/\l.2.1.toNat<32/\l.2.2.1.length<=600
 rise:b.2.2.2.1.Pairwise (λa b=>a.1<b.1)
theorem chk_of {n:Int}:∀ {ls:List Ltr} {last:Int},ls.Pairwise (λa b=>a.1<b.1)->(∀ l∈ls,last<l.1/\l.1<n/\l.2.1.toNat<32/\l.2.2.1.length<=600)->code (foldS (chk1 n) (λ_=>.inl ((),())) last ls)=0
 | [],_,_,_=>rfl
 | a::t,last,hp,h=>by
  have ha:=h a (List.mem_cons_self ..)
  obtain ⟨hp1,hp2⟩:=List.pairwise_cons.mp hp
  have h1:¬ (a.1<=last\/n<=a.1):=by omega
  have h2:¬ 32<=a.2.1.toNat:=by omega
  have h3:¬ 600<a.2.2.1.length:=by omega
  simp only [foldS,chk1,h1,h2,h3,↓reduceIte]
  exact chk_of hp2 (λl hl=>⟨hp1 l hl,(h l (List.mem_cons_of_mem _ hl)).2⟩)
theorem check_zero {b:Box}:check b=0<->Right b:=by
 constructor
 ·intro h
  unfold check at h
  by_cases h1:b.2.1<1\/4294967295<b.2.1\/b.2.2.1<1\/4294967295<b.2.2.1
  ·rw [if_pos h1] at h;cases h
  ·rw [if_neg h1] at h
   by_cases h2:32<b.2.2.2.1.length
   ·rw [if_pos h2] at h;cases h
   ·rw [if_neg h2] at h
    exact ⟨by omega,by omega,by omega,chk_zero h,chk_rise h⟩
 ·intro h
  have:=h.valid
  have:=h.next
  have:=h.few
  unfold check
  rw [if_neg (by omega),if_neg (by omega)]
  exact chk_of h.rise h.each
def empty:Box:=([],0,0,[],())
def add (b:Box) (f:UInt8) (p:List UInt8):Box×Int×Int×Unit :=
 if check b≠0 then (empty,0,check b,())
 else if 32<=f.toNat then (empty,0,2,())
 else if 600<p.length then (empty,0,6,())
 else if b.2.2.2.1.length=32\/b.2.2.1=4294967295 then (empty,0,8,())
 else ((b.1,b.2.1,b.2.2.1+1,b.2.2.2.1++[(b.2.2.1,f,p,())],()),b.2.2.1,0,())
theorem F10_eq (b:Box) (f:UInt8) (p:List UInt8):F10 ((b,f,p,()),())=some (add b f p,()):=by
 have e16:=F16_eq b
 have e24:=F24_eq b
 have ez:=check_zero (b:=b)
 obtain ⟨nm,v,n,ls,u⟩:=b
 cases u
 unfold add
 simp only [F10,e16,oBs]
 generalize hc:check (nm,v,n,ls,())=c at *
 by_cases h0:c=0
 ·have R:=ez.mp h0
  have hr:=R.few
  have hn:=R.next
  simp only at hr hn
  simp only [h0,ne_eq,not_true_eq_false,↓reduceIte,dTr,nTr,cFf]
  by_cases h1:32<=f.toNat
  ·simp [h1,empty]
  ·by_cases h2:600<p.length
   ·have h2':(600:Int)<(p.length:Int):=by omega
    simp [h1,h2,h2',empty]
   ·have h2':¬ (600:Int)<(p.length:Int):=by omega
    by_cases h3:ls.length=32\/n=4294967295
    ·have h3':(decide (((ls.length:Nat):Int)=32)||decide (n=4294967295))=true:=by
      simp only [Bool.or_eq_true,dTe];omega
     simp [h1,h2,h2',h3,h3',empty]
    ·have h3':(decide (((ls.length:Nat):Int)=32)||decide (n=4294967295))=false:=by
      simp only [Bool.or_eq_false_iff,decide_eq_false_iff_not];omega
     have hb:bytesOK (ls.length+1) 40=true:=bytes_ok (by omega)
     simp only [show UInt8.toNat 32=32 from rfl,h1,h2,h2',h3,h3',dFl,dTr,cFf,oBs,nTr,↓reduceIte,e24 hr (λl hl=>(R.each l hl).2.2.2),F25_eq p (by omega),List.length_cons,List.length_nil,Nat.zero_add,hb,cTt,
      w64_id (n:=n+1) (by omega) (by omega)]
 ·simp [h0,empty]
end Go.Bx
namespace Go.Bx
open Go Go.Ev
set_option maxRecDepth 100000
theorem live14:F14 ((([],1,6,[(5,1,[72,105],())],()),([(6,(0,(0,(0,([104,73],()))))),(2,(1,(0,(0,([],())))))]),()),())=some (((),0,()),([5],())):=by kernel_rfl
theorem live26:F26 (([53,58,51,44,42],9,()),())=some (([(3,5,()),(9,9,())],0,0,()),()):=by kernel_rfl
theorem live10:add ([],1,5,[],()) 1 [72,105]=(([],1,6,[(5,1,[72,105],())],()),5,0,()):=by kernel_rfl
theorem live12:F12 ((),())=some (true,()):=by
 simp only [F12,F10_eq,live10,oBs,live14,live26]
 rfl
theorem F13_self (b:Box) (hl:b.2.2.2.1.length<=maxLen):F13 ((b,b,()),())=some (true,()):=by
 obtain ⟨nm,v,n,ls,u⟩:=b
 cases u
 have hF:maxLen<FUEL:=by unfold maxLen FUEL;omega
 have hm:maxLen=9223372036854775807:=rfl
 change ls.length<=maxLen at hl
 have h:=walk_list (f:=B13_0) (λ(_:Unit) i=>(((),(),(i:Int),()),((nm,v,n,ls,()),(nm,v,n,ls,()),()))) ls (λ_ _=>.inl ()) (λ_=>.inl ((),())) (b:=()) (λb i a hi ha=>by
   simp only [B13_0,nat_lt,nat_nn,hi,dTr,Bool.and_true,cTt,nCt,ha,w64_nat (show i<9223372036854775807 by omega),nTr,Bool.or_false,cFf,Bool.or_self])
  (λb=>by simp only [B13_0,Int.lt_irrefl,dFl,cFf]) (by omega)
 rw [foldS_const] at h
 have h':L13_0 (((),(),(0:Int),()),((nm,v,n,ls,()),(nm,v,n,ls,()),()))=some (.inl ((),())):=h
 simp only [F13,h',dTr,nTr,cFf,oBs,Bool.or_self]
end Go.Bx
namespace Go.Bx
open Go Go.Ev
set_option maxRecDepth 100000
def cmp3 (a b:Int):Int:=if a<b then -1 else if b<a then 1 else 0
theorem F53_eq (a:Int):F53 ((a,()),())=some (false,()):=by
 simp only [F53,dTr,nTr]
theorem F46_eq (_u _f:Int×Unit) (l:Ltr) (uid:Int):F46 (((l.1,l.2.1,l.2.2.1,()),uid,()),())=some (cmp3 l.1 uid,()):=by
 simp only [F46,F47,F53_eq,oBs,cFf,cmp3]
 by_cases h1:l.1<uid
 ·simp [h1]
 ·by_cases h2:uid<l.1
  ·simp [h1,h2]
  ·simp [h1,h2]
theorem mid {lo hi:Nat} (h:lo+hi<1000):w64 (Int.fdiv (IntKind.wrap .u64 (w64 ((lo:Int)+(hi:Int)))) (2^1))=(((lo+hi)/2:Nat):Int):=by
 rw [w64_id (n:=(lo:Int)+hi) (by omega) (by omega)]
 have e:IntKind.wrap .u64 ((lo:Int)+(hi:Int))=((lo+hi:Nat):Int):=by
  unfold IntKind.wrap
  simp only [IntKind.bits,IntKind.signed]
  simp
  omega
 rw [e]
 have e2:Int.fdiv ((lo+hi:Nat):Int) (2^1)=(((lo+hi)/2:Nat):Int):=by
  rw [Int.fdiv_eq_ediv_of_nonneg _ (by decide)]
  omega
 rw [e2]
 exact w64_id (by omega) (by omega)
theorem getD_lt {ls:List Ltr} (h:ls.Pairwise (λa b=>a.1<b.1)) {i j:Nat} (hij:i<j) (hj:j<ls.length) (d:Ltr):(ls.getD i d).1<(ls.getD j d).1:=by
 have:=List.pairwise_iff_getElem.mp h i j (by omega) hj hij
 rw [gDe,gDe,List.getElem?_eq_getElem hj,List.getElem?_eq_getElem (show i<ls.length by omega)]
 exact this
abbrev nol:Ltr:=(0,0,[],())
theorem L45_eq (ls:List Ltr) (uid:Int) (hl:ls.length<=32) (hr:ls.Pairwise (λa b=>a.1<b.1)) :
  ∃ lo:Nat,L45c46_0 ((ls,uid,(),((ls.length:Nat):Int),(0:Int),((ls.length:Nat):Int),()),())=some ((ls,uid,(),((ls.length:Nat):Int),(lo:Int),()),())/\lo<=ls.length/\(∀ k,k<lo->(ls.getD k nol).1<uid)/\(∀ k,lo<=k->k<ls.length->uid<=(ls.getD k nol).1):=by
 have hF:=FUEL_big
 have h:=loop_ind (f:=B45c46_0) (p:=((ls,uid,(),((ls.length:Nat):Int),(0:Int),((ls.length:Nat):Int),()),()))
  (λp=>∃ lo hi:Nat,p=((ls,uid,(),((ls.length:Nat):Int),(lo:Int),(hi:Int),()),())/\lo<=hi/\hi<=ls.length/\(∀ k,k<lo->(ls.getD k nol).1<uid)/\(∀ k,hi<=k->k<ls.length->uid<=(ls.getD k nol).1))
  (λp=>(p.1.2.2.2.2.2.1-p.1.2.2.2.2.1).toNat)
  (λr=>∃ lo:Nat,r=((ls,uid,(),((ls.length:Nat):Int),(lo:Int),()),())/\lo<=ls.length/\(∀ k,k<lo->(ls.getD k nol).1<uid)/\(∀ k,lo<=k->k<ls.length->uid<=(ls.getD k nol).1))
  (λp hp=>by
   obtain ⟨lo,hi,rfl,h1,h2,h3,h4⟩:=hp
   by_cases hlt:lo<hi
   ·left
    have hm1:lo<=(lo+hi)/2:=by omega
    have hm2:(lo+hi)/2<hi:=by omega
    have hm3:(lo+hi)/2<ls.length:=by omega
    have hg:=F46_eq (0,()) (0,()) (ls.getD ((lo+hi)/2) nol) uid
    have hh:B45c46_0 ((ls,uid,(),((ls.length:Nat):Int),(lo:Int),(hi:Int),()),())=some (.inl (if (ls.getD ((lo+hi)/2) nol).1<uid then ((ls,uid,(),((ls.length:Nat):Int),(((lo+hi)/2+1:Nat):Int),(hi:Int),()),()) else ((ls,uid,(),((ls.length:Nat):Int),(lo:Int),(((lo+hi)/2:Nat):Int),()),()))):=by
     simp only [B45c46_0,nat_lt,nat_nn,hlt,dTr,cTt,oBs,mid (show lo+hi<1000 by omega),hm3,Bool.and_true,nCt]
     rw [hg]
     simp only [oBs,cmp3]
     by_cases hc:(ls.getD ((lo+hi)/2) nol).1<uid
     ·simp only [hc,↓reduceIte,w64_nat (show (lo+hi)/2<9223372036854775807 by omega)]
      rfl
     ·simp only [hc,↓reduceIte]
      by_cases hc2:uid<(ls.getD ((lo+hi)/2) nol).1
      ·simp only [hc2,↓reduceIte];rfl
      ·simp only [hc2,↓reduceIte];rfl
    by_cases hc:(ls.getD ((lo+hi)/2) nol).1<uid
    ·rw [if_pos hc] at hh
     refine ⟨_,hh,⟨_,hi,rfl,by omega,h2,λk hk=>?_,h4⟩,by simp only;omega⟩
     rcases Nat.lt_or_ge k ((lo+hi)/2) with hk2 | hk2
     ·have:=getD_lt hr hk2 hm3 nol
      omega
     ·obtain rfl:k=(lo+hi)/2:=by omega
      exact hc
    ·rw [if_neg hc] at hh
     refine ⟨_,hh,⟨lo,_,rfl,hm1,by omega,h3,λk hk hk3=>?_⟩,by simp only;omega⟩
     rcases Nat.lt_or_ge ((lo+hi)/2) k with hk2 | hk2
     ·have:=getD_lt hr hk2 hk3 nol
      omega
     ·obtain rfl:k=(lo+hi)/2:=by omega
      omega
   ·right
    obtain rfl:lo=hi:=by omega
    refine ⟨((ls,uid,(),((ls.length:Nat):Int),(lo:Int),()),()),?_,lo,rfl,h2,h3,h4⟩
    simp only [B45c46_0,Int.lt_irrefl,dFl,cFf])
  ⟨0,ls.length,rfl,Nat.zero_le _,Nat.le_refl _,λk h=>absurd h (Nat.not_lt_zero _),λk h h'=>by omega⟩ (by simp only;omega)
 obtain ⟨r,h1,lo,rfl,h2⟩:=h
 exact ⟨lo,h1,h2⟩
def has (ls:List Ltr) (uid:Int):Bool:=ls.any λl=>decide (l.1=uid)
theorem F34_eq (b:Box) (uid:Int) (hl:b.2.2.2.1.length<=32) (hr:b.2.2.2.1.Pairwise (λa b=>a.1<b.1)) :
  ∃ i:Nat,F34 ((b,uid,()),())=some (((i:Int),has b.2.2.2.1 uid,()),())/\(has b.2.2.2.1 uid=true->i<b.2.2.2.1.length/\(b.2.2.2.1.getD i nol).1=uid):=by
 obtain ⟨nm,v,n,ls,u⟩:=b
 obtain ⟨lo,h1,h2,h3,h4⟩:=L45_eq ls uid hl hr
 change ls.length<=32 at hl
 change ls.Pairwise (λa b=>a.1<b.1) at hr
 refine ⟨lo,?_,?_⟩
 ·simp only [F34,F45c46,h1,oBs,nat_lt,nat_nn,Bool.true_and,nCt]
  by_cases hlo:lo<ls.length
  ·have hg:=F46_eq (0,()) (0,()) (ls.getD lo nol) uid
   simp only [hlo,dTr,Bool.true_or,cTt]
   rw [hg]
   simp only [oBs]
   have e:decide (cmp3 (ls.getD lo nol).1 uid=0)=has ls uid:=by
    rw [Bool.eq_iff_iff,dTe]
    unfold has
    rw [List.any_eq_true]
    constructor
    ·intro hc
     refine ⟨ls.getD lo nol,?_,?_⟩
     ·rw [gDe,List.getElem?_eq_getElem hlo]
      exact List.getElem_mem hlo
     ·have:=h4 lo (Nat.le_refl _) hlo
      unfold cmp3 at hc
      rw [dTe]
      split at hc
      ·omega
      ·split at hc
       ·omega
       ·omega
    ·rintro ⟨l,hm,he⟩
     rw [dTe] at he
     obtain ⟨k,hk,rfl⟩:=List.getElem_of_mem hm
     have e1:(ls.getD k nol).1=uid:=by
      rw [gDe,List.getElem?_eq_getElem hk];exact he
     rcases Nat.lt_trichotomy k lo with h | h | h
     ·have:=h3 k h;omega
     ·subst h
      unfold cmp3
      rw [if_neg (by omega),if_neg (by omega)]
     ·have:=getD_lt hr h hk nol
      have:=h4 lo (Nat.le_refl _) hlo
      omega
   rw [e]
  ·have e:has ls uid=false:=by
    unfold has
    rw [List.any_eq_false]
    intro l hm
    rw [dTe]
    obtain ⟨k,hk,rfl⟩:=List.getElem_of_mem hm
    have e1:(ls.getD k nol).1=(ls[k]).1:=by
     rw [gDe,List.getElem?_eq_getElem hk];rfl
    have:=h3 k (by omega)
    omega
   simp only [hlo,dFl,nFl,Bool.or_true,cTt,cFf,e,oBs]
 ·intro hh
  change has ls uid=true at hh
  unfold has at hh
  rw [List.any_eq_true] at hh
  obtain ⟨l,hm,he⟩:=hh
  rw [dTe] at he
  obtain ⟨k,hk,rfl⟩:=List.getElem_of_mem hm
  have e1:(ls.getD k nol).1=uid:=by
   rw [gDe,List.getElem?_eq_getElem hk];exact he
  change lo<ls.length/\(ls.getD lo nol).1=uid
  rcases Nat.lt_trichotomy k lo with h | h | h
  ·have:=h3 k h;omega
  ·subst h
   exact ⟨hk,e1⟩
  ·have:=getD_lt hr h hk nol
   have:=h4 lo (Nat.le_refl _) (by omega)
   omega
end Go.Bx
namespace Go.Bx
open Go Go.Ev
set_option maxRecDepth 100000
def keep (uid:Int) (l:Ltr):Bool:=!decide (l.1=uid)
theorem F36_eq (l:Ltr) (uid:Int):F36 (((l.1,l.2.1,l.2.2.1,()),(),()),((uid,()),()))=some (decide (l.1=uid),((uid,()),())):=rfl
abbrev R48:Type:=(((Unit×Unit)×Unit)×((Int×Unit)×Unit))⊕(((Unit×Unit)×Int×Unit)×((Int×Unit)×Unit))
def stp48 (uid:Int) (a:Ltr) (b:Nat):Nat⊕R48:=if a.1=uid then .inr (.inr ((((),()),(b:Int),()),((uid,()),()))) else .inl (b+1)
theorem L48_eq (ls:List Ltr) (uid:Int) (hl:ls.length<=32):L48c36_0 ((ls,((),()),((ls.length:Nat):Int),(0:Int),()),((uid,()),()))=some (foldS (stp48 uid) (λ_=>.inl ((((),()),()),((uid,()),()))) 0 ls):=by
 have hF:=FUEL_big
 refine walk_listI (f:=B48c36_0) (λ(_:Nat) i=>((ls,((),()),((ls.length:Nat):Int),(i:Int),()),((uid,()),()))) ls (stp48 uid) _ (λb i=>b=i)
  (λb i a hI hi ha=>?_) (λb _=>?_) (by omega) rfl
 ·subst hI
  have hg:=F36_eq a uid
  simp only [B48c36_0,nat_lt,nat_nn,hi,dTr,Bool.and_true,cTt,nCt,ha]
  rw [hg]
  simp only [oBs,stp48]
  by_cases h:a.1=uid
  ·simp only [h,↓reduceIte,dTr,cTt]
   exact .inr ⟨_,rfl,rfl⟩
  ·simp only [h,↓reduceIte,dFl,cFf,w64_nat (show b<9223372036854775807 by omega)]
   exact .inl ⟨_,rfl,rfl,trivial⟩
 ·simp only [B48c36_0,Int.lt_irrefl,dFl,cFf]
theorem fold48 (uid:Int) (z:R48):∀ (ls:List Ltr) (b:Nat),has ls uid=true ->
  ∃ k,foldS (stp48 uid) (λ_=>z) b ls=.inr ((((),()),((b+k:Nat):Int),()),((uid,()),()))/\k<ls.length/\(ls.take (k+1)).filter (keep uid)=ls.take k
 | [],_,h=>by cases h
 | a::t,b,h=>by
  by_cases ha:a.1=uid
  ·refine ⟨0,?_,?_,?_⟩
   ·simp only [foldS,stp48,ha,↓reduceIte]
    rfl
   ·simp
   ·simp [keep,ha]
  ·have ht:has t uid=true:=by
    simpa [has,ha] using h
   obtain ⟨k,h1,h2,h3⟩:=fold48 uid z t (b+1) ht
   refine ⟨k+1,?_,?_,?_⟩
   ·simp only [foldS,stp48,ha,↓reduceIte]
    rw [show b+(k+1)=b+1+k by omega]
    exact h1
   ·simp only [List.length_cons];omega
   ·rw [List.take_succ_cons,List.filter_cons_of_pos (by simp [keep,ha]),h3,List.take_succ_cons]
theorem getD_of_drop {α:Type} {M ls:List α} {j:Nat} (h:M.drop j=ls.drop j) (d:α):M.getD j d=ls.getD j d:=by
 have e:(M.drop j)[0]?=(ls.drop j)[0]?:=by rw [h]
 rw [List.getElem?_drop,List.getElem?_drop,Nat.add_zero] at e
 rw [gDe,gDe,e]
theorem L35_eq (ls:List Ltr) (uid:Int) (hl:ls.length<=32) (k:Nat) (hk:k<ls.length) (hf:(ls.take (k+1)).filter (keep uid)=ls.take k) :
  ∃ (i:Nat) (M:List Ltr),L35c36_0 (((),((),()),(k:Int),((k+1:Nat):Int),()),(ls,(uid,()),()))=some (((),((),()),(i:Int),()),(M,(uid,()),()))/\i<=M.length/\M.length=ls.length/\M.take i=ls.filter (keep uid):=by
 have hF:=FUEL_big
 have h:=loop_ind (f:=B35c36_0) (p:=(((),((),()),(k:Int),((k+1:Nat):Int),()),(ls,(uid,()),())))
  (λp=>∃ (i j:Nat) (M:List Ltr),p=(((),((),()),(i:Int),(j:Int),()),(M,(uid,()),()))/\i<j/\j<=ls.length/\M.length=ls.length/\M.take i=(ls.take j).filter (keep uid)/\M.drop j=ls.drop j)
  (λp=>((ls.length:Int)-p.1.2.2.2.1).toNat)
  (λr=>∃ (i:Nat) (M:List Ltr),r=(((),((),()),(i:Int),()),(M,(uid,()),()))/\i<=M.length/\M.length=ls.length/\M.take i=ls.filter (keep uid))
  (λp hp=>by
   obtain ⟨i,j,M,rfl,h1,h2,h3,h4,h5⟩:=hp
   by_cases hj:j<ls.length
   ·left
    have hjM:j<M.length:=by omega
    have hiM:i<M.length:=by omega
    have hx:=getD_of_drop h5 nol
    have hxe:ls.getD j nol=ls[j]:=by rw [gDe,List.getElem?_eq_getElem hj];rfl
    have ht:(ls.take (j+1)).filter (keep uid)=(ls.take j).filter (keep uid)++[ls.getD j nol].filter (keep uid):=by
     rw [List.take_succ_eq_append_getElem hj,List.filter_append,hxe]
    have hd:M.drop (j+1)=ls.drop (j+1):=by
     rw [<- List.drop_drop,<- List.drop_drop,h5]
    have hg:=F36_eq (ls.getD j nol) uid
    by_cases hc:(ls.getD j nol).1=uid
    ·refine ⟨_,?_,⟨i,j+1,M,rfl,by omega,by omega,h3,?_,hd⟩,by simp only;omega⟩
     ·simp only [B35c36_0,nat_lt,nat_nn,hjM,dTr,Bool.and_true,cTt,oBs,nCt,hx]
      rw [hg]
      simp only [hc,dTr,nTr,cFf,oBs,w64_nat (show j<9223372036854775807 by omega)]
     ·rw [ht,h4];simp only [List.filter_cons,keep,hc,dTr,nTr,Bool.false_eq_true,↓reduceIte,List.filter_nil,List.append_nil]
    ·refine ⟨_,?_,⟨i+1,j+1,M.set i (ls.getD j nol),rfl,by omega,by omega,by rw [List.length_set];exact h3,?_,?_⟩,by simp only;omega⟩
     ·simp only [B35c36_0,nat_lt,nat_nn,hjM,dTr,Bool.and_true,cTt,oBs,nCt,hx]
      rw [hg]
      simp only [hc,dFl,nFl,cTt,oBs,nat_nn,nat_lt,hiM,dTr,Bool.and_true,nCt,w64_nat (show j<9223372036854775807 by omega),w64_nat (show i<9223372036854775807 by omega)]
     ·have hiS:i<(M.set i (ls.getD j nol)).length:=by rw [List.length_set];exact hiM
      rw [ht,<- h4,List.take_succ_eq_append_getElem hiS,List.take_set_of_le (Nat.le_refl _),List.getElem_set_self]
      simp only [List.filter_cons,keep,hc,dFl,nFl,↓reduceIte,List.filter_nil]
     ·rw [List.drop_set_of_lt (by omega)];exact hd
   ·right
    obtain rfl:j=ls.length:=by omega
    refine ⟨(((),((),()),(i:Int),()),(M,(uid,()),())),?_,i,M,rfl,by omega,h3,?_⟩
    ·simp only [B35c36_0,h3,Int.lt_irrefl,dFl,cFf]
    ·rw [h4,List.take_length])
  ⟨k,k+1,ls,rfl,by omega,by omega,rfl,hf.symm,rfl⟩ (by simp only;omega)
 obtain ⟨r,h1,i,M,rfl,h2⟩:=h
 exact ⟨i,M,h1,h2⟩
theorem F35_eq (ls:List Ltr) (uid:Int) (hl:ls.length<=32) (hh:has ls uid=true) :
  F35c36 (((),((),()),()),(ls,(uid,()),()))=some (ls.filter (keep uid),((uid,()),())):=by
 obtain ⟨k,h1,h2,h3⟩:=fold48 uid (.inl ((((),()),()),((uid,()),()))) ls 0 hh
 obtain ⟨i,M,h4,h5,h6,h7⟩:=L35_eq ls uid hl k h2 h3
 rw [Nat.zero_add] at h1
 have e48:F48c36 ((ls,((),()),()),((uid,()),()))=some ((k:Int),((uid,()),())):=by
  simp only [F48c36,L48_eq ls uid hl,h1,oBs]
 have hk:¬ ((k:Int)=-1):=by omega
 have hi:(i:Int)<=(M.length:Int):=by omega
 have hlt:(List.take i M).length=i:=by rw [lTk];omega
 have hi2:(i:Int)<=((List.take i M++List.replicate (M.length-i) ((0:Int),((0:UInt8),(([]:(List UInt8)),())))++List.drop (i+(M.length-i)) M).length:Int):=by
  simp only [lAp,hlt,List.length_replicate];omega
 simp only [F35c36,e48,oBs,hk,dFl,cFf,w64_nat (show k<9223372036854775807 by omega),h4,nat_nn,hi,dTr,Bool.and_true,Int.le_refl,cTt,nCt,hi2]
 rw [lAs,List.take_left' hlt,h7]
def cut (b:Box) (uid:Int):Box×Int×Unit :=
 if check b≠0 then (empty,check b,())
 else if has b.2.2.2.1 uid then ((b.1,b.2.1,b.2.2.1,b.2.2.2.1.filter (keep uid),()),0,())
 else (empty,9,())
theorem F21_eq (b:Box) (uid:Int):F21 ((b,uid,()),())=some (cut b uid,()):=by
 have e16:=F16_eq b
 have e24:=F24_eq b
 have e34:=F34_eq b uid
 have ez:=check_zero (b:=b)
 obtain ⟨nm,v,n,ls,u⟩:=b
 cases u
 unfold cut
 simp only [F21,e16,oBs]
 generalize hc:check (nm,v,n,ls,())=c at *
 by_cases h0:c=0
 ·have R:=ez.mp h0
  obtain ⟨i,h1,h2⟩:=e34 R.few R.rise
  simp only at h1 h2
  simp only [h0,ne_eq,not_true_eq_false,↓reduceIte,dTr,nTr,cFf,h1,oBs]
  cases hh:has ls uid
  ·simp [empty]
  ·simp only [nTr,cFf,e24 R.few (λl hl=>(R.each l hl).2.2.2),oBs,F35_eq ls uid R.few hh,↓reduceIte]
 ·simp [h0,empty]
def lay (how:Int) (was f:UInt8):UInt8:=if how=0 then f else if how=1 then was ||| f else was &&& ~~~f
def stpB (how:Int) (was f:UInt8) (bit is:UInt8):UInt8 :=
 if (decide (how=0)&&decide (f/bit % 2=1)||decide (how=1)&&(decide (was/bit % 2=1)||decide (f/bit % 2=1))||decide (how=2)&&decide (was/bit % 2=1)&&!decide (f/bit % 2=1)) then is+bit else is
def bits (how:Int) (was f:UInt8):UInt8:=stpB how was f 16 (stpB how was f 8 (stpB how was f 4 (stpB how was f 2 (stpB how was f 1 0))))
def relay (uid how:Int) (f:UInt8) (a:Ltr):Ltr:=if a.1=uid then (a.1,lay how a.2.1 f,a.2.2.1,()) else a
def flag (b:Box) (uid how:Int) (f:UInt8):Box×Int×Unit :=
 if check b≠0 then (empty,check b,())
 else if how<0\/2<how\/32<=f.toNat then (empty,2,())
 else if has b.2.2.2.1 uid then ((b.1,b.2.1,b.2.2.1,b.2.2.2.1.map (relay uid how f),()),0,())
 else (empty,9,())
theorem rise_inj {ls:List Ltr} (h:ls.Pairwise (λa b=>a.1<b.1)) {i j:Nat} (hi:i<ls.length) (hj:j<ls.length) (he:ls[i].1=ls[j].1):i=j:=by
 rcases Nat.lt_trichotomy i j with h' | h' | h'
 ·have:=List.pairwise_iff_getElem.mp h i j hi hj h';omega
 ·exact h'
 ·have:=List.pairwise_iff_getElem.mp h j i hj hi h';omega
theorem set_map {ls:List Ltr} (h:ls.Pairwise (λa b=>a.1<b.1)) {uid:Int} {i:Nat} (hi:i<ls.length) (he:(ls.getD i nol).1=uid) (g:Ltr->Ltr) :
  ls.set i (g (ls.getD i nol))=ls.map λa=>if a.1=uid then g a else a:=by
 have e:ls.getD i nol=ls[i]:=by rw [gDe,List.getElem?_eq_getElem hi];rfl
 rw [e] at he ⊢
 refine List.ext_getElem (by simp) λk hk1 hk2=>?_
 rw [List.length_set] at hk1
 rw [List.getElem_set,List.getElem_map]
 by_cases hk:i=k
 ·subst hk
  simp [he]
 ·have:¬ (ls[k].1=uid):=λhq=>hk (rise_inj h hi hk1 (by rw [he,hq]))
  simp [hk,this]
theorem F20_eq (b:Box) (uid how:Int) (f:UInt8):F20 ((b,uid,how,f,()),())=some (flag b uid how f,()):=by
 have e16:=F16_eq b
 have e24:=F24_eq b
 have e34:=F34_eq b uid
 have ez:=check_zero (b:=b)
 obtain ⟨nm,v,n,ls,u⟩:=b
 cases u
 unfold flag
 simp only [F20,e16,oBs]
 generalize hc:check (nm,v,n,ls,())=c at *
 by_cases h0:c=0
 ·have R:=ez.mp h0
  obtain ⟨i,h1,h2⟩:=e34 R.few R.rise
  simp only at h1 h2
  simp only [h0,ne_eq,not_true_eq_false,↓reduceIte,dTr,nTr,cFf,h1,oBs]
  by_cases hb:how<0\/2<how\/32<=f.toNat
  ·have e:(decide (how<0)||decide (2<how)||decide (UInt8.toNat 32<=f.toNat))=true:=by
    simp only [Bool.or_eq_true,dTe,show UInt8.toNat 32=32 from rfl];omega
   simp only [e,cTt,hb,↓reduceIte,empty]
  ·have e:(decide (how<0)||decide (2<how)||decide (UInt8.toNat 32<=f.toNat))=false:=by
    simp only [Bool.or_eq_false_iff,decide_eq_false_iff_not,show UInt8.toNat 32=32 from rfl];omega
   simp only [e,cFf,hb,↓reduceIte]
   cases hh:has ls uid
   ·simp [empty]
   ·obtain ⟨hi,he⟩:=h2 hh
    have s:=set_map R.rise hi he (λa=>(a.1,lay how a.2.1 f,a.2.2.1,()))
    have hm:(λa:Ltr=>if a.1=uid then (a.1,lay how a.2.1 f,a.2.2.1,()) else a)=relay uid how f:=rfl
    rw [hm] at s
    simp only at s
    rw [<- s]
    simp only [nTr,cFf,e24 R.few (λl hl=>(R.each l hl).2.2.2),oBs,nat_nn,nat_lt,hi,dTr,Bool.and_true,cTt,nCt,↓reduceIte]
    obtain rfl | rfl | rfl:how=0\/how=1\/how=2:=by omega
    ·rfl
    ·rfl
    ·rfl
 ·simp [h0,empty]
end Go.Bx
namespace Go.Ev
open Go Go.WideShapes
def sizD:(t:Ty)->t.den->Nat
 | .int _,_=>1
 | .u8,_=>1
 | .bool,_=>1
 | .str,l=>List.length l+1
 | .sl t,l=>(List.map (sizD t) l).sum
 | .unit,_=>0
 | .pair a b,p=>sizD a p.1+sizD b p.2
 | .ln t,x=>sizD t x
 | .rg t,x=>sizD t x
 | .pt _,_=>0
 | .mp _ _ _,_=>0
 | .mx _,_=>0
theorem sizD_u8 (l:List UInt8):sizD (.sl .u8) l=l.length:=by
 show (List.map (sizD .u8) l).sum=l.length
 induction l with
 | nil=>rfl
 | cons a l ih=>rw [List.map_cons,List.sum_cons,ih,List.length_cons];show 1+l.length=_;omega
structure Bulk {H:Type} (bulk:DataW H->Nat):Prop where
 str:∀ b,b.length+1<=bulk (.lit (.string b))
 lit:∀ l,1<=bulk (.lit l)
 sl:∀ es sp,(List.map bulk es).sum<=bulk (.slice es sp)
 agg:∀ ps,(List.map bulk ps).sum<=bulk (.agg ps)
section
variable {P:Program} {w:World} {H:Type} {enc:TypeId×Value->H} {base:Nat} {spare:Nat->Bool} {held:Bool} {bulk:DataW H->Nat}
def OpensB (bulk:DataW H->Nat) (P:Program) (w:World) (enc:TypeId×Value->H) (base:Nat) (spare:Nat->Bool) (held:Bool) (d:Nat):Prop :=
 ∀ (fuel:Nat) (t:TypeId) (y:Ty) (cs:List Value) (x:DataW H×List MemPlace),tyOf P d t=some y->layB P d t=true->DataW.trod enc P w base spare held fuel t cs=some x->∃ v:y.den,RelD w noNN y v cs/\fitD y v/\sizD y v<=bulk x.1
theorem open_fieldsB {d:Nat} (ih:OpensB bulk P w enc base spare held d) {n:Nat}:∀ (fs:List Field) (off:Nat) (y:Ty) (cs:List Value) (xs:List (DataW H×List MemPlace)),
  fs.foldr (λf r=>match tyOf P d f.type,r with
    | some a,some b=>some (Ty.pair a b)
    | _,_=>none) (some .unit)=some y ->
  layF P (layB P d) fs off cs.length=true->xs.length=fs.length->(∀ (i:Nat) f,fs[i]?=some f->DataW.trod enc P w base spare held n f.type ((cs.drop f.offset).take (P.cellsOf f.type))=xs[i]?) ->
  ∃ v:y.den,RelD w noNN y v (cs.drop off)/\fitD y v/\sizD y v<=(List.map bulk (xs.map (·.1))).sum
 | [],off,y,cs,xs,hy,hl,hx,_=>by
  simp only [List.foldr_nil,oSi] at hy
  subst hy
  simp only [layF] at hl
  have:=nEb hl
  subst this
  exact ⟨(),by simp [RelD],trivial,Nat.zero_le _⟩
 | f::fs,off,y,cs,[],hy,hl,hx,hm=>by simp at hx
 | f::fs,off,y,cs,x::xs,hy,hl,hx,hm=>by
  simp only [List.foldr_cons] at hy
  cases ha:tyOf P d f.type with
  | none=>simp [ha] at hy
  | some a =>
   cases hb:fs.foldr (λf r=>match tyOf P d f.type,r with
    | some a,some b=>some (Ty.pair a b)
    | _,_=>none) (some .unit) with
   | none=>rw [hb] at hy;simp [ha] at hy
   | some b =>
    rw [hb] at hy
    simp only [ha,oSi] at hy
    subst hy
    simp only [layF,bAt] at hl
    obtain ⟨⟨h1,h2⟩,h3⟩:=hl
    have h1:=nEb h1
    have hz:=hm 0 f (by simp)
    rw [h1,show (x::xs)[0]?=some x by simp] at hz
    obtain ⟨v1,g1,g2,g5⟩:=ih n f.type a _ x ha h2 hz
    obtain ⟨v2,g3,g4,g6⟩:=open_fieldsB ih fs (off+P.cellsOf f.type) b cs xs hb h3 (by simpa using hx) λi f' hf'=>by
     have:=hm (i+1) f' (by simpa using hf')
     simpa using this
    refine ⟨(v1,v2),?_,⟨g2,g4⟩,?_⟩
    ·simp only [RelD]
     refine ⟨_,_,?_,g1,g3⟩
     rw [<- List.drop_drop,List.take_append_drop]
    ·simp only [sizD,List.map_cons,List.sum_cons]
     omega
theorem sum_le_idx {α β:Type} (f:α->Nat) (g:β->Nat):∀ (l:List α) (r:List β),l.length=r.length->(∀ i,(h:i<l.length)->(h':i<r.length)->f l[i]<=g r[i])->(l.map f).sum<=(r.map g).sum
 | [],_,_,_=>Nat.zero_le _
 | a::l,[],h,_=>by simp at h
 | a::l,b::r,h,hi=>by
  have h0:=hi 0 (by simp) (by simp)
  have ih:=sum_le_idx f g l r (by simpa using h) λi h1 h2=>by
   have:=hi (i+1) (by simp;omega) (by simp;omega)
   simpa using this
  simp only [List.map_cons,List.sum_cons]
  simp only [List.getElem_cons_zero] at h0
  omega
theorem opensB (hB:Bulk bulk):∀ d,OpensB bulk P w enc base spare held d
 | 0=>λfuel t y cs x hy=>by simp [tyOf] at hy
 | d+1=>λfuel t y cs x hy hl h=>by
  have ih:OpensB bulk P w enc base spare held d:=opensB hB d
  unfold layB at hl
  unfold tyOf at hy
  cases hu:P.underlying t with
  | none=>simp [hu] at hl
  | some u =>
   simp only [hu] at hl hy
   cases u <;> simp only [Bool.false_eq_true] at hl
   case int k =>
    obtain ⟨n,rfl,hx,hw⟩:=DataW.trod_int hu h
    have hb:1<=bulk x.1:=by rw [hx];exact hB.lit _
    cases k <;> simp only [oSi] at hy <;> subst hy
    case u8 =>
     have hw':0<=n/\n<=255:=by simpa [Lit.wf,IntKind.min,IntKind.max,IntKind.signed,IntKind.bits] using hw
     refine ⟨UInt8.ofNat n.toNat,?_,trivial,hb⟩
     have hn:((UInt8.ofNat n.toNat).toNat:Int)=n:=by
      simp only [UInt8.toNat_ofNat']
      omega
     simp only [RelD,hn]
    all_goals exact ⟨n,by simp [RelD],hw,hb⟩
   case bool =>
    obtain ⟨b,rfl,hx⟩:=DataW.trod_bool hu h
    have hb:1<=bulk x.1:=by rw [hx];exact hB.lit _
    simp only [oSi] at hy
    subst hy
    exact ⟨b,by simp [RelD],trivial,hb⟩
   case string =>
    obtain ⟨s,rfl,hx,hs⟩:=DataW.trod_string hu h
    have hb:s.data.toList.length+1<=bulk x.1:=by rw [hx];exact hB.str _
    simp only [oSi] at hy
    subst hy
    exact ⟨s.data.toList,by simp [RelD],by simpa [fitD] using hs,hb⟩
   case slice e =>
    simp only [bAt] at hl
    obtain ⟨hl1,hl2⟩:=hl
    cases ht:tyOf P d e with
    | none=>simp [ht] at hy
    | some ye =>
     simp only [ht,Option.map_some,oSi] at hy
     subst hy
     simp only [ht,bAt] at hl2
     have hsz:=nEb hl2.1
     have hpos:=Nat.le_of_ble_eq_true hl2.2
     rcases DataW.trod_slice hu h with ⟨rfl,_⟩ | ⟨a,len,cap,elems,rest,n,_,rfl,hx,hb,hlc,hcm,hel,heach,_⟩
     ·exact ⟨[],⟨none,0,rfl,Nat.le_refl _,λhp=>absurd hp (by simp)⟩,by simp [fitD],Nat.zero_le _⟩
     ·have hev:∀ i,i<len->∃ (x:ye.den),∃ es,w.cells? base (a.add (i*P.cellsOf e)) (P.cellsOf e)=some es/\RelD w noNN ye x es/\fitD ye x/\∀ z,elems[i]?=some z->sizD ye x<=bulk z.1:=λi hi=>by
       have h1:=heach i hi
       have h2:elems[i]?=some (elems[i]'(by omega)):=List.getElem?_eq_getElem _
       rw [h2,Option.bind_eq_some_iff] at h1
       obtain ⟨es,h3,h4⟩:=h1
       obtain ⟨v,g1,g2,g3⟩:=ih n e ye es _ ht hl1 h4
       exact ⟨v,es,h3,g1,g2,λz hz=>by rw [h2,oSi] at hz;rw [<- hz];exact g3⟩
      obtain ⟨l,hl3,hl4⟩:=pick_list len hev
      have hspot:0<len->a.spot=none/\a.block<w.heap.size:=λhp=>by
       obtain ⟨es,h3,_⟩:=hl4 0 (by omega)
       obtain ⟨_,h5,h6⟩:=World.cells?_some h3
       have h7:=h6 0 (by omega)
       have h8:es[0]?=some (es[0]'(by omega)):=List.getElem?_eq_getElem _
       rw [h8] at h7
       have h9:(a.add (0*P.cellsOf e)).add 0=a:=by simp [Addr.add]
       rw [h9] at h7
       exact ⟨World.cell?_spot h7,World.block_lt_of_cell? w _ h7⟩
      refine ⟨l,?_,?_,?_⟩
      ·simp only [RelD]
       refine ⟨some a,cap,by rw [hl3],by omega,λhp=>?_⟩
       obtain ⟨h1,h2⟩:=hspot (by omega)
       refine ⟨a.block,a.off,?_,λh=>lnN_le (N:=noNN) (tyOf_rg ht) h,h2,λh=>False.elim h,λi hi=>?_⟩
       ·obtain ⟨b,o,s⟩:=a
        simp only at h1
        subst h1
        rfl
       ·obtain ⟨es,h3,h4,_⟩:=hl4 i hi
        have hsp:(a.add (i*P.cellsOf e)).spot=none:=by
         unfold Addr.add;split
         ·exact h1
         ·rfl
        obtain ⟨h5,h6⟩:=cells_row hsp h3
        refine ⟨es,by rw [h5,hsz],?_,h4⟩
        have hbo:(a.add (i*P.cellsOf e)).block=a.block/\(a.add (i*P.cellsOf e)).off=a.off+i*ye.size:=by
         unfold Addr.add
         split
         ·rename_i h0;rw [<- hsz,h0];exact ⟨rfl,rfl⟩
         ·rw [<- hsz];exact ⟨rfl,rfl⟩
        rw [hbo.1,hbo.2] at h6
        exact h6
      ·simp only [fitD]
       refine ⟨by omega,λx hx=>?_⟩
       obtain ⟨i,hi,rfl⟩:=List.getElem_of_mem hx
       obtain ⟨_,_,_,h5,_⟩:=hl4 i hi
       exact h5
      ·rw [hx]
       refine Nat.le_trans ?_ (hB.sl _ _)
       rw [List.map_map]
       exact sum_le_idx (sizD ye) (bulk ∘ λx=>x.1) l elems (by omega) λi h1 h2=>by
        obtain ⟨_,_,_,_,h5⟩:=hl4 i h1
        exact h5 _ (List.getElem?_eq_getElem h2)
   case struct fs =>
    obtain ⟨xs,n,_,hx,hlen,hxl,heach⟩:=DataW.trod_struct hu h
    obtain ⟨v,h1,h2,h3⟩:=open_fieldsB ih (n:=n) fs.toList 0 y cs xs hy (by rw [hlen];exact hl) (by simpa using hxl) λi f hf=>heach i f (by simpa using hf)
    refine ⟨v,by simpa using h1,h2,Nat.le_trans h3 ?_⟩
    rw [hx]
    exact hB.agg _
theorem open_argB (hB:Bulk bulk) {T:Tb} {t:TypeId} {v:Value} {dv:DataW H} {ps:List MemPlace} (y:Ty) (hy:tyOf P 12 t=some y) (hl:layB P 12 t=true) (h:DataW.Trod enc P w base spare held t v dv ps) :
  ∃ x:y.den,RelVs w (Not (noF:Frm T) (λ_=>none) λ_=>.dead) (λ_=>none) (λ_=>.dead) (encc y x) v.cells.toList/\fitD y x/\sizD y x<=bulk dv:=by
 obtain ⟨fuel,h⟩:=h
 obtain ⟨x,h1,h2,h3⟩:=opensB hB 12 fuel t y _ _ hy hl h
 exact ⟨x,RelVs_encc (h1.keep (Keep.refl w) ⟨λg _ hn=>(noN g hn).elim,λg _ hn=>(noN g (NN.le _ g hn)).elim,λ_ _ h=>False.elim h,λ_ _ h=>False.elim h⟩),h2,h3⟩
end
end Go.Ev
namespace Go.Bx
open Go Go.Ev
set_option maxRecDepth 100000
theorem fit_box {x:Box} (h1:x.2.2.2.1.length<=33) (h2:∀ l∈x.2.2.2.1,l.2.2.1.length<=600):fitB BxR x=true:=by
 simp only [fitB,Bool.true_and,Bool.and_true,bAt,dTe]
 refine ⟨by omega,List.all_eq_true.2 λl hm=>?_⟩
 have:=h2 l hm
 simp only [bAt,dTe]
 exact ⟨by omega,List.all_eq_true.2 λ_ _=>rfl⟩
theorem fit_empty:fitB BxR empty=true:=rfl
theorem fit_add (b:Box) (f:UInt8) (p:List UInt8):fitB BxR (add b f p).1=true:=by
 unfold add
 split
 ·exact fit_empty
 ·rename_i h0
  have R:=check_zero.mp (Classical.not_not.mp h0)
  split
  ·exact fit_empty
  ·split
   ·exact fit_empty
   ·rename_i hp
    split
    ·exact fit_empty
    ·refine fit_box ?_ λl hm=>?_
     ·have:=R.few
      simp only [lAp,List.length_cons,List.length_nil];omega
     ·rcases List.mem_append.1 hm with hm | hm
      ·exact (R.each l hm).2.2.2
      ·simp only [List.mem_singleton] at hm
       subst hm
       show p.length<=600
       omega
theorem fit_flag (b:Box) (uid how:Int) (f:UInt8):fitB BxR (flag b uid how f).1=true:=by
 unfold flag
 split
 ·exact fit_empty
 ·rename_i h0
  have R:=check_zero.mp (Classical.not_not.mp h0)
  split
  ·exact fit_empty
  ·split
   ·refine fit_box ?_ λl hm=>?_
    ·have:=R.few
     simp only [List.length_map];omega
    ·obtain ⟨k,hk,rfl⟩:=List.mem_map.1 hm
     have:=(R.each k hk).2.2.2
     unfold relay
     split <;> exact this
   ·exact fit_empty
theorem fit_cut (b:Box) (uid:Int):fitB BxR (cut b uid).1=true:=by
 unfold cut
 split
 ·exact fit_empty
 ·rename_i h0
  have R:=check_zero.mp (Classical.not_not.mp h0)
  split
  ·refine fit_box ?_ λl hm=>(R.each l (List.mem_filter.1 hm).1).2.2.2
   have:=R.few
   have:=List.length_filter_le (keep uid) b.2.2.2.1
   show (List.filter (keep uid) b.2.2.2.1).length<=33
   omega
  ·exact fit_empty
theorem L9_eq (p:List UInt8) (nm:List UInt8) (v n:Int) (ls:List Ltr) (t1 t2:Int) (t3:UInt8) (hl:ls.length<=1100000) (hb:∀ l∈ls,l.2.2.1.length<=1100000) :
  L9_0 ((p,(),(),(),(0:Int),()),((nm,v,n,ls,()),(t1,t2,t3,()),(nm,v,n,(),()),[],()))=some ((p,(),(),(),()),((nm,v,n,ls,()),(t1,t2,t3,()),(nm,v,n,(),()),ls,())):=by
 have hF:=FUEL_big
 have h:=walk_list (f:=B9_0) (λ(_:Unit) i=>((p,(),(),(),(i:Int),()),((nm,v,n,ls,()),(t1,t2,t3,()),(nm,v,n,(),()),ls.take i,()))) ls (λ_ _=>.inl ())
  (λ_=>((p,(),(),(),()),((nm,v,n,ls,()),(t1,t2,t3,()),(nm,v,n,(),()),ls,()))) (b:=()) (λb i a hi ha=>?_) (λb=>?_) (by omega)
 ·rw [foldS_const] at h
  exact h
 ·have ha0:ls[i]=a:=by
   have:=ha (0,0,[],())
   rwa [gDe,List.getElem?_eq_getElem hi,Option.getD_some] at this
  have hm:a∈ls:=ha0 ▸ List.getElem_mem hi
  have hba:=hb a hm
  have b1:bytesOK (0+a.2.2.1.length) 1=true:=bytes_ok (by omega)
  have b2:bytesOK ((ls.take i).length+[(a.1,a.2.1,a.2.2.1,())].length) 40=true:=bytes_ok (by simp only [lTk,List.length_cons,List.length_nil];omega)
  have ht:ls.take i++[(a.1,a.2.1,a.2.2.1,())]=ls.take (i+1):=by
   rw [List.take_succ_eq_append_getElem hi,ha0]
  simp only [B9_0,nat_lt,nat_nn,hi,dTr,Bool.and_true,cTt,oBs,nCt,ha,List.nil_append,b1,b2,w64_nat (show i<9223372036854775807 by omega),ht]
 ·simp only [B9_0,Int.lt_irrefl,dFl,cFf,List.take_length]
theorem law9 (b:Box) (p:List UInt8) (t1 t2:Int) (t3:UInt8) (hl:b.2.2.2.1.length<=1100000) (hb:∀ l∈b.2.2.2.1,l.2.2.1.length<=1100000):F9 ((b,p,(t1,t2,t3,()),()),())=some (true,()):=by
 have e10:=F10_eq b 0 p
 have e20:=F20_eq b t1 t2 t3
 have e21:=F21_eq b t1
 have hm:maxLen=9223372036854775807:=rfl
 have e13:=F13_self b (by omega)
 have f1:=fit_add b 0 p
 have f2:=fit_flag b t1 t2 t3
 have f3:=fit_cut b t1
 obtain ⟨nm,v,n,ls,u⟩:=b
 cases u
 have eL:=L9_eq p nm v n ls t1 t2 t3 hl hb
 simp only [F9,eL,oBs,L9_1,M9_1,List.getD_cons_zero,e10,e20,e21,B9_1,R9_1,live12,e13,cTt,dTr,Bool.and_true]
 have hw:wrFit ((add (nm,v,n,ls,()) 0 p).1,(flag (nm,v,n,ls,()) t1 t2 t3).1,(cut (nm,v,n,ls,()) t1).1,())=true:=by
  simp only [wrFit,f1,f2,f3,Bool.and_true]
 first
  | (rw [hw];rfl)
  | (erw [hw];rfl)
theorem sum_each {α:Type} {g:α->Nat}:∀ {l:List α},(∀ x∈l,1<=g x)->l.length<=(l.map g).sum/\∀ x∈l,g x<=(l.map g).sum
 | [],_=>⟨Nat.le_refl _,λ_ h=>absurd h (List.not_mem_nil)⟩
 | a::t,h=>by
  obtain ⟨h1,h2⟩:=sum_each (g:=g) (l:=t) λx hx=>h x (List.mem_cons_of_mem _ hx)
  have h0:=h a List.mem_cons_self
  simp only [List.map_cons,List.sum_cons,List.length_cons]
  refine ⟨by omega,λx hx=>?_⟩
  rcases List.mem_cons.1 hx with rfl | hx
  ·omega
  ·have:=h2 x hx;omega
theorem ltr_size (l:Ltr):sizD LtT l=2+l.2.2.1.length:=by
 have h:(List.map (sizD .u8) l.2.2.1).sum=l.2.2.1.length:=sizD_u8 _
 show 1+(1+((List.map (sizD .u8) l.2.2.1).sum+0))=_
 rw [h];omega
theorem law9' (b:Box) (p:List UInt8) (t:Int×Int×UInt8×Unit) (hz:sizD BxT b<=1100000):F9 ((b,p,t,()),())=some (true,()):=by
 obtain ⟨t1,t2,t3,u⟩:=t
 cases u
 have hs:(List.map (sizD LtT) b.2.2.2.1).sum<=1100000:=by
  have:(b.1.length+1)+(1+(1+((List.map (sizD LtT) b.2.2.2.1).sum+0)))<=1100000:=hz
  omega
 obtain ⟨h1,h2⟩:=sum_each (g:=sizD LtT) (l:=b.2.2.2.1) λx _=>by rw [ltr_size];omega
 exact law9 b p t1 t2 t3 (by omega) λl hl=>by have:=h2 l hl;rw [ltr_size] at this;omega
end Go.Bx
