/- Texts that the last one leans on, 8. -/
import Derived.Test.YtijhleakepbahaaGreatDoorZG
import Derived.Lib.TrimAscii
namespace Go.Qb
open Go Go.Ev Go.Qy Go.Sort Go.RowKit Go.Proofs
set_option maxRecDepth 100000
section
abbrev Pr:Type:=Int×(Int×Unit)
def ins (p:Pr) (n:Int):Prop:=p.1<=n/\n<=p.2.1
def mem (l:List Pr) (n:Int):Prop:=∃ p,p∈l/\ins p n
structure Can (l:List Pr):Prop where
 rise:l.Pairwise (λa b=>a.2.1+1<b.1)
 full:∀ p∈l,p.1<=p.2.1
theorem mem_nil (n:Int):¬ mem [] n:=λ⟨_,h,_⟩=>by cases h
theorem mem_cons {a:Pr} {t:List Pr} {n:Int}:mem (a::t) n<->ins a n\/mem t n:=by
 constructor
 ·rintro ⟨p,hp,h⟩
  rcases List.mem_cons.mp hp with rfl | hp
  ·exact .inl h
  ·exact .inr ⟨p,hp,h⟩
 ·rintro (h | ⟨p,hp,h⟩)
  ·exact ⟨a,List.mem_cons_self ..,h⟩
  ·exact ⟨p,List.mem_cons_of_mem _ hp,h⟩
theorem mem_append {a t:List Pr} {n:Int}:mem (a++t) n<->mem a n\/mem t n:=by
 constructor
 ·rintro ⟨p,hp,h⟩
  rcases List.mem_append.mp hp with hp | hp
  ·exact .inl ⟨p,hp,h⟩
  ·exact .inr ⟨p,hp,h⟩
 ·rintro (⟨p,hp,h⟩ | ⟨p,hp,h⟩)
  ·exact ⟨p,List.mem_append_left _ hp,h⟩
  ·exact ⟨p,List.mem_append_right _ hp,h⟩
theorem mem_one {a:Pr} {n:Int}:mem [a] n<->ins a n:=by
 rw [mem_cons]
 exact ⟨λh=>h.elim id λh=>absurd h (mem_nil n),.inl⟩
theorem Can.nil:Can []:=⟨List.Pairwise.nil,λ_ h=>by cases h⟩
theorem Can.tail {a:Pr} {t:List Pr} (h:Can (a::t)):Can t:=⟨(List.pairwise_cons.mp h.rise).2,λp hp=>h.full p (List.mem_cons_of_mem _ hp)⟩
theorem Can.least {a:Pr} {t:List Pr} (h:Can (a::t)) {n:Int} (hn:mem t n):a.2.1+1<n:=by
 obtain ⟨p,hp,h1,_⟩:=hn
 have:=(List.pairwise_cons.mp h.rise).1 p hp
 omega
theorem can_unique:∀ {l l':List Pr},Can l->Can l'->(∀ n,mem l n<->mem l' n)->l=l'
 | [],[],_,_,_=>rfl
 | [],b::t,_,hb,h=>by
  have:=(h b.1).mpr (mem_cons.mpr (.inl ⟨Int.le_refl _,hb.full b (List.mem_cons_self ..)⟩))
  exact absurd this (mem_nil _)
 | a::t,[],ha,_,h=>by
  have:=(h a.1).mp (mem_cons.mpr (.inl ⟨Int.le_refl _,ha.full a (List.mem_cons_self ..)⟩))
  exact absurd this (mem_nil _)
 | a::t,b::s,ha,hb,h=>by
  have fa:=ha.full a (List.mem_cons_self ..)
  have fb:=hb.full b (List.mem_cons_self ..)
  have low:∀ {x y:Pr} {u v:List Pr},Can (y::v)->(∀ n,mem (x::u) n<->mem (y::v) n)->x.1<=x.2.1->y.1<=y.2.1->y.1<=x.1:=λ{x y u v} hy h hx hyf=>by
   rcases mem_cons.mp ((h x.1).mp (mem_cons.mpr (.inl ⟨Int.le_refl _,hx⟩))) with h' | h'
   ·exact h'.1
   ·have:=hy.least h';omega
  have e1:a.1=b.1:=by
   have:=low hb h fa fb
   have:=low ha (λn=>(h n).symm) fb fa
   omega
  have high:∀ {x y:Pr} {u v:List Pr},Can (x::u)->(∀ n,mem (x::u) n<->mem (y::v) n)->x.1=y.1->x.1<=x.2.1->y.1<=y.2.1->y.2.1<=x.2.1:=λ{x y u v} hx h e f1 f2=>by
   rcases Int.lt_or_le x.2.1 y.2.1 with hlt | hle
   ·rcases mem_cons.mp ((h (x.2.1+1)).mpr (mem_cons.mpr (.inl ⟨by omega,by omega⟩))) with h' | h'
    ·have:=h'.2;omega
    ·have:=hx.least h';omega
   ·exact hle
  have e2:a.2.1=b.2.1:=by
   have:=high ha h e1 fa fb
   have:=high hb (λn=>(h n).symm) e1.symm fb fa
   omega
  have e:a=b:=by
   obtain ⟨x,y,u⟩:=a
   obtain ⟨x',y',u'⟩:=b
   simp only at e1 e2
   subst e1 e2
   rfl
  subst e
  have ht:∀ n,mem t n<->mem s n:=λn=>by
   constructor
   ·intro hn
    rcases mem_cons.mp ((h n).mp (mem_cons.mpr (.inr hn))) with h' | h'
    ·have:=ha.least hn;have:=h'.2;omega
    ·exact h'
   ·intro hn
    rcases mem_cons.mp ((h n).mpr (mem_cons.mpr (.inr hn))) with h' | h'
    ·have:=hb.least hn;have:=h'.2;omega
    ·exact h'
  rw [can_unique ha.tail hb.tail ht]
abbrev nop:Pr:=(0,0,())
def mstep (out:List Pr) (p:Pr):List Pr :=
 if 0<out.length/\p.1<=(out.getD (out.length-1) nop).2.1+1 then out.set (out.length-1) ((out.getD (out.length-1) nop).1,if (out.getD (out.length-1) nop).2.1<p.2.1 then p.2.1 else (out.getD (out.length-1) nop).2.1,())
 else out++[p]
theorem last_set:∀ (a:List Pr) (x y:Pr),(a++[x]).set a.length y=a++[y]
 | [],_,_=>rfl
 | b::a,x,y=>by
  simp only [List.cons_append,List.length_cons,List.set_cons_succ,last_set a x y]
theorem last_get (a:List Pr) (x d:Pr):(a++[x]).getD a.length d=x:=by
 rw [List.getD_eq_getElem?_getD,List.getElem?_append_right (Nat.le_refl _)]
 simp
theorem mstep_ok {out:List Pr} {p:Pr} (hc:Can out) (hp:p.1<=p.2.1) (hl:∀ q∈out,q.1<=p.1) :
  Can (mstep out p)/\(∀ n,mem (mstep out p) n<->mem out n\/ins p n)/\∀ q∈mstep out p,q.1<=p.1:=by
 rcases List.eq_nil_or_concat out with rfl | ⟨a,q,rfl⟩
 ·have e:mstep [] p=[p]:=rfl
  rw [e]
  refine ⟨⟨List.pairwise_singleton _ _,λx hx=>?_⟩,λn=>?_,λx hx=>?_⟩
  ·rw [List.mem_singleton.mp hx];exact hp
  ·rw [mem_one];exact ⟨.inr,λh=>h.elim (λh=>absurd h (mem_nil n)) id⟩
  ·rw [List.mem_singleton.mp hx];exact Int.le_refl _
 ·rw [List.concat_eq_append] at *
  have hlen:(a++[q]).length-1=a.length:=by simp
  have hpos:0<(a++[q]).length:=by simp
  have hq:=hl q (by simp)
  have fq:=hc.full q (by simp)
  obtain ⟨r1,_,r3⟩:=List.pairwise_append.mp hc.rise
  unfold mstep
  rw [hlen,last_get,last_set]
  by_cases ht:p.1<=q.2.1+1
  ·rw [if_pos ⟨hpos,ht⟩]
   refine ⟨⟨List.pairwise_append.mpr ⟨r1,List.pairwise_singleton _ _,λx hx y hy=>?_⟩,λx hx=>?_⟩,λn=>?_,λx hx=>?_⟩
   ·rw [List.mem_singleton.mp hy];exact r3 x hx q (by simp)
   ·rcases List.mem_append.mp hx with hx | hx
    ·exact hc.full x (List.mem_append_left _ hx)
    ·rw [List.mem_singleton.mp hx];simp only;split <;> omega
   ·rw [mem_append,mem_append,mem_one,mem_one,or_assoc]
    refine or_congr Iff.rfl ?_
    simp only [ins]
    split <;> omega
   ·rcases List.mem_append.mp hx with hx | hx
    ·exact hl x (List.mem_append_left _ hx)
    ·rw [List.mem_singleton.mp hx];exact hq
  ·rw [if_neg (λh=>ht h.2)]
   refine ⟨⟨List.pairwise_append.mpr ⟨hc.rise,List.pairwise_singleton _ _,λx hx y hy=>?_⟩,λx hx=>?_⟩,λn=>?_,λx hx=>?_⟩
   ·rw [List.mem_singleton.mp hy]
    rcases List.mem_append.mp hx with hx | hx
    ·have:=r3 x hx q (by simp)
     omega
    ·rw [List.mem_singleton.mp hx];omega
   ·rcases List.mem_append.mp hx with hx | hx
    ·exact hc.full x hx
    ·rw [List.mem_singleton.mp hx];exact hp
   ·rw [mem_append (t:=[p]),mem_one]
   ·rcases List.mem_append.mp hx with hx | hx
    ·exact hl x hx
    ·rw [List.mem_singleton.mp hx];exact Int.le_refl _
theorem merge_ok:∀ (l out:List Pr),Can out->(∀ q∈out,∀ p∈l,q.1<=p.1)->l.Pairwise (λa b=>a.1<=b.1)->(∀ p∈l,p.1<=p.2.1) ->
  Can (l.foldl mstep out)/\∀ n,mem (l.foldl mstep out) n<->mem out n\/mem l n
 | [],out,hc,_,_,_=>⟨hc,λn=>⟨.inl,λh=>h.elim id λh=>absurd h (mem_nil n)⟩⟩
 | p::l,out,hc,hl,hs,hf=>by
  obtain ⟨s1,s2⟩:=List.pairwise_cons.mp hs
  obtain ⟨m1,m2,m3⟩:=mstep_ok hc (hf p (List.mem_cons_self ..)) (λq hq=>hl q hq p (List.mem_cons_self ..))
  obtain ⟨g1,g2⟩:=merge_ok l (mstep out p) m1 (λq hq x hx=>by
   have:=m3 q hq
   have:=s1 x hx
   omega) s2 (λx hx=>hf x (List.mem_cons_of_mem _ hx))
  refine ⟨g1,λn=>?_⟩
  rw [List.foldl_cons,g2 n,m2 n,mem_cons,or_assoc]
def apart (r p:Pr):Prop:=r.2.1+1<p.1\/p.2.1+1<r.1
instance (r p:Pr):Decidable (apart r p):=by unfold apart;exact inferInstance
def astep (st:Pr×List Pr) (o:Pr):Pr×List Pr :=
 if apart o st.1 then (st.1,st.2++[o])
 else ((if o.1<st.1.1 then o.1 else st.1.1,if st.1.2.1<o.2.1 then o.2.1 else st.1.2.1,()),st.2)
theorem absorb_ok:∀ (l:List Pr) (p:Pr) (rest:List Pr),Can (rest++l)->p.1<=p.2.1->(∀ r∈rest,apart r p) ->
  Can (l.foldl astep (p,rest)).2/\(l.foldl astep (p,rest)).1.1<=(l.foldl astep (p,rest)).1.2.1/\(∀ r∈(l.foldl astep (p,rest)).2,apart r (l.foldl astep (p,rest)).1) /\
  ∀ n,(mem (l.foldl astep (p,rest)).2 n\/ins (l.foldl astep (p,rest)).1 n)<->(mem rest n\/mem l n\/ins p n)
 | [],p,rest,hc,hp,ha=>by
  rw [List.append_nil] at hc
  exact ⟨hc,hp,ha,λn=>⟨λh=>h.elim .inl λh=>.inr (.inr h),λh=>h.elim .inl λh=>h.elim (λh=>absurd h (mem_nil n)) .inr⟩⟩
 | o::l,p,rest,hc,hp,ha=>by
  rw [List.foldl_cons]
  have fo:=hc.full o (by simp)
  by_cases h:apart o p
  ·have e:astep (p,rest) o=(p,rest++[o]):=if_pos h
   rw [e]
   obtain ⟨g1,g2,g3,g4⟩:=absorb_ok l p (rest++[o]) (by rw [List.append_assoc];exact hc) hp (λr hr=>by
    rcases List.mem_append.mp hr with hr | hr
    ·exact ha r hr
    ·rw [List.mem_singleton.mp hr];exact h)
   refine ⟨g1,g2,g3,λn=>?_⟩
   rw [g4 n,mem_append,mem_one,mem_cons,or_assoc,or_assoc]
  ·have e:astep (p,rest) o=((if o.1<p.1 then o.1 else p.1,if p.2.1<o.2.1 then o.2.1 else p.2.1,()),rest):=if_neg h
   rw [e]
   obtain ⟨r1,r2,r3⟩:=List.pairwise_append.mp hc.rise
   have hcd:Can (rest++l):=⟨List.pairwise_append.mpr ⟨r1,(List.pairwise_cons.mp r2).2,λx hx y hy=>r3 x hx y (List.mem_cons_of_mem _ hy)⟩,λx hx=>hc.full x (by
    rcases List.mem_append.mp hx with hx | hx
    ·exact List.mem_append_left _ hx
    ·exact List.mem_append_right _ (List.mem_cons_of_mem _ hx))⟩
   unfold apart at h
   obtain ⟨g1,g2,g3,g4⟩:=absorb_ok l (if o.1<p.1 then o.1 else p.1,if p.2.1<o.2.1 then o.2.1 else p.2.1,()) rest hcd (by simp only;split <;> split <;> omega) (λr hr=>by
    have h1:=r3 r hr o (List.mem_cons_self ..)
    have h2:=ha r hr
    have h3:=hc.full r (List.mem_append_left _ hr)
    unfold apart at *
    simp only
    split <;> split <;> omega)
   refine ⟨g1,g2,g3,λn=>?_⟩
   rw [g4 n,mem_cons,or_assoc]
   refine or_congr Iff.rfl ?_
   constructor
   ·rintro (h' | h')
    ·exact .inr (.inl h')
    ·have:ins o n\/ins p n:=by
      simp only [ins] at *
      split at h' <;> split at h' <;> omega
     exact this.elim .inl λh=>.inr (.inr h)
   ·rintro (h' | h' | h')
    ·right
     simp only [ins] at *
     split <;> split <;> omega
    ·exact .inl h'
    ·right
     simp only [ins] at *
     split <;> split <;> omega
def insR (p:Pr):List Pr->List Pr
 | []=>[p]
 | r::t=>if p.1<r.1 then p::r::t else r::insR p t
theorem insR_ok {p:Pr} (hp:p.1<=p.2.1):∀ {l:List Pr},Can l->(∀ r∈l,apart r p)->Can (insR p l)/\(∀ n,mem (insR p l) n<->mem l n\/ins p n)/\∀ x∈insR p l,x=p\/x∈l
 | [],_,_=>⟨⟨List.pairwise_singleton _ _,λx hx=>by rw [List.mem_singleton.mp hx];exact hp⟩,λn=>by rw [insR,mem_one];exact ⟨.inr,λh=>h.elim (λh=>absurd h (mem_nil n)) id⟩,λx hx=>.inl (List.mem_singleton.mp hx)⟩
 | r::t,hc,ha=>by
  have fr:=hc.full r (List.mem_cons_self ..)
  have h1:=ha r (List.mem_cons_self ..)
  obtain ⟨c1,c2⟩:=List.pairwise_cons.mp hc.rise
  unfold insR
  unfold apart at h1
  by_cases h:p.1<r.1
  ·rw [if_pos h]
   refine ⟨⟨List.pairwise_cons.mpr ⟨λx hx=>?_,hc.rise⟩,λx hx=>?_⟩,λn=>?_,λx hx=>?_⟩
   ·rcases List.mem_cons.mp hx with rfl | hx
    ·omega
    ·have:=c1 x hx;omega
   ·rcases List.mem_cons.mp hx with rfl | hx
    ·exact hp
    ·exact hc.full x hx
   ·rw [mem_cons (a:=p)];exact Or.comm
   ·exact List.mem_cons.mp hx
  ·rw [if_neg h]
   obtain ⟨g1,g2,g3⟩:=insR_ok hp hc.tail (λx hx=>ha x (List.mem_cons_of_mem _ hx))
   refine ⟨⟨List.pairwise_cons.mpr ⟨λx hx=>?_,g1.rise⟩,λx hx=>?_⟩,λn=>?_,λx hx=>?_⟩
   ·rcases g3 x hx with rfl | hx
    ·omega
    ·exact c1 x hx
   ·rcases List.mem_cons.mp hx with rfl | hx
    ·exact fr
    ·exact g1.full x hx
   ·rw [mem_cons,g2 n,mem_cons,or_assoc]
   ·rcases List.mem_cons.mp hx with rfl | hx
    ·exact .inr (List.mem_cons_self ..)
    ·exact (g3 x hx).imp id (List.mem_cons_of_mem _)
def lays (out:List Pr) (p:Pr):List Pr:=insR (out.foldl astep (p,[])).1 (out.foldl astep (p,[])).2
theorem lays_ok {out:List Pr} {p:Pr} (hc:Can out) (hp:p.1<=p.2.1):Can (lays out p)/\∀ n,mem (lays out p) n<->mem out n\/ins p n:=by
 obtain ⟨g1,g2,g3,g4⟩:=absorb_ok out p [] hc hp (λr hr=>by cases hr)
 obtain ⟨h1,h2,_⟩:=insR_ok g2 g1 g3
 refine ⟨h1,λn=>?_⟩
 show mem (insR _ _) n<->_
 rw [h2 n,g4 n]
 exact ⟨λh=>h.elim (λh=>absurd h (mem_nil n)) id,.inr⟩
theorem layall_ok:∀ (l out:List Pr),Can out->(∀ p∈l,p.1<=p.2.1)->Can (l.foldl lays out)/\∀ n,mem (l.foldl lays out) n<->mem out n\/mem l n
 | [],out,hc,_=>⟨hc,λn=>⟨.inl,λh=>h.elim id λh=>absurd h (mem_nil n)⟩⟩
 | p::l,out,hc,hf=>by
  obtain ⟨m1,m2⟩:=lays_ok hc (hf p (List.mem_cons_self ..))
  obtain ⟨g1,g2⟩:=layall_ok l (lays out p) m1 (λx hx=>hf x (List.mem_cons_of_mem _ hx))
  refine ⟨g1,λn=>?_⟩
  rw [List.foldl_cons,g2 n,m2 n,mem_cons,or_assoc]
theorem merge_lays {l s:List Pr} (hm:∀ x,x∈s<->x∈l) (hs:s.Pairwise (λa b=>a.1<=b.1)) (hf:∀ p∈l,p.1<=p.2.1):s.foldl mstep []=l.foldl lays []:=by
 obtain ⟨a1,a2⟩:=merge_ok s [] Can.nil (λq hq=>by cases hq) hs (λp hp=>hf p ((hm p).mp hp))
 obtain ⟨b1,b2⟩:=layall_ok l [] Can.nil hf
 refine can_unique a1 b1 λn=>?_
 rw [a2 n,b2 n]
 refine or_congr Iff.rfl ?_
 constructor
 ·rintro ⟨p,hp,h⟩;exact ⟨p,(hm p).mp hp,h⟩
 ·rintro ⟨p,hp,h⟩;exact ⟨p,(hm p).mpr hp,h⟩
end
section
theorem bytes_ok {n k:Nat} (h:n*k<=140737488355328):bytesOK n k=true:=dTt h
theorem sort_mem (l:List Pr):(sort168 l).length=l.length/\(∀ x,x∈sort168 l<->x∈l)/\(sort168 l).Pairwise (λa b=>a.1<=b.1):=by
 have h:=pdq_sorts (ltOf cf168) swo168 l.toArray 0 l.length (Lib.bitLen l.length) true true (Nat.zero_le _) (by simp) (Or.inl rfl)
 have e:sort168 l=(pdq (ltOf cf168) l.toArray 0 l.length (Lib.bitLen l.length) true true).toList:=rfl
 generalize pdq (ltOf cf168) l.toArray 0 l.length (Lib.bitLen l.length) true true=d at *
 obtain ⟨⟨h1,_,h3⟩,h4⟩:=h
 have hs:d.size=l.length:=by simpa using h1
 have hp:d.toList.Perm l:=by
  have:(d.extract 0 l.length).toList=d.toList:=by rw [<- hs];simp
  rw [this] at h3
  simpa using h3
 rw [e]
 refine ⟨by simpa using hs,λx=>hp.mem_iff,?_⟩
 rw [List.pairwise_iff_getElem]
 intro i j hi hj hij
 have hj':j<d.size:=by simpa using hj
 have hi':i<d.size:=by simpa using hi
 have:=h4 i j (Nat.zero_le _) hij (by omega)
 rw [lt168,decide_eq_false_iff_not,getElem!_pos d i hi',getElem!_pos d j hj'] at this
 simp only [Array.getElem_toList]
 omega
def nrm (p:Pr):Pr:=(if p.2.1<p.1 then p.2.1 else p.1,if p.1<p.2.1 then p.2.1 else p.1,())
theorem nrm_full (p:Pr):(nrm p).1<=(nrm p).2.1:=by
 simp only [nrm];split <;> split <;> omega
theorem append_set {α:Type}:∀ (a t:List α) (x y:α),(a++x::t).set a.length y=a++y::t
 | [],_,_,_=>rfl
 | b::a,t,x,y=>by
  simp only [List.cons_append,List.length_cons,List.set_cons_succ,append_set a t x y]
theorem drop_cons {α:Type} {s:List α} {i:Nat} {a:α} (hi:i<s.length) (ha:∀ d,s.getD i d=a):s.drop i=a::s.drop (i+1):=by
 rw [List.drop_eq_getElem_cons hi]
 have:=ha s[i]
 rw [List.getD_eq_getElem?_getD,List.getElem?_eq_getElem hi] at this
 rw [show s[i]=a from this]
theorem foldS_push {α β τ:Type} (g:α->β) (fin:List β->τ):∀ (s:List α) (b:List β),foldS (λa b=>(.inl (b++[g a]):List β⊕τ)) fin b s=fin (b++s.map g)
 | [],b=>by simp [foldS]
 | a::t,b=>by
  simp only [foldS]
  rw [foldS_push g fin t]
  simp
theorem foldS_foldl {α β τ:Type} (g:β->α->β) (fin:β->τ):∀ (s:List α) (b:β),foldS (λa b=>(.inl (g b a):β⊕τ)) fin b s=fin (s.foldl g b)
 | [],b=>rfl
 | a::t,b=>by
  simp only [foldS]
  rw [foldS_foldl g fin t,List.foldl_cons]
theorem L12a_eq (P:List Pr) (hl:P.length<=32):L125_0 (((),(),((P.length:Nat):Int),(0:Int),()),(P,()))=some (((),()),(P.map nrm,())):=by
 have hF:=FUEL_big
 have h:=walk_listI (f:=B125_0) (λ(b:List Pr) i=>(((),(),((P.length:Nat):Int),(i:Int),()),(b++P.drop i,()))) P (λa b=>.inl (b++[nrm a])) (λb=>(((),()),(b,()))) (λb i=>b.length=i) (b:=[])
  (λb i a hI hi ha=>.inl ⟨_,rfl,by rw [List.length_append,hI];rfl,by
   subst hI
   have hd:=drop_cons hi ha
   have hlt:b.length<(b++P.drop b.length).length:=by rw [hd];simp
   have hg:∀ d,(b++P.drop b.length).getD b.length d=a:=λd=>by
    rw [hd,List.getD_eq_getElem?_getD,List.getElem?_append_right (Nat.le_refl _)]
    simp
   have hset:(b++P.drop b.length).set b.length (nrm a)=b++[nrm a]++P.drop (b.length+1):=by
    rw [hd,append_set];simp
   unfold nrm at hset ⊢
   simp only [B125_0,nat_lt,nat_nn,hi,hlt,dTr,Bool.and_true,cTt,nCt,hg,Bool.cond_decide,oBs,hset,w64_nat (show b.length<9223372036854775807 by omega)]⟩)
  (λb _=>by simp only [B125_0,Int.lt_irrefl,decide_false,cFf,List.drop_length,List.append_nil]) (by omega) rfl
 rw [foldS_push] at h
 exact h
def small (p:Pr):Prop:=0<=p.1/\p.1<=4294967295/\0<=p.2.1/\p.2.1<=4294967295
theorem nrm_small {p:Pr} (h:small p):small (nrm p):=by
 unfold small at *
 simp only [nrm]
 split <;> split <;> omega
theorem mstep_small {out:List Pr} {p:Pr} (h:∀ q∈out,small q) (hp:small p):(∀ q∈mstep out p,small q)/\(mstep out p).length<=out.length+1:=by
 rcases List.eq_nil_or_concat out with rfl | ⟨a,q,rfl⟩
 ·exact ⟨λx hx=>by rw [List.mem_singleton.mp hx];exact hp,Nat.le_refl _⟩
 ·rw [List.concat_eq_append] at *
  have hlen:(a++[q]).length-1=a.length:=by simp
  have hq:=h q (by simp)
  unfold mstep
  rw [hlen,last_get,last_set]
  by_cases ht:0<(a++[q]).length/\p.1<=q.2.1+1
  ·rw [if_pos ht]
   refine ⟨λx hx=>?_,by simp⟩
   rcases List.mem_append.mp hx with hx | hx
   ·exact h x (List.mem_append_left _ hx)
   ·rw [List.mem_singleton.mp hx]
    unfold small at *
    simp only
    split <;> omega
  ·rw [if_neg ht]
   refine ⟨λx hx=>?_,by simp⟩
   rcases List.mem_append.mp hx with hx | hx
   ·exact h x hx
   ·rw [List.mem_singleton.mp hx];exact hp
theorem L12b_eq (S:List Pr) (hl:S.length<=32) (hS:∀ p∈S,small p):L125_1 (((),(),(),((S.length:Nat):Int),(0:Int),()),(S,([]:List Pr),()))=some (((),(),()),(S,S.foldl mstep [],())):=by
 have hF:=FUEL_big
 have h:=walk_listI (f:=B125_1) (λ(b:List Pr) i=>(((),(),(),((S.length:Nat):Int),(i:Int),()),(S,b,()))) S (λa b=>.inl (mstep b a)) (λb=>(((),(),()),(S,b,()))) (λb i=>b.length<=i/\∀ q∈b,small q) (b:=[])
  (λb i a hI hi ha=>.inl ⟨_,rfl,by
   have hm:a∈S:=by
    rw [<- ha nop,List.getD_eq_getElem?_getD,List.getElem?_eq_getElem hi]
    exact List.getElem_mem hi
   obtain ⟨q1,q2⟩:=mstep_small hI.2 (hS a hm)
   exact ⟨by have:=hI.1;omega,q1⟩,by
   obtain ⟨hb,hq⟩:=hI
   have hby:bytesOK (b.length+1) 16=true:=bytes_ok (by omega)
   have hk:w64 ((b.length:Int)-1)=(b.length:Int)-1:=w64_id (by omega) (by omega)
   simp only [B125_1,nat_lt,nat_nn,hi,dTr,Bool.and_true,cTt,nCt,ha,oBs,hk,List.length_cons,List.length_nil,Nat.zero_add]
   rcases List.eq_nil_or_concat b with rfl | ⟨c,q,rfl⟩
   ·simp only [List.length_nil,show ((0:Nat):Int)-1=-1 by omega,show decide ((0:Int)<=-1)=false from rfl,Bool.false_and,Bool.not_false,Bool.or_true,cTt,cFf,oBs,show bytesOK (0+1) 16=true from bytes_ok (by omega),w64_nat (show i<9223372036854775807 by omega)]
    rfl
   ·rw [List.concat_eq_append] at *
    have e1:((c++[q]).length:Int)-1=(c.length:Int):=by simp
    have e2:c.length<(c++[q]).length:=by simp
    have e3:(c++[q]).length-1=c.length:=by simp
    have sq:=hq q (by simp)
    have e4:w64 (q.2.1+1)=q.2.1+1:=by unfold small at sq;exact w64_id (by omega) (by omega)
    simp only [e1,nat_nn,nat_lt,e2,dTr,Bool.and_true,Bool.true_and,Bool.true_or,cTt,oBs,nCt,last_get,e4]
    unfold mstep
    rw [e3]
    by_cases ht:a.1<=q.2.1+1
    ·have hp:0<(c++[q]).length/\a.1<=((c++[q]).getD c.length nop).2.1+1:=by rw [last_get];exact ⟨by simp,ht⟩
     rw [if_pos hp]
     simp only [ht,dTr,cTt,oBs,last_get,Bool.cond_decide,w64_nat (show i<9223372036854775807 by omega)]
    ·have hp:¬ (0<(c++[q]).length/\a.1<=((c++[q]).getD c.length nop).2.1+1):=by rw [last_get];exact λh=>ht h.2
     rw [if_neg hp]
     simp only [ht,decide_false,cFf,hby,cTt,oBs,w64_nat (show i<9223372036854775807 by omega)]⟩)
  (λb _=>by simp only [B125_1,Int.lt_irrefl,decide_false,cFf]) (by omega) ⟨Nat.le_refl _,λq hq=>by cases hq⟩
 rw [foldS_foldl] at h
 exact h
def joined (P:List Pr):List Pr:=(P.map nrm).foldl lays []
theorem F125_eq (P:List Pr) (hl:P.length<=32) (h0:P≠[]) (hP:∀ p∈P,small p):F125 (((),()),(P,()))=some (joined P,()):=by
 obtain ⟨s1,s2,s3⟩:=sort_mem (P.map nrm)
 rw [List.length_map] at s1
 have e:=L12b_eq (sort168 (P.map nrm)) (by omega) (λp hp=>by
  obtain ⟨q,hq,rfl⟩:=List.mem_map.mp ((s2 p).mp hp)
  exact nrm_small (hP q hq))
 have hj:(sort168 (P.map nrm)).foldl mstep []=joined P:=merge_lays s2 s3 (λp hp=>by
  obtain ⟨q,hq,rfl⟩:=List.mem_map.mp hp
  exact nrm_full q)
 rw [hj] at e
 have c1:decide ((P.map nrm).length<4611686018427387904)=true:=by rw [List.length_map,dTe];omega
 have c2:(P.map nrm).isEmpty=false:=by
  cases P with
  | nil=>exact absurd rfl h0
  | cons a t=>rfl
 simp only [F125,L12a_eq P hl,oBs,c1,c2,Bool.not_false,bAs,cTt,e]
def sub (most x:Int):Int:=if x<0 then most else x
def subs (most:Int) (p:Pr):Pr:=(sub most p.1,sub most p.2.1,())
theorem iter_more {σ τ:Type} {f:σ->Option (σ⊕τ)} {p q:σ} {n:Nat} (h:f p=some (.inl q)):iter f (n+1) p=iter f n q:=by
 simp only [iter,h]
theorem L6b_eq (most:Int) (Q:List Pr) (i:Int) (out:List Pr) (p:Pr):L74_1 ((most,Q,(),i,(),(0:Int),()),(out,(p.1,p.2.1,()),()))=some ((most,Q,(),i,(),()),(out,((subs most p).1,(subs most p).2.1,()),())):=by
 have h1:B74_1 ((most,Q,(),i,(),(0:Int),()),(out,(p.1,p.2.1,()),()))=some (.inl ((most,Q,(),i,(),(1:Int),()),(out,(sub most p.1,p.2.1,()),()))):=by
  simp only [B74_1,sub,show decide ((0:Int)<2)=true from rfl,cTt,dTr,Bool.cond_decide]
  split <;> rfl
 have h2:B74_1 ((most,Q,(),i,(),(1:Int),()),(out,(sub most p.1,p.2.1,()),()))=some (.inl ((most,Q,(),i,(),(2:Int),()),(out,(sub most p.1,sub most p.2.1,()),()))):=by
  generalize sub most p.1=x
  simp only [B74_1,sub,show decide ((1:Int)<2)=true from rfl,show decide ((1:Int)=0)=false from rfl,cTt,cFf,dTr,Bool.cond_decide]
  split <;> rfl
 change iter B74_1 (9223372036854775805+1+1+1) _=_
 rw [iter_more h1,iter_more h2]
 simp only [iter,B74_1,show decide ((2:Int)<2)=false from rfl,cFf]
 rfl
theorem L6c_eq (most:Int) (Q:List Pr) (i:Int) (out:List Pr) (p:Pr) (hl:out.length<=32) (ho:∀ q∈out,small q) (hp:small p) :
  L74_2 ((most,Q,(),i,(),(),(0:Int),()),(out,(p.1,p.2.1,()),([]:List Pr),()))=some ((most,Q,i,(),(),()),(((out.foldl astep (p,[])).1.1,(out.foldl astep (p,[])).1.2.1,()),(out.foldl astep (p,[])).2,())) /\
   small (out.foldl astep (p,[])).1/\(out.foldl astep (p,[])).2.length<=out.length/\∀ q∈(out.foldl astep (p,[])).2,small q:=by
 have hF:=FUEL_big
 have hst:∀ (st:Pr×List Pr) (a:Pr),small st.1->small a->small (astep st a).1:=λst a h1 h2=>by
  unfold astep
  split
  ·exact h1
  ·unfold small at *
   simp only
   split <;> split <;> omega
 have hrs:∀ (st:Pr×List Pr) (a:Pr),(∀ q∈st.2,small q)->small a->∀ q∈(astep st a).2,small q:=λst a h1 h2 q hq=>by
  unfold astep at hq
  split at hq
  ·rcases List.mem_append.mp hq with hq | hq
   ·exact h1 q hq
   ·rw [List.mem_singleton.mp hq];exact h2
  ·exact h1 q hq
 have hln:∀ (st:Pr×List Pr) (a:Pr),(astep st a).2.length<=st.2.length+1:=λst a=>by
  unfold astep
  split
  ·simp
  ·simp
 refine ⟨?_,?_⟩
 ·have h:=walk_listI (f:=B74_2) (λ(b:Pr×List Pr) k=>((most,Q,(),i,(),(),(k:Int),()),(out,(b.1.1,b.1.2.1,()),b.2,()))) out (λa b=>.inl (astep b a)) (λb=>((most,Q,i,(),(),()),((b.1.1,b.1.2.1,()),b.2,()))) (λb k=>b.2.length<=k/\small b.1) (b:=(p,[]))
   (λb k a hI hk ha=>.inl ⟨_,rfl,by
    have hm:a∈out:=by
     rw [<- ha nop,List.getD_eq_getElem?_getD,List.getElem?_eq_getElem hk]
     exact List.getElem_mem hk
    exact ⟨by have:=hln b a;have:=hI.1;omega,hst b a hI.2 (ho a hm)⟩,by
    obtain ⟨hb,hsm⟩:=hI
    have hm:a∈out:=by
     rw [<- ha nop,List.getD_eq_getElem?_getD,List.getElem?_eq_getElem hk]
     exact List.getElem_mem hk
    have sa:=ho a hm
    have hby:bytesOK (b.2.length+1) 16=true:=bytes_ok (by omega)
    have e1:w64 (a.2.1+1)=a.2.1+1:=by unfold small at sa;exact w64_id (by omega) (by omega)
    have e2:w64 (b.1.2.1+1)=b.1.2.1+1:=by unfold small at hsm;exact w64_id (by omega) (by omega)
    simp only [B74_2,nat_lt,nat_nn,hk,dTr,Bool.and_true,Bool.true_or,cTt,nCt,ha,oBs,e1,e2,List.length_cons,List.length_nil,Nat.zero_add,hby,<- Bool.decide_or]
    unfold astep apart
    by_cases h:a.2.1+1<b.1.1\/b.1.2.1+1<a.1
    ·simp only [h,dTr,cTt,oBs,↓reduceIte,w64_nat (show k<9223372036854775807 by omega)]
    ·simp only [h,decide_false,cFf,↓reduceIte,Bool.cond_decide]
     by_cases h1:a.1<b.1.1 <;> by_cases h2:b.1.2.1<a.2.1 <;> simp only [h1,h2,↓reduceIte,oBs,w64_nat (show k<9223372036854775807 by omega),nat_lt,nat_nn,hk,ha,nCt,dTr,bAs,cTt]⟩)
   (λb _=>by simp only [B74_2,Int.lt_irrefl,decide_false,cFf]) (by omega) ⟨Nat.le_refl _,hp⟩
  rw [foldS_foldl] at h
  exact h
 ·have:∀ (l:List Pr) (st:Pr×List Pr),(∀ q∈l,small q)->small st.1->(∀ q∈st.2,small q)->small (l.foldl astep st).1/\(l.foldl astep st).2.length<=l.length+st.2.length/\∀ q∈(l.foldl astep st).2,small q:=by
   intro l
   induction l with
   | nil=>intro st _ h1 h2;exact ⟨h1,by simp,h2⟩
   | cons a t ih =>
    intro st hl h1 h2
    have ha:=hl a (List.mem_cons_self ..)
    obtain ⟨g1,g2,g3⟩:=ih (astep st a) (λq hq=>hl q (List.mem_cons_of_mem _ hq)) (hst st a h1 ha) (hrs st a h2 ha)
    rw [List.foldl_cons]
    refine ⟨g1,?_,g3⟩
    have:=hln st a
    simp only [List.length_cons]
    omega
  have:=this out (p,[]) ho hp (λq hq=>by cases hq)
  simpa using this
def stepI (p:Pr) (b:Bool×List Pr) (r:Pr):Bool×List Pr:=if !b.1&&decide (p.1<r.1) then (true,b.2++[(p.1,p.2.1,())]++[r]) else (b.1,b.2++[r])
theorem fold_ins (p:Pr):∀ (l:List Pr) (b:Bool×List Pr),(l.foldl (stepI p) b).1=(b.1||l.any (λr=>decide (p.1<r.1))) /\
  (if (l.foldl (stepI p) b).1 then (l.foldl (stepI p) b).2 else (l.foldl (stepI p) b).2++[p])=b.2++(if b.1 then l else insR p l)
 | [],b=>by
  obtain ⟨b1,b2⟩:=b
  cases b1 <;> simp [insR]
 | r::t,b=>by
  obtain ⟨g1,g2⟩:=fold_ins p t (stepI p b r)
  obtain ⟨b1,b2⟩:=b
  rw [List.foldl_cons]
  refine ⟨?_,?_⟩
  ·rw [g1]
   unfold stepI
   cases b1
   ·by_cases h:p.1<r.1 <;> simp [h]
   ·simp
  ·rw [g2]
   unfold stepI
   cases b1
   ·by_cases h:p.1<r.1
    ·simp [h,insR]
    ·simp [h,insR]
   ·simp
theorem L6d_eq (most:Int) (Q:List Pr) (i:Int) (rest:List Pr) (p:Pr) (hl:rest.length<=32) :
  L74_3 ((most,Q,(),i,(),(),false,(0:Int),()),(([]:List Pr),(p.1,p.2.1,()),rest,()))=some ((most,Q,(),i,(),(rest.foldl (stepI p) (false,[])).1,()),((rest.foldl (stepI p) (false,[])).2,(p.1,p.2.1,()),())):=by
 have hF:=FUEL_big
 have hln:∀ (b:Bool×List Pr) (a:Pr),(stepI p b a).2.length<=b.2.length+2:=λb a=>by
  unfold stepI
  split <;> simp
 have h:=walk_listI (f:=B74_3) (λ(b:Bool×List Pr) k=>((most,Q,(),i,(),(),b.1,(k:Int),()),(b.2,(p.1,p.2.1,()),rest,()))) rest (λa b=>.inl (stepI p b a)) (λb=>((most,Q,(),i,(),b.1,()),(b.2,(p.1,p.2.1,()),()))) (λb k=>b.2.length<=2*k) (b:=(false,[]))
  (λb k a hI hk ha=>.inl ⟨_,rfl,by have:=hln b a;omega,by
   have hby1:bytesOK (b.2.length+1) 16=true:=bytes_ok (by omega)
   have hby2:bytesOK (b.2.length+1+1) 16=true:=bytes_ok (by omega)
   simp only [B74_3,nat_lt,nat_nn,hk,dTr,Bool.and_true,Bool.true_or,cTt,nCt,ha,oBs,List.length_cons,List.length_nil,Nat.zero_add,hby1]
   unfold stepI
   obtain ⟨b1,b2⟩:=b
   cases b1
   ·by_cases h:p.1<a.1
    ·simp only [h,Bool.not_false,dTr,bAs,cTt,oBs,List.length_append,List.length_cons,List.length_nil,Nat.zero_add,hby2,↓reduceIte,nat_lt,nat_nn,hk,nCt,ha,w64_nat (show k<9223372036854775807 by omega)]
    ·simp only [h,Bool.not_false,decide_false,Bool.and_false,cFf,cTt,oBs,hby1,Bool.false_eq_true,↓reduceIte,nat_lt,nat_nn,hk,dTr,bAs,nCt,ha,w64_nat (show k<9223372036854775807 by omega)]
   ·simp only [Bool.not_true,Bool.false_and,cFf,cTt,oBs,hby1,Bool.false_eq_true,↓reduceIte,nat_lt,nat_nn,hk,dTr,bAs,nCt,ha,w64_nat (show k<9223372036854775807 by omega)]⟩)
  (λb _=>by simp only [B74_3,Int.lt_irrefl,decide_false,cFf]) (by omega) (Nat.le_refl _)
 rw [foldS_foldl] at h
 exact h
end
section
theorem insR_len (p:Pr):∀ l:List Pr,(insR p l).length=l.length+1
 | []=>rfl
 | r::t=>by
  unfold insR
  split
  ·rfl
  ·simp [insR_len p t]
theorem insR_mem (p:Pr):∀ (l:List Pr) (x:Pr),x∈insR p l->x=p\/x∈l
 | [],x,h=>.inl (List.mem_singleton.mp h)
 | r::t,x,h=>by
  unfold insR at h
  split at h
  ·exact List.mem_cons.mp h
  ·rcases List.mem_cons.mp h with rfl | h
   ·exact .inr (List.mem_cons_self ..)
   ·exact (insR_mem p t x h).imp id (List.mem_cons_of_mem _)
def neg (p:Pr):Bool:=decide (p.1<0)||decide (p.2.1<0)
abbrev R6:Type:=((Unit×Unit)×(List Pr×Unit))⊕((Unit×Unit×Unit×Unit)×(List Pr×Unit))
def stp6 (most:Int) (a:Pr) (b:List Pr):List Pr⊕R6 :=
 if decide (most=0)&&neg a then .inr (.inr (((),(),(),()),([],()))) else .inl (lays b (nrm (subs most a)))
theorem subs_small {most:Int} {p:Pr} (hm:0<=most/\most<=4294967295) (h1:p.1<=4294967295) (h2:p.2.1<=4294967295):small (subs most p):=by
 unfold small subs sub
 simp only
 split <;> split <;> omega
theorem L6a_eq (most:Int) (Q:List Pr) (hl:Q.length<=32) (hm:0<=most/\most<=4294967295) (hQ:∀ p∈Q,p.1<=4294967295/\p.2.1<=4294967295) :
  L74_0 ((most,Q,(),(0:Int),()),(([]:List Pr),()))=some (foldS (stp6 most) (λb=>.inl (((),()),(b,()))) [] Q):=by
 have hF:=FUEL_big
 refine walk_listI (f:=B74_0) (λ(b:List Pr) i=>((most,Q,(),(i:Int),()),(b,()))) Q (stp6 most) _ (λb i=>b.length<=i/\∀ q∈b,small q) (b:=[])
  (λb i a hI hi ha=>?_) (λb _=>?_) (by omega) ⟨Nat.le_refl _,λq hq=>by cases hq⟩
 ·obtain ⟨hb,hq⟩:=hI
  have hm':a∈Q:=by
   rw [<- ha nop,List.getD_eq_getElem?_getD,List.getElem?_eq_getElem hi]
   exact List.getElem_mem hi
  have hs:=subs_small hm (hQ a hm').1 (hQ a hm').2
  unfold stp6
  by_cases hc:(decide (most=0)&&neg a)=true
  ·rw [if_pos hc]
   refine .inr ⟨_,rfl,?_⟩
   unfold neg at hc
   simp only [B74_0,nat_lt,nat_nn,hi,dTr,Bool.and_true,cTt,nCt,ha,oBs,hc]
  ·rw [if_neg hc]
   rw [Bool.not_eq_true] at hc
   have e1:=L6b_eq most Q (i:Int) b (a.1,a.2.1,())
   have hn:(subs most (a.1,a.2.1,()))=subs most a:=rfl
   rw [hn] at e1
   obtain ⟨e2,s2,l2,r2⟩:=L6c_eq most Q (i:Int) b (nrm (subs most a)) (by omega) hq (nrm_small hs)
   have e3:=L6d_eq most Q (i:Int) (b.foldl astep (nrm (subs most a),[])).2 (b.foldl astep (nrm (subs most a),[])).1 (by omega)
   obtain ⟨f1,f2⟩:=fold_ins (b.foldl astep (nrm (subs most a),[])).1 (b.foldl astep (nrm (subs most a),[])).2 (false,[])
   have hla:lays b (nrm (subs most a))=insR (b.foldl astep (nrm (subs most a),[])).1 (b.foldl astep (nrm (subs most a),[])).2:=rfl
   have hsw:∀ {σ:Type} (F:Int×Int×Unit->σ),(if (subs most a).2.1<(subs most a).1 then F ((subs most a).2.1,(subs most a).1,()) else F ((subs most a).1,(subs most a).2.1,()))=F ((nrm (subs most a)).1,(nrm (subs most a)).2.1,()):=λF=>by
    simp only [nrm]
    by_cases h1:(subs most a).2.1<(subs most a).1
    ·have h2:¬ (subs most a).1<(subs most a).2.1:=by omega
     simp only [h1,h2,↓reduceIte]
    ·by_cases h2:(subs most a).1<(subs most a).2.1
     ·simp only [h1,h2,↓reduceIte]
     ·have h3:(subs most a).1=(subs most a).2.1:=by omega
      simp only [h1,h2,↓reduceIte]
      rw [h3]
   generalize hst:(b.foldl astep (nrm (subs most a),[]))=st at *
   generalize hfd:(st.2.foldl (stepI st.1) (false,[]))=fd at *
   simp only [List.nil_append,Bool.false_or,Bool.false_eq_true,↓reduceIte] at f1 f2
   rw [<- hla] at f2
   have hlen:=insR_len st.1 st.2
   rw [<- hla] at hlen
   refine .inl ⟨lays b (nrm (subs most a)),rfl,⟨by omega,λq hq'=>?_⟩,?_⟩
   ·rw [hla] at hq'
    rcases insR_mem _ _ _ hq' with rfl | hq'
    ·exact s2
    ·exact r2 q hq'
   ·have hc':=hc
    unfold neg at hc'
    simp only [B74_0,nat_lt,nat_nn,hi,dTr,Bool.and_true,cTt,cFf,nCt,ha,oBs,hc',e1,Bool.cond_decide]
    rw [show ((if (subs most a).2.1<(subs most a).1 then some ((most,Q,(),(i:Int),(),()),(b,((subs most a).2.1,(subs most a).1,()),())) else some ((most,Q,(),(i:Int),(),()),(b,((subs most a).1,(subs most a).2.1,()),()))):Option ((Int×List Pr×Unit×Int×Unit×Unit)×(List Pr×(Int×Int×Unit)×Unit)))=some ((most,Q,(),(i:Int),(),()),(b,((nrm (subs most a)).1,(nrm (subs most a)).2.1,()),())) from hsw (λx=>some ((most,Q,(),(i:Int),(),()),(b,x,())))]
    simp only [oBs]
    rw [e2]
    simp only [oBs]
    rw [e3]
    simp only [oBs]
    cases hb1:fd.1
    ·rw [hb1] at f2
     simp only [Bool.false_eq_true,↓reduceIte] at f2
     have hby:bytesOK (fd.2.length+1) 16=true:=bytes_ok (by
      have:=congrArg List.length f2
      simp only [List.length_append,List.length_cons,List.length_nil] at this
      omega)
     simp only [Bool.not_false,cTt,List.length_cons,List.length_nil,Nat.zero_add,hby,oBs,w64_nat (show i<9223372036854775807 by omega)]
     rw [<- f2]
    ·rw [hb1] at f2
     simp only [↓reduceIte] at f2
     simp only [Bool.not_true,cFf,oBs,w64_nat (show i<9223372036854775807 by omega)]
     rw [<- f2]
 ·simp only [B74_0,Int.lt_irrefl,decide_false,cFf]
theorem fold6 (most:Int):∀ (Q:List Pr) (b:List Pr),foldS (stp6 most) (λb=>(.inl (((),()),(b,())):R6)) b Q =
  if (decide (most=0)&&Q.any neg)=true then .inr (((),(),(),()),([],())) else .inl (((),()),((Q.map λp=>nrm (subs most p)).foldl lays b,()))
 | [],b=>by simp [foldS]
 | a::t,b=>by
  simp only [foldS,stp6]
  by_cases h:(decide (most=0)&&neg a)=true
  ·have h2:(decide (most=0)&&(a::t).any neg)=true:=by
    rw [bAt] at h ⊢
    exact ⟨h.1,by rw [List.any_cons,h.2,Bool.true_or]⟩
   simp only [h,h2,↓reduceIte]
  ·have h2:(decide (most=0)&&(a::t).any neg)=(decide (most=0)&&t.any neg):=by
    rw [Bool.not_eq_true] at h
    rw [List.any_cons,Bool.and_or_distrib_left,h,Bool.false_or]
   simp only [h,Bool.false_eq_true,↓reduceIte]
   rw [fold6 most t,h2]
   rfl
abbrev Ls:Type:=List (List UInt8)
def wid (s:List UInt8):Nat:=(Go.Lib.decodeGo ⟨s.toArray⟩).2
def lets:Nat->List UInt8->Ls
 | 0,_=>[]
 | n+1,s=>if s=[] then [] else s.take (wid s)::lets n (s.drop (wid s))
def runes:Nat->List UInt8->List Int
 | 0,_=>[]
 | n+1,s=>if s=[] then [] else ((Go.Lib.decodeL s).1:Int)::runes n (s.drop (wid s))
theorem wid_eq {s:List UInt8} (h:s≠[]):wid s=(Lib.decodeL s).2:=by
 unfold wid Lib.decodeGo
 have:¬ (⟨s.toArray⟩:ByteArray).size=0:=by
  show ¬ s.toArray.size=0
  simpa using h
 rw [if_neg this]
 rfl
theorem decodeN_4 (n b0 b1 b2 b3:Nat):(Lib.decodeN n b0 b1 b2 b3).2<=4:=by
 unfold Lib.decodeN
 repeat' split
 all_goals simp
theorem decodeN_big (n b0 b1 b2 b3:Nat) (h:128<=b0):128<=(Lib.decodeN n b0 b1 b2 b3).1:=by
 unfold Lib.decodeN
 repeat' split
 all_goals simp only
 all_goals omega
theorem wid_pos {s:List UInt8} (h:s≠[]):1<=wid s/\wid s<=s.length/\wid s<=4:=by
 rw [wid_eq h]
 exact ⟨Lib.decodeL_width s,Lib.decodeL_le s h,by rw [Lib.decodeL_N];exact decodeN_4 _ _ _ _ _⟩
theorem dec_at {s:List UInt8} {i:Nat} (_h:i<s.length):Utf8.decode ⟨s.toArray⟩ i=Lib.decodeL (s.drop i):=by
 rw [<- Lib.decodeL_drop]
def Is (c:List UInt8) (v:Int):Prop:=(∃ b:UInt8,c=[b]/\b.toNat<128/\v=(b.toNat:Int))\/((∀ b:UInt8,c=[b]->128<=b.toNat)/\128<=v)
inductive All2:Ls->List Int->Prop
 | nil:All2 [] []
 | cons {c v t u}:Is c v->All2 t u->All2 (c::t) (v::u)
theorem lets_runes:∀ (n:Nat) (s:List UInt8),All2 (lets n s) (runes n s)
 | 0,_=>.nil
 | n+1,s=>by
  unfold lets runes
  by_cases h:s=[]
  ·rw [if_pos h,if_pos h];exact .nil
  ·rw [if_neg h,if_neg h]
   refine .cons ?_ (lets_runes n _)
   cases s with
   | nil=>exact absurd rfl h
   | cons b t =>
    rcases Nat.lt_or_ge b.toNat 128 with hb | hb
    ·have e:=Lib.decodeL_ascii b t hb
     refine .inl ⟨b,?_,hb,?_⟩
     ·rw [wid_eq h,e];rfl
     ·rw [e]
    ·refine .inr ⟨λx hx=>?_,?_⟩
     ·obtain ⟨m,hm⟩:∃ m,wid (b::t)=m+1:=⟨wid (b::t)-1,by have:=(wid_pos h).1;omega⟩
      rw [hm,List.take_succ_cons] at hx
      injection hx with hx _
      rw [<- hx];exact hb
     ·have:=decodeN_big (b::t).length ((b::t).getD 0 0).toNat ((b::t).getD 1 0).toNat ((b::t).getD 2 0).toNat ((b::t).getD 3 0).toNat hb
      rw [<- Lib.decodeL_N] at this
      omega
theorem lets_len:∀ (n:Nat) (s:List UInt8),(lets n s).length<=n
 | 0,s=>by simp [lets]
 | n+1,s=>by
  unfold lets
  split
  ·simp
  ·simp only [List.length_cons]
   have:=lets_len n (s.drop (wid s));omega
theorem lets_nil (n:Nat):lets n []=[]:=by cases n <;> simp [lets]
theorem bytes16 {n:Nat} (h:n<=2000000):bytesOK n 16=true:=by
 unfold bytesOK
 simp
 omega
theorem F97_eq {s:List UInt8} (hs:s.length<=1100000):F97 ((s,()),())=some ((),(lets s.length s,())):=by
 obtain ⟨r,h1,h2⟩:=loop_ind (f:=B97_0) (λp=>∃ (t:List UInt8) (out:Ls) (n:Nat),p=((t,(),()),(out,()))/\t.length<=n/\out.length+n<=s.length/\out++lets n t=lets s.length s) (λp=>p.1.1.length)
  (λr=>r=(((),()),(lets s.length s,())))
  (λp ⟨t,out,n,hp,ht,ho,hl⟩=>by
   subst hp
   by_cases h0:t=[]
   ·right
    subst h0
    rw [lets_nil,List.append_nil] at hl
    exact ⟨_,by rw [<- hl];rfl,rfl⟩
   ·left
    obtain ⟨w1,w2,w3⟩:=wid_pos h0
    have hwd:(Go.Lib.decodeGo ⟨List.toArray t⟩).2=wid t:=rfl
    have hpos:0<t.length:=List.length_pos_iff.2 h0
    obtain ⟨n,rfl⟩:∃ m,n=m+1:=⟨n-1,by omega⟩
    have c1:decide ((0:Int)<((t.length:Nat):Int))=true:=dTt (by omega)
    have c2:decide ((0:Int)<=((wid t:Nat):Int))=true:=dTt (by omega)
    have c3:decide (((wid t:Nat):Int)<=((t.length:Nat):Int))=true:=dTt (by omega)
    have c4:bytesOK (out.length+[List.take (wid t) t].length) 16=true:=bytes16 (by simp;omega)
    refine ⟨((t.drop (wid t),(),()),(out++[t.take (wid t)],())),?_,⟨t.drop (wid t),out++[t.take (wid t)],n,rfl,by rw [List.length_drop];omega,by simp;omega,?_⟩,?_⟩
    ·simp only [B97_0,hwd,c1,cTt,c2,c3,nCt,c4,bAs,oBs,Int.le_refl,dTr]
     rw [List.take_of_length_le (by simp)]
    ·rw [<- hl]
     simp only [lets]
     rw [if_neg h0]
     simp
    ·simp only [List.length_drop];omega)
  (p:=((s,(),()),([],()))) ⟨s,[],s.length,rfl,Nat.le_refl _,by simp,rfl⟩ (by unfold FUEL;simp only;omega)
 subst h2
 have h1':L97_0 ((s,(),()),([],()))=some (((),()),(lets s.length s,())):=h1
 simp only [F97,h1',oBs]
end
section
def dig (n c:Int):Option Int:=if c<48\/57<c then none else if 10*n+(c-48)=0\/4294967295<10*n+(c-48) then none else some (10*n+(c-48))
theorem F166_eq (st n pl most c:Int) (sr:Bool) (ps:List Pr) (h1:0<=n) (h2:n<=4294967295) :
  F166 (((),c,()),((st,n,pl,sr,most,(),()),ps,()))=some (match dig n c with | some m=>(true,((st,m,pl,sr,most,(),()),ps,())) | none=>(false,((st,n,pl,sr,most,(),()),ps,()))):=by
 unfold dig
 by_cases hc:c<48\/57<c
 ·have e:(decide (c<48)||decide (57<c))=true:=by simpa using hc
  simp only [F166,e,cTt,oBs,hc,↓reduceIte]
 ·have e:(decide (c<48)||decide (57<c))=false:=by
   rw [Bool.or_eq_false_iff,decide_eq_false_iff_not,decide_eq_false_iff_not];omega
  have hd:w64 (IntKind.wrap .i32 (c-48))=c-48:=by
   have e1:IntKind.wrap .i32 (c-48)=c-48:=by
    unfold IntKind.wrap
    simp only [IntKind.bits,IntKind.signed]
    by_cases h:(c-48) % 2^32>=2^31
    ·simp;omega
    ·simp;omega
   rw [e1]
   exact w64_id (by omega) (by omega)
  simp only [F166,e,cFf,hd,hc,↓reduceIte,<- Bool.decide_and]
  by_cases hz:n=0/\c-48=0
  ·have h3:10*n+(c-48)=0\/4294967295<10*n+(c-48):=by omega
   simp only [hz,and_self,dTr,cTt,oBs]
   rw [if_pos (by omega)]
  ·simp only [hz,decide_false,cFf,oBs]
   have hq:w64 (Int.tdiv (w64 (4294967295-(c-48))) 10)=(4294967295-(c-48))/10:=by
    rw [w64_id (n:=4294967295-(c-48)) (by omega) (by omega),Int.tdiv_eq_ediv_of_nonneg (by omega)]
    exact w64_id (by omega) (by omega)
   rw [hq]
   by_cases hb:(4294967295-(c-48))/10<n
   ·have h3:10*n+(c-48)=0\/4294967295<10*n+(c-48):=by omega
    simp only [hb,h3,dTr,cTt,oBs,↓reduceIte]
   ·have h3:¬ (10*n+(c-48)=0\/4294967295<10*n+(c-48)):=by omega
    have e5:w64 (w64 (n*10)+(c-48))=10*n+(c-48):=by
     rw [w64_id (n:=n*10) (by omega) (by omega),w64_id (by omega) (by omega)]
     omega
    simp only [hb,h3,decide_false,cFf,oBs,↓reduceIte,e5]
def endV (st n most:Int):Int:=if st=2\/st=5 then most else n
def endR (st n most:Int) (ps:List Pr):List Pr :=
 if st=4\/st=5 then ps.set (ps.length-1) ((ps.getD (ps.length-1) nop).1,endV st n most,()) else ps++[(endV st n most,endV st n most,())]
theorem F124_eq (st n pl most:Int) (sr:Bool) (ps:List Pr) (h1:st=4\/st=5->0<ps.length) (h2:ps.length<=1100000) :
  F124 (((),()),((st,n,pl,sr,most,(),()),ps,()))=some ((),((st,0,pl,sr,most,(),()),endR st n most ps,())):=by
 have e1:(cond (decide (st=2\/st=5)) (some (((),most,()),((st,n,pl,sr,most,(),()),ps,()))) (some (((),n,()),((st,n,pl,sr,most,(),()),ps,()))))=some (((),endV st n most,()),((st,n,pl,sr,most,(),()),ps,())):=by
  unfold endV
  rw [Bool.cond_decide]
  split <;> rfl
 simp only [F124,<- Bool.decide_or,e1,oBs]
 unfold endR
 by_cases hs:st=4\/st=5
 ·have hp:=h1 hs
  have e2:w64 ((ps.length:Int)-1)=((ps.length-1:Nat):Int):=by rw [w64_id (by omega) (by omega)];omega
  have e3:ps.length-1<ps.length:=by omega
  simp only [hs,dTr,cTt,e2,nat_nn,nat_lt,e3,bAs,nCt,oBs,↓reduceIte]
 ·have hb:bytesOK (ps.length+1) 16=true:=bytes_ok (by omega)
  simp only [hs,decide_false,cFf,List.length_cons,List.length_nil,Nat.zero_add,hb,cTt,oBs,↓reduceIte]
abbrev Q:Type:=Int×Int×Bool×List Pr
def tk (most:Int) (q:Q) (c:Int):Option Q :=
 if (q.1=0\/q.1=3)/\c=42 then some (if q.1=3 then 5 else 2,q.2.1,true,q.2.2.2)
 else match (if q.1≠2/\q.1≠5 then dig q.2.1 c else none) with
  | some m=>some (if q.1=3\/q.1=4 then 4 else 1,m,q.2.2.1,q.2.2.2)
  | none=>if q.1≠0/\q.1≠3/\c=44 then some (0,0,q.2.2.1,endR q.1 q.2.1 most q.2.2.2)
   else if (q.1=1\/q.1=2)/\c=58 then some (3,0,q.2.2.1,endR q.1 q.2.1 most q.2.2.2) else none
theorem F123_eq (most c pl:Int) (q:Q) (h1:0<=q.2.1) (h2:q.2.1<=4294967295) (h3:q.1=4\/q.1=5->0<q.2.2.2.length) (h4:q.2.2.2.length<=1100000) :
  F123 (((),c,()),((q.1,q.2.1,pl,q.2.2.1,most,(),()),q.2.2.2,()))=some (match tk most q c with | some r=>(true,((r.1,r.2.1,pl,r.2.2.1,most,(),()),r.2.2.2,())) | none=>(false,((q.1,q.2.1,pl,q.2.2.1,most,(),()),q.2.2.2,()))):=by
 obtain ⟨st,n,sr,ps⟩:=q
 simp only at h1 h2 h3 h4
 have e19:=F166_eq st n pl most c sr ps h1 h2
 have e11:=F124_eq st n pl most sr ps h3 h4
 unfold tk
 simp only [F123,oBs]
 by_cases ha:(st=0\/st=3)/\c=42
 ·have hb:((decide (st=0)||decide (st=3))&&decide (c=42))=true:=by simpa using ha
  simp only [ha.1,ha.2,and_self,↓reduceIte]
  rcases ha.1 with rfl | rfl <;> rfl
 ·have hb:((decide (st=0)||decide (st=3))&&decide (c=42))=false:=by
   rw [<- Bool.not_eq_true,bAt,Bool.or_eq_true,dTe,dTe,dTe];exact ha
  simp only [hb,cFf,ha,↓reduceIte]
  by_cases hd:st≠2/\st≠5
  ·have hd':(!decide (st=2)&&!decide (st=5))=true:=by simpa using hd
   simp only [hd',cTt]
   rw [if_pos hd,e19]
   cases hg:dig n c with
   | some m =>
    simp only [oBs,cTt]
    by_cases h34:st=3\/st=4
    ·have:(decide (st=3)||decide (st=4)||decide (st=5))=true:=by
      rcases h34 with rfl | rfl <;> rfl
     simp only [this,h34,cTt,oBs,↓reduceIte]
    ·have:(decide (st=3)||decide (st=4)||decide (st=5))=false:=by
      simp only [Bool.or_eq_false_iff,decide_eq_false_iff_not];omega
     simp only [this,h34,cFf,oBs,↓reduceIte]
   | none =>
    simp only [oBs,cFf]
    by_cases hk:st≠0/\st≠3/\c=44
    ·have hk':(!decide (st=0)&&!decide (st=3)&&decide (c=44))=true:=by simpa [and_assoc] using hk
     simp only [hk',cTt,e11,oBs]
     rw [if_pos hk]
    ·have hk':(!decide (st=0)&&!decide (st=3)&&decide (c=44))=false:=by
      rw [<- Bool.not_eq_true];simpa [and_assoc] using hk
     simp only [hk',cFf]
     rw [if_neg hk]
     by_cases hl:(st=1\/st=2)/\c=58
     ·have hl':((decide (st=1)||decide (st=2))&&decide (c=58))=true:=by simpa using hl
      simp only [hl',cTt,e11,oBs]
      rw [if_pos hl]
     ·have hl':((decide (st=1)||decide (st=2))&&decide (c=58))=false:=by
       rw [<- Bool.not_eq_true,bAt,Bool.or_eq_true,dTe,dTe,dTe];exact hl
      simp only [hl',cFf,oBs]
      rw [if_neg hl]
  ·have hd':(!decide (st=2)&&!decide (st=5))=false:=by
    rw [<- Bool.not_eq_true];simpa using hd
   simp only [hd',cFf,oBs]
   rw [if_neg hd]
   simp only
   by_cases hk:st≠0/\st≠3/\c=44
   ·have hk':(!decide (st=0)&&!decide (st=3)&&decide (c=44))=true:=by simpa [and_assoc] using hk
    simp only [hk',cTt,e11,oBs]
    rw [if_pos hk]
   ·have hk':(!decide (st=0)&&!decide (st=3)&&decide (c=44))=false:=by
     rw [<- Bool.not_eq_true];simpa [and_assoc] using hk
    simp only [hk',cFf]
    rw [if_neg hk]
    by_cases hl:(st=1\/st=2)/\c=58
    ·have hl':((decide (st=1)||decide (st=2))&&decide (c=58))=true:=by simpa using hl
     simp only [hl',cTt,e11,oBs]
     rw [if_pos hl]
    ·have hl':((decide (st=1)||decide (st=2))&&decide (c=58))=false:=by
      rw [<- Bool.not_eq_true,bAt,Bool.or_eq_true,dTe,dTe,dTe];exact hl
     simp only [hl',cFf,oBs]
     rw [if_neg hl]
structure W (q:Q):Prop where
 n0:0<=q.2.1
 n1:q.2.1<=4294967295
 st:0<=q.1/\q.1<=5
 part:q.1=3\/q.1=4\/q.1=5->0<q.2.2.2.length
 each:∀ p∈q.2.2.2,small p
theorem endV_small {st n most:Int} (h1:0<=n) (h2:n<=4294967295) (hm:0<=most/\most<=4294967295):0<=endV st n most/\endV st n most<=4294967295:=by
 unfold endV;split <;> omega
theorem endR_ok {q:Q} {most:Int} (w:W q) (hm:0<=most/\most<=4294967295):(∀ p∈endR q.1 q.2.1 most q.2.2.2,small p)/\0<(endR q.1 q.2.1 most q.2.2.2).length/\(endR q.1 q.2.1 most q.2.2.2).length<=q.2.2.2.length+1:=by
 have hv:=endV_small (st:=q.1) w.n0 w.n1 hm
 unfold endR
 by_cases hs:q.1=4\/q.1=5
 ·rw [if_pos hs]
  have hp:=w.part (.inr hs)
  refine ⟨λp hp'=>?_,by rw [List.length_set];exact hp,by rw [List.length_set];omega⟩
  rcases List.mem_or_eq_of_mem_set hp' with h | rfl
  ·exact w.each p h
  ·have hg:small (q.2.2.2.getD (q.2.2.2.length-1) nop):=by
    rw [List.getD_eq_getElem?_getD,List.getElem?_eq_getElem (show q.2.2.2.length-1<q.2.2.2.length by omega)]
    exact w.each _ (List.getElem_mem _)
   unfold small at *
   simp only
   omega
 ·rw [if_neg hs]
  refine ⟨λp hp'=>?_,by simp,by simp⟩
  rcases List.mem_append.mp hp' with h | h
  ·exact w.each p h
  ·rw [List.mem_singleton.mp h]
   unfold small
   simp only
   omega
theorem dig_ok {n c m:Int} (h:0<=n) (hd:dig n c=some m):0<m/\m<=4294967295/\48<=c/\c<=57/\m=10*n+(c-48):=by
 unfold dig at hd
 split at hd
 ·cases hd
 ·split at hd
  ·cases hd
  ·injection hd with hd
   omega
theorem tk_ok {q r:Q} {most c:Int} (w:W q) (hm:0<=most/\most<=4294967295) (h:tk most q c=some r):W r/\r.2.2.2.length<=q.2.2.2.length+1:=by
 obtain ⟨e1,e2,e3⟩:=endR_ok w hm
 unfold tk at h
 split at h
 ·rename_i hs
  injection h with h;subst h
  refine ⟨⟨w.n0,w.n1,by simp only;split <;> omega,λhh=>?_,w.each⟩,by simp⟩
  simp only at hh ⊢
  split at hh
  ·exact w.part (by omega)
  ·omega
 ·split at h
  ·rename_i m hd
   injection h with h;subst h
   split at hd
   ·obtain ⟨d1,d2,_⟩:=dig_ok w.n0 hd
    refine ⟨⟨by simp only;omega,d2,by simp only;split <;> omega,λhh=>?_,w.each⟩,by simp⟩
    simp only at hh ⊢
    split at hh
    ·exact w.part (by omega)
    ·omega
   ·cases hd
  ·split at h
   ·injection h with h;subst h
    exact ⟨⟨Int.le_refl _,by simp only;omega,by simp only;omega,λhh=>by simp only at hh;omega,e1⟩,e3⟩
   ·split at h
    ·injection h with h;subst h
     exact ⟨⟨Int.le_refl _,by simp only;omega,by simp only;omega,λ_=>e2,e1⟩,e3⟩
    ·cases h
abbrev R5:Type:=((Int×Unit×Unit)×((Int×Int×Int×Bool×Int×Unit×Unit)×List Pr×Unit))⊕((Unit×Int×Unit×Unit)×(List Pr×Unit))
def runA (most:Int):Q->Nat->List Int->R5
 | q,pl,[]=>.inl ((most,(),()),((q.1,q.2.1,(pl:Int),q.2.2.1,most,(),()),q.2.2.2,()))
 | q,pl,v::vs=>match tk most q v with
  | none=>.inr (((),(pl:Int),(),()),([],()))
  | some r=>runA most r (pl+1) vs
theorem L77_iter (s:List UInt8) (most:Int) (hm:0<=most/\most<=4294967295) (hs:s.length<=1100000):∀ (k m:Nat) (q:Q) (pl i:Nat),i<=s.length->s.length-i<=m->s.length-i<k->W q->q.2.2.2.length<=pl->pl<=i ->
  iter B77_0 k ((most,(),(),()),((q.1,q.2.1,(pl:Int),q.2.2.1,most,(),()),(s,i),q.2.2.2,()))=some (runA most q pl (runes m (s.drop i)))
 | 0,_,_,_,_,_,_,h,_,_,_=>absurd h (Nat.not_lt_zero _)
 | k+1,m,q,pl,i,hi,hm',hk,w,hl,hp=>by
  by_cases hlt:i<s.length
  ·have hne:s.drop i≠[]:=by
    intro he
    have:=congrArg List.length he
    rw [List.length_drop,List.length_nil] at this
    omega
   obtain ⟨w1,w2,_⟩:=wid_pos hne
   rw [List.length_drop] at w2
   obtain ⟨m,rfl⟩:∃ x,m=x+1:=⟨m-1,by omega⟩
   have hr:runes (m+1) (s.drop i)=((Go.Lib.decodeL (s.drop i)).1:Int)::runes m (s.drop (i+wid (s.drop i))):=by
    simp only [runes]
    rw [if_neg hne,List.drop_drop]
   have e10:=F123_eq most ((Go.Lib.decodeL (s.drop i)).1:Int) (pl:Int) q w.n0 w.n1 (λh=>w.part (.inr h)) (by omega)
   rw [hr]
   simp only [iter,B77_0,hlt,dTr,cTt,dec_at hlt,runA]
   rw [e10]
   cases ht:tk most q ((Go.Lib.decodeL (s.drop i)).1:Int) with
   | none=>simp only [oBs,Bool.not_false,cTt]
   | some r =>
    obtain ⟨w',hl'⟩:=tk_ok w hm ht
    simp only [oBs,Bool.not_true,cFf,w64_nat (show pl<9223372036854775807 by omega)]
    rw [<- wid_eq hne]
    exact L77_iter s most hm hs k m r (pl+1) (i+wid (s.drop i)) (by omega) (by omega) (by omega) w' (by omega) (by omega)
  ·obtain rfl:i=s.length:=by omega
   have hr:runes m (s.drop s.length)=[]:=by
    rw [List.drop_length]
    cases m <;> rfl
   rw [hr]
   simp only [iter,B77_0,Nat.lt_irrefl,decide_false,cFf,runA]
def resB (most:Int):R5->List Pr×Int×Int×Unit
 | .inr q=>([],q.1.2.1,4,())
 | .inl p=>if p.2.1.1=0\/p.2.1.1=3 then ([],p.2.1.2.2.1,3,())
  else if 32<(endR p.2.1.1 p.2.1.2.1 most p.2.2.1).length then ([],0,6,())
  else if p.2.1.2.2.2.1&&decide (most=0) then ([],0,2,())
  else (joined (endR p.2.1.1 p.2.1.2.1 most p.2.2.1),0,0,())
theorem runA_ok {most:Int} (hm:0<=most/\most<=4294967295):∀ (vs:List Int) (q:Q) (pl:Nat),W q->q.2.2.2.length<=pl ->
  (∃ (r:Q) (x:Nat),runA most q pl vs=.inl ((most,(),()),((r.1,r.2.1,(x:Int),r.2.2.1,most,(),()),r.2.2.2,()))/\W r/\r.2.2.2.length<=pl+vs.length)\/∃ x:Nat,runA most q pl vs=.inr (((),(x:Int),(),()),([],()))
 | [],q,pl,w,hl=>.inl ⟨q,pl,rfl,w,by simpa using hl⟩
 | v::vs,q,pl,w,hl=>by
  simp only [runA]
  cases ht:tk most q v with
  | none=>exact .inr ⟨pl,rfl⟩
  | some r =>
   obtain ⟨w',hl'⟩:=tk_ok w hm ht
   rcases runA_ok hm vs r (pl+1) w' (by omega) with ⟨r',x,h1,h2,h3⟩ | ⟨x,h⟩
   ·exact .inl ⟨r',x,h1,h2,by simp only [List.length_cons];omega⟩
   ·exact .inr ⟨x,h⟩
theorem runes_len:∀ (n:Nat) (s:List UInt8),(runes n s).length<=n
 | 0,s=>by simp [runes]
 | n+1,s=>by
  unfold runes
  split
  ·simp
  ·simp only [List.length_cons]
   have:=runes_len n (s.drop (wid s));omega
theorem W0:W (0,0,false,[]):=⟨Int.le_refl _,by simp only;omega,by simp only;omega,λh=>by simp only at h;omega,λp h=>by cases h⟩
theorem F77_eq (s:List UInt8) (most:Int) (hs:s.length<=1100000):F77 ((s,most,()),())=some (if most<0\/4294967295<most then ([],0,2,()) else resB most (runA most (0,0,false,[]) 0 (runes s.length s)),()):=by
 by_cases hm:most<0\/4294967295<most
 ·have:(decide (most<0)||decide (4294967295<most))=true:=by simpa using hm
  simp only [F77,this,cTt,hm,↓reduceIte]
 ·have hm1:(decide (most<0)||decide (4294967295<most))=false:=by
   rw [Bool.or_eq_false_iff,decide_eq_false_iff_not,decide_eq_false_iff_not];omega
  have hm2:0<=most/\most<=4294967295:=by omega
  have h:=L77_iter s most hm2 hs FUEL s.length (0,0,false,[]) 0 0 (Nat.zero_le _) (by omega) (by unfold FUEL;omega) W0 (Nat.le_refl _) (Nat.le_refl _)
  have h':L77_0 ((most,(),(),()),(((0:Int),(0:Int),(0:Int),false,most,(),()),(s,0),[],()))=some (runA most (0,0,false,[]) 0 (runes s.length s)):=h
  simp only [F77,hm1,cFf,hm,↓reduceIte,h']
  rcases runA_ok hm2 (runes s.length s) (0,0,false,[]) 0 W0 (Nat.le_refl _) with ⟨r,x,h1,w,hl⟩ | ⟨x,h1⟩
  ·rw [h1]
   have:=runes_len s.length s
   obtain ⟨g1,g2,g3⟩:=endR_ok w hm2
   have e11:=F124_eq r.1 r.2.1 (x:Int) most r.2.2.1 r.2.2.2 (λh=>w.part (.inr h)) (by omega)
   simp only [oBs,resB,<- Bool.decide_or]
   by_cases hst:r.1=0\/r.1=3
   ·simp only [hst,dTr,cTt,↓reduceIte]
   ·simp only [hst,decide_false,cFf,e11,oBs,↓reduceIte]
    by_cases h32:32<(endR r.1 r.2.1 most r.2.2.2).length
    ·have:(32:Int)<((endR r.1 r.2.1 most r.2.2.2).length:Int):=by omega
     simp only [h32,this,dTr,cTt,↓reduceIte]
    ·have:¬ (32:Int)<((endR r.1 r.2.1 most r.2.2.2).length:Int):=by omega
     have e12:=F125_eq (endR r.1 r.2.1 most r.2.2.2) (by omega) (λh=>by rw [h] at g2;simp at g2) g1
     simp only [h32,this,decide_false,cFf,↓reduceIte,e12,oBs]
     cases (r.2.2.1&&decide (most=0))
     ·simp only [cFf,Bool.false_eq_true,↓reduceIte]
     ·simp only [cTt,↓reduceIte]
  ·rw [h1]
   simp only [oBs,resB]
def isd (c:List UInt8):Bool:=decide (c.length=1)&&decide (48<=(c.getD 0 0).toNat)&&decide ((c.getD 0 0).toNat<=57)
def digs:Int->Ls->(Int×Ls)⊕Ls
 | n,[]=>.inl (n,[])
 | n,c::t=>if isd c then (if 10*n+(((c.getD 0 0).toNat:Int)-48)=0\/4294967295<10*n+(((c.getD 0 0).toNat:Int)-48) then .inr (c::t) else digs (10*n+(((c.getD 0 0).toNat:Int)-48)) t) else .inl (n,c::t)
abbrev R23:Type:=((Int×Int×Int×Unit)×Unit)⊕((Unit×Int×Unit×Unit)×Unit)
def res23 (len:Nat) (a:Int):(Int×Ls)⊕Ls->R23
 | .inl p=>.inl ((a,p.1,((len-p.2.length:Nat):Int),()),())
 | .inr r=>.inr (((),((len-r.length:Nat):Int),(),()),())
theorem L164_iter (L:Ls) (a:Int) (hL:L.length<=1100000):∀ (k i:Nat) (n:Int),i<=L.length->L.length-i<k->0<=n->n<=4294967295 ->
  iter B164_0 k ((L,a,n,(i:Int),()),())=some (res23 L.length a (digs n (L.drop i)))
 | 0,_,_,_,h,_,_=>absurd h (Nat.not_lt_zero _)
 | k+1,i,n,hi,hk,h0,h1=>by
  by_cases hlt:i<L.length
  ·have hd:=List.drop_eq_getElem_cons hlt
   have hg:L.getD i []=L[i]:=by rw [List.getD_eq_getElem?_getD,List.getElem?_eq_getElem hlt];rfl
   rw [hd]
   have hc:(((decide (L[i].length=1)&&decide (UInt8.toNat 48<=(L[i].getD 0 0).toNat))&&decide ((L[i].getD 0 0).toNat<=UInt8.toNat 57)))=isd L[i]:=rfl
   have hlen1:decide (((L[i].length:Nat):Int)=1)=decide (L[i].length=1):=by
    rw [decide_eq_decide];omega
   simp only [iter,B164_0,nat_lt,nat_nn,hlt,dTr,Bool.and_true,Bool.true_and,Bool.true_or,cTt,nCt,hg,hlen1,hc]
   have hz:(decide ((0:Int)<((L[i].length:Nat):Int))||!(decide (L[i].length=1)))=true:=by
    by_cases h:L[i].length=1
    ·rw [h];rfl
    ·simp [h]
   have hz2:(decide ((0:Int)<((L[i].length:Nat):Int))||!(decide (L[i].length=1)&&decide (UInt8.toNat 48<=(L[i].getD 0 0).toNat)))=true:=by
    by_cases h:L[i].length=1
    ·rw [h];rfl
    ·simp [h]
   simp only [hz,hz2,cTt]
   by_cases his:isd L[i]=true
   ·have his':=his
    unfold isd at his'
    rw [bAt,bAt,dTe,dTe,dTe] at his'
    have hpos:decide ((0:Int)<((L[i].length:Nat):Int))=true:=by rw [his'.1.1];rfl
    have hm:w64 (w64 (w64 (10*n)+(((L[i].getD 0 0).toNat:Nat):Int))-48)=10*n+((((L[i].getD 0 0).toNat:Nat):Int)-48):=by
     rw [w64_id (n:=10*n) (by omega) (by omega),w64_id (n:=10*n+_) (by omega) (by omega),w64_id (by omega) (by omega)]
     omega
    simp only [his,cTt,hpos,oBs,hm,<- Bool.decide_or,digs,↓reduceIte]
    by_cases hb:10*n+((((L[i].getD 0 0).toNat:Nat):Int)-48)=0\/4294967295<10*n+((((L[i].getD 0 0).toNat:Nat):Int)-48)
    ·simp only [hb,dTr,cTt,↓reduceIte,res23,List.length_cons,List.length_drop]
     rw [show L.length-(L.length-(i+1)+1)=i by omega]
    ·simp only [hb,decide_false,cFf,↓reduceIte,w64_nat (show i<9223372036854775807 by omega)]
     exact L164_iter L a hL k (i+1) _ (by omega) (by omega) (by omega) (by omega)
   ·rw [Bool.not_eq_true] at his
    simp only [his,cFf,digs,Bool.false_eq_true,↓reduceIte,res23,List.length_cons,List.length_drop]
    rw [show L.length-(L.length-(i+1)+1)=i by omega]
  ·obtain rfl:i=L.length:=by omega
   rw [List.drop_length]
   simp only [iter,B164_0,Int.lt_irrefl,decide_false,Bool.and_false,Bool.false_and,Bool.not_false,Bool.or_true,cTt,cFf,digs,res23,List.length_nil,Nat.sub_zero]
def star:List UInt8:=[42]
def ones (r:Ls):Int×Ls×Bool :=
 if r≠[]/\r.getD 0 []=star then (-1,r.drop 1,true)
 else match digs 0 r with
  | .inl p=>(p.1,p.2,decide (p.2.length<r.length))
  | .inr t=>(0,t,false)
theorem digs_len:∀ (r:Ls) (n:Int),match digs n r with | .inl p=>p.2.length<=r.length | .inr t=>t.length<=r.length
 | [],n=>by simp [digs]
 | c::t,n=>by
  simp only [digs]
  by_cases h:isd c=true
  ·rw [if_pos h]
   by_cases hb:10*n+(((c.getD 0 0).toNat:Int)-48)=0\/4294967295<10*n+(((c.getD 0 0).toNat:Int)-48)
   ·rw [if_pos hb];exact Nat.le_refl _
   ·rw [if_neg hb]
    have:=digs_len t (10*n+(((c.getD 0 0).toNat:Int)-48))
    cases hd:digs (10*n+(((c.getD 0 0).toNat:Int)-48)) t with
    | inl p=>rw [hd] at this;simp only [List.length_cons] at *; omega
    | inr p=>rw [hd] at this;simp only [List.length_cons] at *; omega
  ·rw [if_neg h];exact Nat.le_refl _
theorem ones_len (r:Ls):(ones r).2.1.length<=r.length:=by
 unfold ones
 split
 ·simp
 ·have:=digs_len r 0
  cases hd:digs 0 r with
  | inl p=>rw [hd] at this;exact this
  | inr p=>rw [hd] at this;exact this
theorem F164_eq (L:Ls) (i:Nat) (hL:L.length<=1100000) (hi:i<=L.length) :
  F164 ((L,(i:Int),()),())=some (((ones (L.drop i)).1,((L.length-(ones (L.drop i)).2.1.length:Nat):Int),(ones (L.drop i)).2.2,()),()):=by
 have h:=L164_iter L (i:Int) hL FUEL i 0 hi (by unfold FUEL;omega) (Int.le_refl _) (by omega)
 have h':L164_0 ((L,(i:Int),(0:Int),(i:Int),()),())=_:=h
 have c1:((decide ((0:Int)<=(i:Int))&&decide (i<L.length))||!(decide (i<L.length)))=true:=by
  rw [nat_nn,Bool.true_and];cases decide (i<L.length) <;> rfl
 have hst:(decide (i<L.length)&&decide (L.getD i []=[42]))=decide (L.drop i≠[]/\(L.drop i).getD 0 []=star):=by
  rw [Bool.eq_iff_iff,bAt,dTe,dTe,dTe]
  have e:(L.drop i).getD 0 []=L.getD i []:=by
   rw [List.getD_eq_getElem?_getD,List.getD_eq_getElem?_getD,List.getElem?_drop,Nat.add_zero]
  rw [e]
  refine and_congr ?_ Iff.rfl
  rw [ne_eq,List.drop_eq_nil_iff]
  omega
 simp only [F164,nat_lt,c1,cTt,nCt,hst,h']
 unfold ones
 by_cases hs:L.drop i≠[]/\(L.drop i).getD 0 []=star
 ·rw [if_pos hs,dTt hs]
  have hlt:i<L.length:=by
   rcases Nat.lt_or_ge i L.length with h | h
   ·exact h
   ·exact absurd (List.drop_eq_nil_iff.mpr h) hs.1
  simp only [cTt,w64_nat (show i<9223372036854775807 by omega),List.length_drop]
  rw [show L.length-(L.length-i-1)=i+1 by omega]
 ·rw [if_neg hs,dFf hs]
  have hl:=digs_len (L.drop i) 0
  cases hd:digs 0 (L.drop i) with
  | inl p =>
   rw [hd] at hl
   simp only [List.length_drop] at hl
   have:decide (i<L.length-p.2.length)=decide (p.2.length<(L.drop i).length):=by
    rw [decide_eq_decide,List.length_drop];omega
   simp only [cFf,res23,oBs,nat_lt,this]
  | inr p=>simp only [cFf,res23,oBs]
def two (r:Ls):Int×Int×Ls×Bool :=
 if (ones r).2.2=true/\(ones r).2.1≠[]/\(ones r).2.1.getD 0 []=[58] then ((ones r).1,(ones ((ones r).2.1.drop 1)).1,(ones ((ones r).2.1.drop 1)).2.1,(ones ((ones r).2.1.drop 1)).2.2)
 else ((ones r).1,(ones r).1,(ones r).2.1,(ones r).2.2)
theorem two_len (r:Ls):(two r).2.2.1.length<=r.length:=by
 unfold two
 have h1:=ones_len r
 split
 ·have h2:=ones_len ((ones r).2.1.drop 1)
  rw [List.length_drop] at h2
  simp only;omega
 ·exact h1
abbrev R13:Type:=(Unit×Int×Int×Unit)×(List Pr×Unit)
def prs (len:Nat):Nat->Ls->List Pr->R13
 | 0,_,_=>(((),0,0,()),([],()))
 | k+1,r,out =>
  if (two r).2.2.2=false/\(two r).2.2.1=[] then (((),(len:Int),3,()),([],()))
  else if (two r).2.2.2=false\/((two r).2.2.1≠[]/\(two r).2.2.1.getD 0 []≠[44]) then (((),((len-(two r).2.2.1.length:Nat):Int),4,()),([],()))
  else if (two r).2.2.1=[] then (((),0,0,()),(out++[((two r).1,(two r).2.1,())],()))
  else prs len k ((two r).2.2.1.drop 1) (out++[((two r).1,(two r).2.1,())])
theorem L120_iter (L:Ls) (hL:L.length<=1100000):∀ (k m i:Nat) (out:List Pr),i<=L.length->L.length-i<k->L.length-i<m->out.length<=i ->
  iter B120_0 k ((L,(),(i:Int),()),(out,()))=some (prs L.length m (L.drop i) out)
 | 0,_,_,_,_,h,_,_=>absurd h (Nat.not_lt_zero _)
 | _+1,0,_,_,_,_,h,_=>absurd h (Nat.not_lt_zero _)
 | k+1,m+1,i,out,hi,hk,hm,ho=>by
  have e1:=F164_eq L i hL hi
  have l1:=ones_len (L.drop i)
  rw [List.length_drop] at l1
  have hdr:∀ r:Ls,r.length<=L.length->(∃ j,r=L.drop j)->r=L.drop (L.length-r.length):=by
   rintro r hr ⟨j,rfl⟩
   rw [List.length_drop]
   rcases Nat.lt_or_ge j L.length with h | h
   ·rw [show L.length-(L.length-j)=j by omega]
   ·rw [show L.length-(L.length-j)=L.length by omega,List.drop_length,List.drop_eq_nil_of_le h]
  have digs_drop:∀ (t:Ls) (n:Int),match digs n t with | .inl p=>∃ j,p.2=t.drop j | .inr u=>∃ j,u=t.drop j:=by
   intro t
   induction t with
   | nil=>intro n;exact ⟨0,rfl⟩
   | cons c t ih =>
    intro n
    simp only [digs]
    by_cases h:isd c=true
    ·rw [if_pos h]
     by_cases hb:10*n+(((c.getD 0 0).toNat:Int)-48)=0\/4294967295<10*n+(((c.getD 0 0).toNat:Int)-48)
     ·rw [if_pos hb];exact ⟨0,rfl⟩
     ·rw [if_neg hb]
      have:=ih (10*n+(((c.getD 0 0).toNat:Int)-48))
      cases hd:digs (10*n+(((c.getD 0 0).toNat:Int)-48)) t with
      | inl p=>rw [hd] at this;obtain ⟨j,hj⟩:=this;exact ⟨j+1,hj⟩
      | inr p=>rw [hd] at this;obtain ⟨j,hj⟩:=this;exact ⟨j+1,hj⟩
    ·rw [if_neg h];exact ⟨0,rfl⟩
  have ones_drop:∀ t:Ls,∃ j,(ones t).2.1=t.drop j:=by
   intro t
   unfold ones
   split
   ·exact ⟨1,rfl⟩
   ·have:=digs_drop t 0
    cases hd:digs 0 t with
    | inl p=>rw [hd] at this;exact this
    | inr p=>rw [hd] at this;exact this
  have d1:(ones (L.drop i)).2.1=L.drop (L.length-(ones (L.drop i)).2.1.length):=by
   refine hdr _ (by omega) ?_
   obtain ⟨j,hj⟩:=ones_drop (L.drop i)
   exact ⟨i+j,by rw [hj,List.drop_drop]⟩
  have d2:(two (L.drop i)).2.2.1=L.drop (L.length-(two (L.drop i)).2.2.1.length):=by
   have hl:=two_len (L.drop i)
   rw [List.length_drop] at hl
   refine hdr _ (by omega) ?_
   unfold two
   split
   ·obtain ⟨j,hj⟩:=ones_drop ((ones (L.drop i)).2.1.drop 1)
    simp only
    rw [hj,d1,List.drop_drop,List.drop_drop]
    exact ⟨_,rfl⟩
   ·exact ⟨_,d1⟩
  have l2:=two_len (L.drop i)
  rw [List.length_drop] at l2
  have step:∀ {σ:Type} (K:((List (List UInt8))×Unit×Int×Int×Bool×Int×Unit)×((List Pr)×Unit)->Option σ),
    (Option.bind (cond (((decide ((0:Int)<=((L.length-(ones (L.drop i)).2.1.length:Nat):Int)))&&(decide (((L.length-(ones (L.drop i)).2.1.length:Nat):Int)<((L.length:Nat):Int))))||(!((ones (L.drop i)).2.2&&(decide (((L.length-(ones (L.drop i)).2.1.length:Nat):Int)<((L.length:Nat):Int))))))
     (cond (((ones (L.drop i)).2.2&&(decide (((L.length-(ones (L.drop i)).2.1.length:Nat):Int)<((L.length:Nat):Int))))&&(decide ((List.getD L (Int.toNat ((L.length-(ones (L.drop i)).2.1.length:Nat):Int)) ([]:List UInt8))=([58]:List UInt8))))
      (Option.bind (F164 ((L,(w64 (((L.length-(ones (L.drop i)).2.1.length:Nat):Int)+(1:Int))),()),())) λr2=>(some ((L,(),(ones (L.drop i)).1,r2.1.2.1,r2.1.2.2.1,r2.1.1,()),(out,()))))
      (some ((L,(),(ones (L.drop i)).1,((L.length-(ones (L.drop i)).2.1.length:Nat):Int),(ones (L.drop i)).2.2,(ones (L.drop i)).1,()),(out,())))) none) K)
    = K ((L,(),(two (L.drop i)).1,((L.length-(two (L.drop i)).2.2.1.length:Nat):Int),(two (L.drop i)).2.2.2,(two (L.drop i)).2.1,()),(out,())):=by
   intro σ K
   generalize ho1:ones (L.drop i)=o at *
   have hlt:decide (((L.length-o.2.1.length:Nat):Int)<((L.length:Nat):Int))=decide (o.2.1≠[]):=by
    rw [decide_eq_decide,ne_eq,<- List.length_eq_zero_iff];omega
   have hget:L.getD (L.length-o.2.1.length) []=o.2.1.getD 0 []:=by
    conv=>rhs;rw [d1]
    rw [List.getD_eq_getElem?_getD,List.getD_eq_getElem?_getD,List.getElem?_drop,Nat.add_zero]
   have c1:((true&&decide (o.2.1≠[]))||!(o.2.2&&decide (o.2.1≠[])))=true:=by
    cases o.2.2 <;> cases decide (o.2.1≠[]) <;> rfl
   unfold two
   rw [ho1]
   simp only [hlt,nat_nn,c1,cTt,nCt,hget]
   by_cases hc:o.2.2=true/\o.2.1≠[]/\o.2.1.getD 0 []=[58]
   ·rw [if_pos hc]
    have hpos:0<o.2.1.length:=List.length_pos_iff.mpr hc.2.1
    have e2:=F164_eq L (L.length-o.2.1.length+1) hL (by omega)
    have hdd:L.drop (L.length-o.2.1.length+1)=o.2.1.drop 1:=by
     conv=>rhs;rw [d1]
     rw [List.drop_drop]
    rw [hdd] at e2
    rw [hc.1,dTt hc.2.1,dTt hc.2.2,w64_nat (show L.length-o.2.1.length<9223372036854775807 by omega),e2]
    simp only [bAs,cTt,oBs]
   ·rw [if_neg hc]
    have:(o.2.2&&decide (o.2.1≠[])&&decide (o.2.1.getD 0 []=[58]))=false:=by
     rw [<- Bool.not_eq_true,bAt,bAt,dTe,dTe,and_assoc];exact hc
    rw [this]
    simp only [cFf,oBs]
  simp only [iter,B120_0,e1,oBs]
  rw [step]
  simp only [prs]
  generalize ht:two (L.drop i)=t at *
  have heq:decide (((L.length-t.2.2.1.length:Nat):Int)=((L.length:Nat):Int))=decide (t.2.2.1=[]):=by
   rw [decide_eq_decide,<- List.length_eq_zero_iff];omega
  have hlt:decide (((L.length-t.2.2.1.length:Nat):Int)<((L.length:Nat):Int))=decide (t.2.2.1≠[]):=by
   rw [decide_eq_decide,ne_eq,<- List.length_eq_zero_iff];omega
  have hget:L.getD (L.length-t.2.2.1.length) []=t.2.2.1.getD 0 []:=by
   conv=>rhs;rw [d2]
   rw [List.getD_eq_getElem?_getD,List.getD_eq_getElem?_getD,List.getElem?_drop,Nat.add_zero]
  have hby:bytesOK (out.length+1) 16=true:=bytes_ok (by omega)
  have c1:((true&&decide (t.2.2.1≠[]))||!(decide (t.2.2.1≠[])&&!(!t.2.2.2)))=true:=by
   cases t.2.2.2 <;> cases decide (t.2.2.1≠[]) <;> rfl
  simp only [heq,hlt,nat_nn,c1,nCt,hget,oBs,List.length_cons,List.length_nil,Nat.zero_add,hby,cTt]
  by_cases h1:t.2.2.2=false/\t.2.2.1=[]
  ·rw [if_pos h1]
   simp only [h1.1,h1.2,dTr,Bool.not_false,bAs,cTt,List.length_nil,Nat.sub_zero]
  ·rw [if_neg h1]
   have h1':(!t.2.2.2&&decide (t.2.2.1=[]))=false:=by
    rw [<- Bool.not_eq_true,bAt,Bool.not_eq_true',dTe];exact h1
   simp only [h1',cFf]
   by_cases h2:t.2.2.2=false\/(t.2.2.1≠[]/\t.2.2.1.getD 0 []≠[44])
   ·rw [if_pos h2]
    have h2':(!t.2.2.2||(decide (t.2.2.1≠[])&&!decide (t.2.2.1.getD 0 []=[44])))=true:=by
     rw [Bool.or_eq_true,bAt,Bool.not_eq_true',Bool.not_eq_true',dTe,decide_eq_false_iff_not];exact h2
    simp only [h2',cTt]
   ·rw [if_neg h2]
    have h2':(!t.2.2.2||(decide (t.2.2.1≠[])&&!decide (t.2.2.1.getD 0 []=[44])))=false:=by
     rw [<- Bool.not_eq_true,Bool.or_eq_true,bAt,Bool.not_eq_true',Bool.not_eq_true',dTe,decide_eq_false_iff_not];exact h2
    simp only [h2',cFf]
    by_cases h3:t.2.2.1=[]
    ·rw [if_pos h3,dTt h3]
     simp only [cTt]
    ·rw [if_neg h3,dFf h3]
     have hpos:0<t.2.2.1.length:=List.length_pos_iff.mpr h3
     simp only [cFf,w64_nat (show L.length-t.2.2.1.length<9223372036854775807 by omega)]
     have hdd:L.drop (L.length-t.2.2.1.length+1)=t.2.2.1.drop 1:=by
      conv=>rhs;rw [d2]
      rw [List.drop_drop]
     rw [<- hdd]
     exact L120_iter L hL k m _ _ (by omega) (by omega) (by omega) (by simp only [List.length_append,List.length_cons,List.length_nil];omega)
theorem F120_eq (L:Ls) (hL:L.length<=1100000):F120 ((L,()),())=some (((prs L.length (L.length+1) L []).2.1,(prs L.length (L.length+1) L []).1.2.1,(prs L.length (L.length+1) L []).1.2.2.1,()),()):=by
 have h:=L120_iter L hL FUEL (L.length+1) 0 [] (Nat.zero_le _) (by unfold FUEL;omega) (by omega) (Nat.le_refl _)
 rw [List.drop_zero] at h
 have h':L120_0 ((L,(),(0:Int),()),([],()))=_:=h
 simp only [F120,h',oBs]
end
section
theorem is_byte {c:List UInt8} {v:Int} (h:Is c v) (k:UInt8) (hk:k.toNat<128):c=[k]<->v=(k.toNat:Int):=by
 rcases h with ⟨b,rfl,hb,rfl⟩ | ⟨h1,h2⟩
 ·constructor
  ·intro e;injection e with e;rw [e]
  ·intro e
   have:b=k:=UInt8.toNat_inj.mp (by omega)
   rw [this]
 ·constructor
  ·intro e;have:=h1 k e;omega
  ·intro e;omega
theorem is_dig {c:List UInt8} {v:Int} (h:Is c v) (n:Int):dig n v=if isd c then (if 10*n+(((c.getD 0 0).toNat:Int)-48)=0\/4294967295<10*n+(((c.getD 0 0).toNat:Int)-48) then none else some (10*n+(((c.getD 0 0).toNat:Int)-48))) else none:=by
 rcases h with ⟨b,rfl,hb,rfl⟩ | ⟨h1,h2⟩
 ·have e:([b]:List UInt8).getD 0 0=b:=rfl
  have e2:isd [b]=(decide (48<=b.toNat)&&decide (b.toNat<=57)):=by simp [isd]
  rw [e,e2]
  unfold dig
  by_cases hd:48<=b.toNat/\b.toNat<=57
  ·rw [if_neg (show ¬ ((b.toNat:Int)<48\/57<(b.toNat:Int)) by omega),if_pos (show (decide (48<=b.toNat)&&decide (b.toNat<=57))=true by simp [hd])]
  ·rw [if_pos (show ((b.toNat:Int)<48\/57<(b.toNat:Int)) by omega),if_neg (show ¬ (decide (48<=b.toNat)&&decide (b.toNat<=57))=true by simp;omega)]
 ·have:isd c=false:=by
   unfold isd
   by_cases hl:c.length=1
   ·obtain ⟨b,rfl⟩:=List.length_eq_one_iff.mp hl
    have:=h1 b rfl
    have e:([b]:List UInt8).getD 0 0=b:=rfl
    rw [e]
    simp;omega
   ·simp [hl]
  rw [this]
  unfold dig
  rw [if_pos (by omega)]
  rfl
theorem all2_nil {vs:List Int} (h:All2 [] vs):vs=[]:=by cases h;rfl
theorem all2_cons {c:List UInt8} {t:Ls} {vs:List Int} (h:All2 (c::t) vs):∃ v u,vs=v::u/\Is c v/\All2 t u:=by
 cases h with
 | cons h1 h2=>exact ⟨_,_,rfl,h1,h2⟩
theorem isd_not {c:List UInt8} {v:Int} (h:Is c v) (hd:isd c=true):v≠44/\v≠58/\v≠42:=by
 have:=is_dig h 1
 rw [hd] at this
 unfold dig at this
 rcases h with ⟨b,rfl,hb,rfl⟩ | ⟨h1,h2⟩
 ·unfold isd at hd
  rw [bAt,bAt,dTe,dTe,dTe] at hd
  have e:([b]:List UInt8).getD 0 0=b:=rfl
  rw [e] at hd
  omega
 ·omega
abbrev bad (x:Nat):R5:=.inr (((),(x:Int),(),()),([],()))
theorem run_digs (most:Int) (sr:Bool) (ps:List Pr) (st:Int) (hst:st=1\/st=4):∀ (r:Ls) (vs:List Int) (n:Int) (pl:Nat),All2 r vs->0<=n->n<=4294967295 ->
  (∀ p,digs n r=.inl p->∃ vs',All2 p.2 vs'/\runA most (st,n,sr,ps) pl vs=runA most (st,p.1,sr,ps) (pl+(r.length-p.2.length)) vs'/\p.2.length<=r.length/\0<=p.1/\p.1<=4294967295/\n<=p.1/\(p.2=[]\/isd (p.2.getD 0 [])=false)) /\
  (∀ t,digs n r=.inr t->runA most (st,n,sr,ps) pl vs=bad (pl+(r.length-t.length))/\t.length<=r.length/\t≠[])
 | [],vs,n,pl,ha,h0,h1=>by
  rw [all2_nil ha]
  refine ⟨λp hp=>?_,λt ht=>by cases ht⟩
  injection hp with hp
  subst hp
  exact ⟨[],.nil,by simp,Nat.le_refl _,h0,h1,Int.le_refl _,.inl rfl⟩
 | c::r,vs,n,pl,ha,h0,h1=>by
  obtain ⟨v,u,rfl,hi,hu⟩:=all2_cons ha
  have hd:=is_dig hi n
  simp only [digs]
  by_cases hc:isd c=true
  ·rw [if_pos hc] at hd
   obtain ⟨n1,n2,n3⟩:=isd_not hi hc
   rw [if_pos hc]
   by_cases hb:10*n+(((c.getD 0 0).toNat:Int)-48)=0\/4294967295<10*n+(((c.getD 0 0).toNat:Int)-48)
   ·rw [if_pos hb] at hd
    rw [if_pos hb]
    refine ⟨λp hp=>(by cases hp),λt ht=>?_⟩
    injection ht with ht
    subst ht
    refine ⟨?_,Nat.le_refl _,by simp⟩
    have:tk most (st,n,sr,ps) v=none:=by
     unfold tk
     rw [if_neg (by simp only;omega)]
     simp only [hd]
     rw [if_pos (by omega)]
     simp only
     rw [if_neg (by omega),if_neg (by omega)]
    simp only [runA,this,Nat.sub_self,Nat.add_zero]
   ·rw [if_neg hb] at hd
    rw [if_neg hb]
    have ht:tk most (st,n,sr,ps) v=some (st,10*n+(((c.getD 0 0).toNat:Int)-48),sr,ps):=by
     unfold tk
     rw [if_neg (by simp only;omega)]
     simp only [hd]
     rw [if_pos (by omega)]
     simp only
     rcases hst with rfl | rfl <;> rfl
    have hge:48<=(c.getD 0 0).toNat:=by
     unfold isd at hc
     rw [bAt,bAt,dTe,dTe,dTe] at hc
     exact hc.1.2
    obtain ⟨g1,g2⟩:=run_digs most sr ps st hst r u (10*n+(((c.getD 0 0).toNat:Int)-48)) (pl+1) hu (by omega) (by omega)
    refine ⟨λp hp=>?_,λt ht'=>?_⟩
    ·obtain ⟨vs',q1,q2,q3,q4,q5,q6,q7⟩:=g1 p hp
     refine ⟨vs',q1,?_,by simp only [List.length_cons];omega,q4,q5,by omega,q7⟩
     simp only [runA,ht,q2,List.length_cons]
     rw [show pl+1+(r.length-p.2.length)=pl+(r.length+1-p.2.length) by omega]
    ·obtain ⟨q1,q2,q3⟩:=g2 t ht'
     refine ⟨?_,by simp only [List.length_cons];omega,q3⟩
     simp only [runA,ht,q1,List.length_cons]
     rw [show pl+1+(r.length-t.length)=pl+(r.length+1-t.length) by omega]
  ·rw [if_neg hc]
   refine ⟨λp hp=>?_,λt ht=>by cases ht⟩
   injection hp with hp
   subst hp
   exact ⟨v::u,ha,by simp,Nat.le_refl _,h0,h1,Int.le_refl _,.inr (by simpa using hc)⟩
structure Num (most:Int) (st:Int) (sr:Bool) (ps:List Pr) (pl:Nat) (r:Ls) (vs:List Int):Prop where
 yes:(ones r).2.2=true->∃ (st' n':Int) (vs':List Int),All2 (ones r).2.1 vs'/\runA most (st,0,sr,ps) pl vs=runA most (st',n',sr||decide ((ones r).1<0),ps) (pl+(r.length-(ones r).2.1.length)) vs' /\
  (ones r).2.1.length<r.length/\0<=n'/\n'<=4294967295/\((st'=(if st=3 then 5 else 2)/\(ones r).1=-1)\/(st'=(if st=3 then 4 else 1)/\n'=(ones r).1/\((ones r).2.1=[]\/isd ((ones r).2.1.getD 0 [])=false)))
 no3:(ones r).2.2=false->(ones r).2.1=[]->resB most (runA most (st,0,sr,ps) pl vs)=([],((pl+r.length:Nat):Int),3,())
 no4:(ones r).2.2=false->(ones r).2.1≠[]->runA most (st,0,sr,ps) pl vs=bad (pl+(r.length-(ones r).2.1.length))
theorem num (most:Int) (st:Int) (hst:st=0\/st=3) (sr:Bool) (ps:List Pr) (pl:Nat) (r:Ls) (vs:List Int) (ha:All2 r vs):Num most st sr ps pl r vs:=by
 cases r with
 | nil =>
  have e:ones []=(0,[],false):=rfl
  rw [all2_nil ha]
  refine ⟨λh=>(by rw [e] at h;cases h),λ_ _=>?_,λ_ h=>by rw [e] at h;exact absurd rfl h⟩
  simp only [runA,resB,List.length_nil,Nat.add_zero]
  rw [if_pos hst]
 | cons c t =>
  obtain ⟨v,u,rfl,hi,hu⟩:=all2_cons ha
  by_cases hs:c=star
  ·have hv:v=42:=(is_byte hi 42 (by decide)).mp hs
   have e:ones (c::t)=(-1,t,true):=by
    unfold ones
    rw [if_pos ⟨by simp,hs⟩]
    rfl
   refine ⟨λ_=>?_,λh=>(by rw [e] at h;cases h),λh=>(by rw [e] at h;cases h)⟩
   rw [e]
   refine ⟨if st=3 then 5 else 2,0,u,hu,?_,by simp,Int.le_refl _,by omega,.inl ⟨rfl,rfl⟩⟩
   have ht:tk most (st,0,sr,ps) v=some (if st=3 then 5 else 2,0,true,ps):=by
    unfold tk
    rw [if_pos ⟨hst,hv⟩]
   simp only [runA,ht,List.length_cons]
   rw [show pl+(t.length+1-t.length)=pl+1 by omega]
   simp
  ·have hv:v≠42:=λh=>hs ((is_byte hi 42 (by decide)).mpr h)
   have hd:=is_dig hi 0
   have e0:ones (c::t)=match digs 0 (c::t) with
    | .inl p=>(p.1,p.2,decide (p.2.length<(c::t).length))
    | .inr t=>(0,t,false):=by
    unfold ones
    rw [if_neg (λh=>hs h.2)]
   by_cases hc:isd c=true
   ·rw [if_pos hc] at hd
    obtain ⟨n1,n2,n3⟩:=isd_not hi hc
    have hge:48<=(c.getD 0 0).toNat:=by
     unfold isd at hc
     rw [bAt,bAt,dTe,dTe,dTe] at hc
     exact hc.1.2
    by_cases hb:10*(0:Int)+(((c.getD 0 0).toNat:Int)-48)=0\/4294967295<10*(0:Int)+(((c.getD 0 0).toNat:Int)-48)
    ·rw [if_pos hb] at hd
     have e:ones (c::t)=(0,c::t,false):=by
      rw [e0]
      simp only [digs]
      rw [if_pos hc,if_pos hb]
     refine ⟨λh=>(by rw [e] at h;cases h),λ_ h=>(by rw [e] at h;cases h),λ_ _=>?_⟩
     rw [e]
     have ht:tk most (st,0,sr,ps) v=none:=by
      unfold tk
      rw [if_neg (by simp only;omega)]
      simp only [hd]
      rw [if_pos (by omega)]
      simp only
      rw [if_neg (by omega),if_neg (by omega)]
     simp only [runA,ht,Nat.sub_self,Nat.add_zero]
    ·rw [if_neg hb] at hd
     have hdg:digs 0 (c::t)=digs (10*(0:Int)+(((c.getD 0 0).toNat:Int)-48)) t:=by
      simp only [digs]
      rw [if_pos hc,if_neg hb]
     have hst':(if st=3 then 4 else 1:Int)=1\/(if st=3 then 4 else 1:Int)=4:=by split <;> simp
     obtain ⟨g1,g2⟩:=run_digs most sr ps (if st=3 then 4 else 1) hst' t u (10*(0:Int)+(((c.getD 0 0).toNat:Int)-48)) (pl+1) hu (by omega) (by omega)
     have ht:tk most (st,0,sr,ps) v=some (if st=3 then 4 else 1,10*(0:Int)+(((c.getD 0 0).toNat:Int)-48),sr,ps):=by
      unfold tk
      rw [if_neg (by simp only;omega)]
      simp only [hd]
      rw [if_pos (by omega)]
      simp only
      rcases hst with rfl | rfl <;> rfl
     cases hx:digs 0 (c::t) with
     | inl p =>
      have e:ones (c::t)=(p.1,p.2,decide (p.2.length<(c::t).length)):=by rw [e0,hx]
      rw [hdg] at hx
      obtain ⟨vs',q1,q2,q3,q4,q5,q6,q7⟩:=g1 p hx
      have hlt:p.2.length<(c::t).length:=by simp only [List.length_cons];omega
      refine ⟨λ_=>?_,λh=>?_,λh=>?_⟩
      ·rw [e]
       refine ⟨if st=3 then 4 else 1,p.1,vs',q1,?_,hlt,q4,q5,.inr ⟨rfl,rfl,q7⟩⟩
       have hng:decide (p.1<0)=false:=by rw [decide_eq_false_iff_not];omega
       simp only [runA,ht,q2,hng,Bool.or_false,List.length_cons]
       rw [show pl+1+(t.length-p.2.length)=pl+(t.length+1-p.2.length) by omega]
      ·rw [e] at h
       simp only at h
       rw [decide_eq_false_iff_not] at h
       exact absurd hlt h
      ·rw [e] at h
       simp only at h
       rw [decide_eq_false_iff_not] at h
       exact absurd hlt h
     | inr x =>
      have e:ones (c::t)=(0,x,false):=by rw [e0,hx]
      rw [hdg] at hx
      obtain ⟨q1,q2,q3⟩:=g2 x hx
      refine ⟨λh=>(by rw [e] at h;cases h),λ_ h=>(by rw [e] at h;exact absurd h q3),λ_ _=>?_⟩
      rw [e]
      simp only [runA,ht,q1,List.length_cons]
      rw [show pl+1+(t.length-x.length)=pl+(t.length+1-x.length) by omega]
   ·rw [if_neg hc] at hd
    have e:ones (c::t)=(0,c::t,false):=by
     rw [e0]
     simp only [digs]
     rw [if_neg hc]
     simp
    refine ⟨λh=>(by rw [e] at h;cases h),λ_ h=>(by rw [e] at h;cases h),λ_ _=>?_⟩
    rw [e]
    have ht:tk most (st,0,sr,ps) v=none:=by
     unfold tk
     rw [if_neg (by simp only;omega)]
     simp only [hd]
     rw [if_pos (by omega)]
     simp only
     rw [if_neg (by omega),if_neg (by omega)]
    simp only [runA,ht,Nat.sub_self,Nat.add_zero]
def resR (most:Int) (x:R13):List Pr×Int×Int×Unit :=
 if x.1.2.2.1≠0 then ([],x.1.2.1,x.1.2.2.1,())
 else if 32<x.2.1.length then ([],0,6,())
 else if decide (most=0)&&x.2.1.any neg then ([],0,2,())
 else (joined (x.2.1.map (subs most)),0,0,())
theorem sub_neg {most:Int}:sub most (-1)=most:=rfl
theorem sub_pos {most n:Int} (h:0<=n):sub most n=n:=by
 unfold sub;rw [if_neg (by omega)]
theorem part_end {most:Int} {st n:Int} {sr:Bool} {ps out:List Pr} {pl len m:Nat} {r:Ls} {vs:List Int}
  (ih:∀ (t:Ls) (u:List Int) (out:List Pr) (pl:Nat),All2 t u->t.length<m->pl+t.length=len->resB most (runA most (0,0,out.any neg,out.map (subs most)) pl u)=resR most (prs len m t out))
  (ha:All2 r vs) (hm:r.length<=m) (hl:pl+r.length=len) (hst:st=1\/st=2\/st=4\/st=5) (hd:(st=1\/st=4)->(r=[]\/isd (r.getD 0 [])=false))
  (h58:(st=1\/st=2)->(r=[]\/r.getD 0 []≠[58])) (he:endR st n most ps=out.map (subs most)) (hsr:sr=out.any neg) :
  resB most (runA most (st,n,sr,ps) pl vs)=resR most (if r≠[]/\r.getD 0 []≠[44] then (((),((len-r.length:Nat):Int),4,()),([],())) else if r=[] then (((),0,0,()),(out,())) else prs len m (r.drop 1) out):=by
 cases r with
 | nil =>
  rw [all2_nil ha,if_neg (λh=>h.1 rfl),if_pos rfl]
  simp only [runA,resB,resR]
  rw [if_neg (show ¬ (st=0\/st=3) by omega),he,List.length_map,hsr,if_neg (show ¬ ((0:Int)≠0) by omega),Bool.and_comm]
 | cons c t =>
  obtain ⟨v,u,rfl,hi,hu⟩:=all2_cons ha
  have hg:(c::t).getD 0 []=c:=rfl
  have hdn:(if st≠2/\st≠5 then dig n v else none)=none:=by
   split
   ·rcases hd (by omega) with h | h
    ·cases h
    ·rw [hg] at h
     rw [is_dig hi n,h]
     rfl
   ·rfl
  by_cases hc:c=[44]
  ·have hv:v=44:=(is_byte hi 44 (by decide)).mp hc
   have ht:tk most (st,n,sr,ps) v=some (0,0,sr,endR st n most ps):=by
    unfold tk
    rw [if_neg (by simp only;omega)]
    simp only [hdn]
    rw [if_pos (by omega)]
   rw [if_neg (λh=>h.2 hc),if_neg (by simp)]
   simp only [runA,ht,he]
   rw [hsr]
   exact ih t u out (pl+1) hu (by simp only [List.length_cons] at hm;omega) (by simp only [List.length_cons] at hl;omega)
  ·have hv:v≠44:=λh=>hc ((is_byte hi 44 (by decide)).mpr h)
   have ht:tk most (st,n,sr,ps) v=none:=by
    unfold tk
    rw [if_neg (by simp only;omega)]
    simp only [hdn]
    rw [if_neg (by omega)]
    by_cases h12:st=1\/st=2
    ·rcases h58 h12 with h | h
     ·cases h
     ·rw [hg] at h
      have:v≠58:=λh'=>h ((is_byte hi 58 (by decide)).mpr h')
      rw [if_neg (by omega)]
    ·rw [if_neg (by omega)]
   rw [if_pos ⟨by simp,hc⟩]
   simp only [runA,ht,resB,resR]
   rw [if_pos (by omega),show len-(c::t).length=pl by omega]
theorem same_set (most:Int) (len:Nat):∀ (m:Nat) (r:Ls) (vs:List Int) (out:List Pr) (pl:Nat),All2 r vs->r.length<m->pl+r.length=len ->
  resB most (runA most (0,0,out.any neg,out.map (subs most)) pl vs)=resR most (prs len m r out)
 | 0,_,_,_,_,_,h,_=>absurd h (Nat.not_lt_zero _)
 | m+1,r,vs,out,pl,ha,hm,hl=>by
  have N:=num most 0 (.inl rfl) (out.any neg) (out.map (subs most)) pl r vs ha
  have hlen:=ones_len r
  simp only [prs]
  cases hok:(ones r).2.2 with
  | false =>
   have e:two r=((ones r).1,(ones r).1,(ones r).2.1,(ones r).2.2):=by
    unfold two
    rw [if_neg (λh=>by rw [hok] at h;cases h.1)]
   rw [e,hok]
   by_cases hn:(ones r).2.1=[]
   ·rw [if_pos ⟨rfl,hn⟩,N.no3 hok hn,hl]
    rfl
   ·rw [if_neg (λh=>hn h.2),if_pos (.inl rfl),N.no4 hok hn]
    simp only [resB,resR]
    rw [if_pos (by omega),show pl+(r.length-(ones r).2.1.length)=len-(ones r).2.1.length by omega]
  | true =>
   obtain ⟨st',n',vs',a1,a2,a3,a4,a5,a6⟩:=N.yes hok
   have hV:endV st' n' most=sub most (ones r).1:=by
    unfold endV
    rcases a6 with ⟨h1,h2⟩ | ⟨h1,h2,_⟩
    ·rw [h2,sub_neg,if_pos (by simp at h1;omega)]
    ·rw [h2] at a4
     rw [sub_pos a4,if_neg (by simp at h1;omega),h2]
   have hst':st'=1\/st'=2:=by
    rcases a6 with ⟨h1,_⟩ | ⟨h1,_⟩ <;> simp at h1 <;> omega
   rw [a2]
   by_cases hc:(ones r).2.1≠[]/\(ones r).2.1.getD 0 []=[58]
   ·have e:two r=((ones r).1,(ones ((ones r).2.1.drop 1)).1,(ones ((ones r).2.1.drop 1)).2.1,(ones ((ones r).2.1.drop 1)).2.2):=by
     unfold two
     rw [if_pos ⟨hok,hc⟩]
    rw [e]
    generalize ho:ones r=o at *
    obtain ⟨a,r1,ok1⟩:=o
    simp only at *
    cases r1 with
    | nil=>exact absurd rfl hc.1
    | cons c t =>
     obtain ⟨v,u,rfl,hi,hu⟩:=all2_cons a1
     have hcc:c=[58]:=hc.2
     have hv:v=58:=(is_byte hi 58 (by decide)).mp hcc
     have hend:endR st' n' most (out.map (subs most))=out.map (subs most)++[(sub most a,sub most a,())]:=by
      unfold endR
      rw [if_neg (by omega),hV]
     have hdn:(if st'≠2/\st'≠5 then dig n' v else none)=none:=by
      split
      ·unfold dig;rw [if_pos (by omega)]
      ·rfl
     have ht:tk most (st',n',out.any neg||decide (a<0),out.map (subs most)) v=some (3,0,out.any neg||decide (a<0),out.map (subs most)++[(sub most a,sub most a,())]):=by
      unfold tk
      rw [if_neg (by simp only;omega)]
      simp only [hdn]
      rw [if_neg (by omega),if_pos ⟨hst',hv⟩,hend]
     simp only [runA,ht,List.drop_succ_cons,List.drop_zero]
     simp only [List.length_cons] at a3 hlen
     have N2:=num most 3 (.inr rfl) (out.any neg||decide (a<0)) (out.map (subs most)++[(sub most a,sub most a,())]) (pl+(r.length-(t.length+1))+1) t u hu
     have hlen2:=ones_len t
     have hpl:pl+(r.length-(t.length+1))+1+t.length=len:=by omega
     rw [show (c::t).length=t.length+1 from rfl]
     cases hok2:(ones t).2.2 with
     | false =>
      by_cases hn:(ones t).2.1=[]
      ·rw [if_pos ⟨rfl,hn⟩,N2.no3 hok2 hn,hpl]
       rfl
      ·rw [if_neg (λh=>hn h.2),if_pos (.inl rfl),N2.no4 hok2 hn]
       simp only [resB,resR]
       rw [if_pos (by omega),show pl+(r.length-(t.length+1))+1+(t.length-(ones t).2.1.length)=len-(ones t).2.1.length by omega]
     | true =>
      obtain ⟨st2,n2,vs2,b1,b2,b3,b4,b5,b6⟩:=N2.yes hok2
      have hV2:endV st2 n2 most=sub most (ones t).1:=by
       unfold endV
       rcases b6 with ⟨h1,h2⟩ | ⟨h1,h2,_⟩
       ·rw [h2,sub_neg,if_pos (by simp at h1;omega)]
       ·rw [h2] at b4
        rw [sub_pos b4,if_neg (by simp at h1;omega),h2]
      have hst2:st2=4\/st2=5:=by
       rcases b6 with ⟨h1,_⟩ | ⟨h1,_⟩ <;> simp at h1 <;> omega
      rw [b2,if_neg (λh=>by cases h.1)]
      have hor:∀ (P:Prop),(true=false\/P)=P:=λP=>by simp
      simp only [hor]
      refine part_end (out:=out++[(a,(ones t).1,())]) (same_set most len m) b1 (by omega) (by omega) (by omega) (λh=>?_) (λh=>by omega) ?_ ?_
      ·rcases b6 with ⟨h1,_⟩ | ⟨_,_,h3⟩
       ·simp at h1;omega
       ·exact h3
      ·unfold endR
       rw [if_pos hst2,hV2]
       have e1:(out.map (subs most)++[(sub most a,sub most a,())]).length-1=(out.map (subs most)).length:=by simp
       rw [e1,last_get,last_set,List.map_append]
       rfl
      ·rw [List.any_append,Bool.or_assoc]
       simp [neg]
   ·have e:two r=((ones r).1,(ones r).1,(ones r).2.1,(ones r).2.2):=by
     unfold two
     rw [if_neg (λh=>hc h.2)]
    rw [e,hok,if_neg (λh=>by cases h.1)]
    have hor:∀ (P:Prop),(true=false\/P)=P:=λP=>by simp
    simp only [hor]
    refine part_end (out:=out++[((ones r).1,(ones r).1,())]) (same_set most len m) a1 (by omega) (by omega) (by omega) (λh=>?_) (λh=>?_) ?_ ?_
    ·rcases a6 with ⟨h1,_⟩ | ⟨_,_,h3⟩
     ·simp at h1;omega
     ·exact h3
    ·by_cases hn:(ones r).2.1=[]
     ·exact .inl hn
     ·exact .inr λh=>hc ⟨hn,h⟩
    ·unfold endR
     rw [if_neg (by omega),hV,List.map_append]
     rfl
    ·rw [List.any_append]
     simp [neg]
theorem digs_val:∀ (r:Ls) (n:Int) (p:Int×Ls),0<=n->n<=4294967295->digs n r=.inl p->0<=p.1/\p.1<=4294967295
 | [],n,p,h0,h1,h=>by
  injection h with h;subst h;exact ⟨h0,h1⟩
 | c::t,n,p,h0,h1,h=>by
  simp only [digs] at h
  by_cases hc:isd c=true
  ·rw [if_pos hc] at h
   by_cases hb:10*n+(((c.getD 0 0).toNat:Int)-48)=0\/4294967295<10*n+(((c.getD 0 0).toNat:Int)-48)
   ·rw [if_pos hb] at h;cases h
   ·rw [if_neg hb] at h
    have hge:48<=(c.getD 0 0).toNat:=by
     unfold isd at hc
     rw [bAt,bAt,dTe,dTe,dTe] at hc
     exact hc.1.2
    exact digs_val t _ p (by omega) (by omega) h
  ·rw [if_neg hc] at h
   injection h with h;subst h;exact ⟨h0,h1⟩
theorem ones_val (r:Ls):(ones r).1<=4294967295:=by
 unfold ones
 split
 ·simp only;omega
 ·cases hd:digs 0 r with
  | inl p=>exact (digs_val r 0 p (Int.le_refl _) (by omega) hd).2
  | inr p=>simp only;omega
theorem two_val (r:Ls):(two r).1<=4294967295/\(two r).2.1<=4294967295:=by
 unfold two
 split
 ·exact ⟨ones_val _,ones_val _⟩
 ·exact ⟨ones_val _,ones_val _⟩
theorem prs_val (len:Nat):∀ (m:Nat) (r:Ls) (out:List Pr),(∀ p∈out,p.1<=4294967295/\p.2.1<=4294967295)->∀ p∈(prs len m r out).2.1,p.1<=4294967295/\p.2.1<=4294967295
 | 0,_,_,_=>λp h=>by cases h
 | m+1,r,out,ho=>by
  have hv:=two_val r
  have ho':∀ p∈out++[((two r).1,(two r).2.1,())],p.1<=4294967295/\p.2.1<=4294967295:=λp hp=>by
   rcases List.mem_append.mp hp with h | h
   ·exact ho p h
   ·rw [List.mem_singleton.mp h];exact hv
  simp only [prs]
  split
  ·exact λp h=>by cases h
  ·split
   ·exact λp h=>by cases h
   ·split
    ·exact ho'
    ·exact prs_val len m _ _ ho'
theorem F74_eq (s:List UInt8) (most:Int) (hs:s.length<=1100000):F74 ((s,most,()),())=some (if most<0\/4294967295<most then ([],0,2,()) else resR most (prs (lets s.length s).length ((lets s.length s).length+1) (lets s.length s) []),()):=by
 by_cases hm:most<0\/4294967295<most
 ·have:(decide (most<0)||decide (4294967295<most))=true:=by simpa using hm
  simp only [F74,this,cTt,hm,↓reduceIte]
 ·have hm1:(decide (most<0)||decide (4294967295<most))=false:=by
   rw [Bool.or_eq_false_iff,decide_eq_false_iff_not,decide_eq_false_iff_not];omega
  have hm2:0<=most/\most<=4294967295:=by omega
  have hll:=lets_len s.length s
  have e13:=F120_eq (lets s.length s) (by omega)
  have hv:=prs_val (lets s.length s).length ((lets s.length s).length+1) (lets s.length s) [] (λp h=>by cases h)
  simp only [F74,hm1,cFf,hm,↓reduceIte,F97_eq hs,oBs]
  rw [e13]
  generalize prs (lets s.length s).length ((lets s.length s).length+1) (lets s.length s) []=x at *
  obtain ⟨⟨u1,place,code,u2⟩,out,u3⟩:=x
  simp only at hv
  simp only [oBs,resR]
  by_cases hc:code=0
  ·subst hc
   simp only [dTr,Bool.not_true,cFf,ne_eq,not_true_eq_false,↓reduceIte]
   by_cases h32:32<out.length
   ·have:(32:Int)<(out.length:Int):=by omega
    simp only [h32,this,dTr,cTt,↓reduceIte]
   ·have:¬ (32:Int)<(out.length:Int):=by omega
    have e6:=L6a_eq most out (by omega) hm2 hv
    rw [fold6] at e6
    simp only [h32,this,decide_false,cFf,↓reduceIte,e6,oBs]
    cases hb:(decide (most=0)&&out.any neg)
    ·simp only [oBs,Bool.false_eq_true,↓reduceIte,joined,List.map_map]
     rfl
    ·simp only [oBs,↓reduceIte]
  ·simp only [hc,decide_false,Bool.not_false,cTt,ne_eq,not_false_eq_true,↓reduceIte]
def set (s:List UInt8) (most:Int):List Pr×Int×Int×Unit :=
 if most<0\/4294967295<most then ([],0,2,()) else resR most (prs (lets s.length s).length ((lets s.length s).length+1) (lets s.length s) [])
theorem F5_set (s:List UInt8) (most:Int) (hs:s.length<=1100000):F77 ((s,most,()),())=some (set s most,()):=by
 rw [F77_eq s most hs]
 unfold set
 by_cases hm:most<0\/4294967295<most
 ·rw [if_pos hm,if_pos hm]
 ·rw [if_neg hm,if_neg hm,<- same_set most (lets s.length s).length _ _ (runes s.length s) [] 0 (lets_runes _ _) (Nat.lt_succ_self _) (Nat.zero_add _)]
  rfl
theorem F6_set (s:List UInt8) (most:Int) (hs:s.length<=1100000):F74 ((s,most,()),())=some (set s most,()):=F74_eq s most hs
end
section
def inn (n:Int) (p:Pr):Bool:=decide (p.1<=n)&&decide (n<=p.2.1)
theorem foldS_any {α τ:Type} (g:α->Bool) (y:Nat->τ) (n:τ):∀ (s:List α) (b:Nat),
  (∃ k:Nat,s.any g=true/\foldS (λa (b:Nat)=>if g a=true then (.inr (y b):Nat⊕τ) else .inl (b+1)) (λ_=>n) b s=y k)\/(s.any g=false/\foldS (λa (b:Nat)=>if g a=true then (.inr (y b):Nat⊕τ) else .inl (b+1)) (λ_=>n) b s=n)
 | [],_=>.inr ⟨rfl,rfl⟩
 | a::t,b=>by
  simp only [foldS,List.any_cons]
  by_cases h:g a=true
  ·simp only [h,↓reduceIte,Bool.true_or]
   exact .inl ⟨b,trivial,rfl⟩
  ·simp only [h,Bool.false_or]
   exact foldS_any g y n t (b+1)
abbrev R32:Type:=(((Unit×Unit)×Unit)×((Int×Unit)×Unit))⊕(((Unit×Unit)×Int×Unit)×((Int×Unit)×Unit))
theorem F83_eq (l:List Pr) (n:Int) (hl:l.length<=32):F83 ((l,n,()),())=some (l.any (inn n),()):=by
 have hF:=FUEL_big
 have h:L175c135_0 ((l,((),()),((l.length:Nat):Int),(0:Int),()),((n,()),()))=some (foldS (λa (b:Nat)=>if inn n a=true then (.inr (.inr ((((),()),(b:Int),()),((n,()),()))):Nat⊕R32) else .inl (b+1)) (λ_=>.inl ((((),()),()),((n,()),()))) 0 l):=by
  refine walk_listI (f:=B175c135_0) (λ(_:Nat) i=>((l,((),()),((l.length:Nat):Int),(i:Int),()),((n,()),()))) l _ _ (λb i=>b=i) (b:=0)
   (λb i a hI hi ha=>?_) (λb _=>?_) (by omega) rfl
  ·subst hI
   simp only [B175c135_0,F135,nat_lt,nat_nn,hi,dTr,Bool.and_true,cTt,nCt,ha,oBs]
   change (∃ c,(if inn n a=true then _ else _)=_/\_/\(cond (inn n a) _ _)=_)\/(∃ r,(if inn n a=true then _ else _)=_/\(cond (inn n a) _ _)=_)
   cases inn n a
   ·exact .inl ⟨_,rfl,rfl,by simp only [cFf,w64_nat (show b<9223372036854775807 by omega)]⟩
   ·exact .inr ⟨_,rfl,rfl⟩
  ·simp only [B175c135_0,Int.lt_irrefl,decide_false,cFf]
 rcases foldS_any (inn n) (λb=>(.inr ((((),()),(b:Int),()),((n,()),())):R32)) (.inl ((((),()),()),((n,()),()))) l 0 with ⟨k,h1,h2⟩ | ⟨h1,h2⟩
 ·rw [h2] at h
  simp only [F83,F134c135,F175c135,h,oBs,nat_nn,h1]
 ·rw [h2] at h
  simp only [F83,F134c135,F175c135,h,oBs,h1]
  rfl
end
end Go.Qb
namespace Go.Qu
open Go Go.Ev Go.Qy
set_option maxRecDepth 100000
section
def pln (c w:Nat):Bool:=((decide ((32:Int)<=(c:Int)))&&(!(decide ((c:Int)=(127:Int)))))&&((!(decide ((c:Int)=(65533:Int))))||(decide ((w:Int)=(3:Int))))
def enc (c:Nat):List UInt8:=(ByteArray.data (Go.Utf8.encode (c:Int))).toList
end
section
theorem enc_rune (r:Nat) (h1:r<=1114111) (h2:r<55296\/57344<=r):enc r=Lib.encodeRune (r:Int):=by
 have v:Utf8.valid (r:Int)=true:=by simp [Utf8.valid];omega
 have hb:∀ (x:Int) (n:Nat),x=(n:Int)->UInt8.ofNat n=x.toNat.toUInt8:=λx n h=>by subst h;simp
 unfold enc Lib.encodeRune
 by_cases c1:r<128
 ·rw [Lib.encodeRuneZ_one (by omega) (by omega)]
  simp [Utf8.encode,v,c1]
 ·by_cases c2:r<2048
  ·rw [Lib.encodeRuneZ_two (by omega) (by omega)]
   simp only [List.map_cons,List.map_nil]
   rw [<- hb (192+(r:Int)/64) (192+r/64) (by omega),<- hb (128+(r:Int) % 64) (128+r % 64) (by omega)]
   simp [Utf8.encode,v,c1,c2]
  ·by_cases c3:r<65536
   ·rw [Lib.encodeRuneZ_three (by omega)]
    simp only [List.map_cons,List.map_nil]
    rw [<- hb (224+(r:Int)/4096) (224+r/4096) (by omega),<- hb (128+(r:Int)/64 % 64) (128+r/64 % 64) (by omega),<- hb (128+(r:Int) % 64) (128+r % 64) (by omega)]
    simp [Utf8.encode,v,c1,c2,c3]
   ·rw [Lib.encodeRuneZ_four (by omega) (by omega)]
    simp only [List.map_cons,List.map_nil]
    rw [<- hb (240+(r:Int)/262144) (240+r/262144) (by omega),<- hb (128+(r:Int)/4096 % 64) (128+r/4096 % 64) (by omega),<- hb (128+(r:Int)/64 % 64) (128+r/64 % 64) (by omega),<- hb (128+(r:Int) % 64) (128+r % 64) (by omega)]
    simp [Utf8.encode,v,c1,c2,c3]
theorem dec_valid (l:List UInt8):(Lib.decodeL l).1<=1114111/\((Lib.decodeL l).1<55296\/57344<=(Lib.decodeL l).1):=by
 have k0:=(l.getD 0 0).toNat_lt
 rw [Lib.decodeL_N]
 rcases Lib.decodeN_shape l.length (l.getD 0 0).toNat (l.getD 1 0).toNat (l.getD 2 0).toNat (l.getD 3 0).toNat with ⟨c,e⟩ | ⟨c1,c2,c3,cv,e⟩ | ⟨c1,c2,c3,c4,cv,cs,e⟩ | ⟨c1,c2,c3,c4,c5,cv,cw,e⟩ | e
 all_goals (rw [e];dsimp only;omega)
theorem enc_take (l:List UInt8) (hne:l≠[]) (hv:¬ ((Lib.decodeL l).1=65533/\(Lib.decodeL l).2=1)):enc (Lib.decodeL l).1=l.take (Lib.decodeL l).2:=by
 rw [<- Lib.encode_decode l hne hv]
 exact enc_rune _ (dec_valid l).1 (dec_valid l).2
theorem getD_take (l:List UInt8) (w i:Nat):(l.take w).getD i 0=if i<w then l.getD i 0 else 0:=by
 rw [List.getD_eq_getElem?_getD,List.getD_eq_getElem?_getD,List.getElem?_take]
 split <;> rfl
theorem dec_take (l:List UInt8) (hne:l≠[]):Lib.decodeL (l.take (Lib.decodeL l).2)=Lib.decodeL l:=by
 have hl:0<l.length:=List.length_pos_iff.2 hne
 have k0:=(l.getD 0 0).toNat_lt
 have hN:=Lib.decodeL_N l
 rcases Lib.decodeN_shape l.length (l.getD 0 0).toNat (l.getD 1 0).toNat (l.getD 2 0).toNat (l.getD 3 0).toNat with ⟨c,e⟩ | ⟨c1,c2,c3,cv,e⟩ | ⟨c1,c2,c3,c4,cv,cs,e⟩ | ⟨c1,c2,c3,c4,c5,cv,cw,e⟩ | e
 ·rw [e] at hN
  rw [hN,Lib.decodeL_N]
  simp only [getD_take,Nat.lt_one_iff,if_true,Lib.decodeN,c]
 ·rw [e] at hN
  rw [hN,Lib.decodeL_N]
  have hm:(l.take 2).length=2:=by rw [List.length_take];omega
  simp only [getD_take,hm,Lib.decodeN,show (0:Nat)<2 from by omega,show (1:Nat)<2 from by omega,if_true]
  rw [if_neg (by omega),if_pos ⟨c1,trivial,c3⟩,if_pos cv]
 ·rw [e] at hN
  rw [hN,Lib.decodeL_N]
  have hm:(l.take 3).length=3:=by rw [List.length_take];omega
  simp only [getD_take,hm,Lib.decodeN,show (0:Nat)<3 from by omega,show (1:Nat)<3 from by omega,show (2:Nat)<3 from by omega,if_true]
  rw [if_neg (by omega),if_neg (by omega),if_pos ⟨c1,⟨trivial,c3⟩,trivial,c4⟩,if_pos ⟨cv,by omega⟩]
 ·rw [e] at hN
  rw [hN,Lib.decodeL_N]
  have hm:(l.take 4).length=4:=by rw [List.length_take];omega
  simp only [getD_take,hm,Lib.decodeN,show (0:Nat)<4 from by omega,show (1:Nat)<4 from by omega,show (2:Nat)<4 from by omega,show (3:Nat)<4 from by omega,if_true]
  rw [if_neg (by omega),if_neg (by omega),if_neg (by omega),if_pos ⟨c1,⟨trivial,c3⟩,⟨trivial,c4⟩,trivial,c5⟩,if_pos ⟨cv,by omega⟩]
 ·rw [e] at hN
  rw [hN,Lib.decodeL_N]
  have hm:(l.take 1).length=1:=by rw [List.length_take];omega
  have h128:¬ (l.getD 0 0).toNat<128:=λh=>by
   have:Lib.decodeN l.length (l.getD 0 0).toNat (l.getD 1 0).toNat (l.getD 2 0).toNat (l.getD 3 0).toNat=((l.getD 0 0).toNat,1):=by
    unfold Lib.decodeN;rw [if_pos h]
   rw [e] at this
   have:=congrArg Prod.fst this
   simp only at this
   omega
  simp only [getD_take,hm,Lib.decodeN,Nat.lt_one_iff,if_true]
  rw [if_neg h128,if_neg (by omega),if_neg (by omega),if_neg (by omega)]
theorem dec_low (l:List UInt8):((l.getD 0 0).toNat<128->Lib.decodeL l=((l.getD 0 0).toNat,1))/\(128<=(l.getD 0 0).toNat->128<=(Lib.decodeL l).1):=by
 have k0:=(l.getD 0 0).toNat_lt
 have hN:=Lib.decodeL_N l
 refine ⟨λh=>?_,λh=>?_⟩
 ·rw [hN];unfold Lib.decodeN;rw [if_pos h]
 ·rcases Lib.decodeN_shape l.length (l.getD 0 0).toNat (l.getD 1 0).toNat (l.getD 2 0).toNat (l.getD 3 0).toNat with ⟨c,e⟩ | ⟨c1,c2,c3,cv,e⟩ | ⟨c1,c2,c3,c4,cv,cs,e⟩ | ⟨c1,c2,c3,c4,c5,cv,cw,e⟩ | e
  all_goals (rw [hN,e];dsimp only;omega)
theorem F122_eq (r:List UInt8) (hne:r≠[]) (hr:r.length<=8000000):F122 ((r.take (Lib.decodeL r).2,()),())=some (pln (Lib.decodeL r).1 (Lib.decodeL r).2,()):=by
 obtain ⟨h1,h2⟩:=dec_low r
 have hd:=dec_take r hne
 have hw:=Lib.decodeL_width r
 have hle:=Lib.decodeL_le r hne
 have hlen:(r.take (Lib.decodeL r).2).length=(Lib.decodeL r).2:=by rw [List.length_take];omega
 have hne':r.take (Lib.decodeL r).2≠[]:=λh=>by rw [h] at hlen;simp at hlen;omega
 have hv:Lib.validD (r.take (Lib.decodeL r).2)=!decide ((Lib.decodeL r).1=65533/\(Lib.decodeL r).2=1):=by
  rw [Lib.validD_step _ hne',hd,List.drop_eq_nil_of_le (by omega),Lib.validD_nil]
  by_cases h:(Lib.decodeL r).1=65533/\(Lib.decodeL r).2=1
  ·rw [if_pos h,dTt h];rfl
  ·rw [if_neg h,dFf h];rfl
 have h3:¬ ((Lib.decodeL r).1=65533/\(Lib.decodeL r).2=1)->(Lib.decodeL r).1=65533->(Lib.decodeL r).2=3:=λh h'=>by
  have e:=enc_take r hne h
  rw [h'] at e
  have:=congrArg List.length e
  rw [hlen] at this
  have e3:(enc 65533).length=3:=by decide
  omega
 have e0:(r.take (Lib.decodeL r).2).getD 0 0=r.getD 0 0:=by rw [getD_take,if_pos (by omega)]
 have f1:decide ((r.take (Lib.decodeL r).2).length<=9223372036854775807)=true:=dTt (by omega)
 have f2:decide ((0:Int)<(((r.take (Lib.decodeL r).2).length:Nat):Int))=true:=dTt (by omega)
 have z:UInt8.toNat 32=32:=rfl
 unfold F122
 simp only [f1,f2,Bool.true_or,cTt,hv,e0,z]
 generalize Lib.decodeL r=d at *
 generalize r.getD 0 0=a at *
 have h127:decide (a=(127:UInt8))=decide (a.toNat=127):=by
  rw [decide_eq_decide]
  exact ⟨λh=>by rw [h];rfl,λh=>UInt8.toNat_inj.1 h⟩
 rw [h127]
 congr 2
 unfold pln
 by_cases ha:a.toNat<128
 ·rw [h1 ha]
  by_cases q1:32<=a.toNat
  ·by_cases q2:a.toNat=127
   ·simp [q2]
   ·have q3:¬ (a.toNat:Int)=127:=by omega
    have q4:¬ (a.toNat:Int)=65533:=by omega
    have q5:(32:Int)<=(a.toNat:Int):=by omega
    have q6:¬ a.toNat=65533:=by omega
    simp [q1,q2,q3,q4,q5,q6]
  ·have q5:¬ (32:Int)<=(a.toNat:Int):=by omega
   simp [q1,q5]
 ·have h4:=h2 (by omega)
  have q1:32<=a.toNat:=by omega
  have q2:¬ a.toNat=127:=by omega
  have q3:(32:Int)<=(d.1:Int):=by omega
  have q4:¬ (d.1:Int)=127:=by omega
  rw [dTt q1,dFf q2,dTt q3,dFf q4]
  by_cases hbad:d.1=65533/\d.2=1
  ·have q5:(d.1:Int)=65533:=by omega
   have q6:¬ (d.2:Int)=3:=by omega
   rw [dTt hbad,dTt q5,dFf q6];rfl
  ·rw [dFf hbad]
   by_cases h5:d.1=65533
   ·have h6:=h3 hbad h5
    have q5:(d.1:Int)=65533:=by omega
    have q6:(d.2:Int)=3:=by omega
    rw [dTt q5,dTt q6];rfl
   ·have q5:¬ (d.1:Int)=65533:=by omega
    rw [dFf q5];rfl
end
end Go.Qu
namespace Go.Ev
open Go Go.WideShapes
def sizD:(t:Ty)->t.den->Nat
 | .int _,_=>1
 | .u8,_=>1
 | .bool,_=>1
 | .str,l=>List.length l+1
 | .sl t,l=>(List.map (sizD t) l).sum
 | .unit,_=>0
 | .pair a b,p=>sizD a p.1+sizD b p.2
theorem sizD_u8 (l:List UInt8):sizD (.sl .u8) l=l.length:=by
 show (List.map (sizD .u8) l).sum=l.length
 induction l with
 | nil=>rfl
 | cons a l ih=>rw [List.map_cons,List.sum_cons,ih,List.length_cons];show 1+l.length=_;omega
structure Bulk {H:Type} (bulk:DataW H->Nat):Prop where
 str:∀ b,b.length+1<=bulk (.lit (.string b))
 lit:∀ l,1<=bulk (.lit l)
 sl:∀ es sp,(List.map bulk es).sum<=bulk (.slice es sp)
 agg:∀ ps,(List.map bulk ps).sum<=bulk (.agg ps)
section
variable {P:Program} {w:World} {H:Type} {enc:TypeId×Value->H} {base:Nat} {spare:Nat->Bool} {held:Bool} {bulk:DataW H->Nat}
def OpensB (bulk:DataW H->Nat) (P:Program) (w:World) (enc:TypeId×Value->H) (base:Nat) (spare:Nat->Bool) (held:Bool) (d:Nat):Prop :=
 ∀ (fuel:Nat) (t:TypeId) (y:Ty) (cs:List Value) (x:DataW H×List MemPlace),tyOf P d t=some y->layB P d t=true->DataW.trod enc P w base spare held fuel t cs=some x->∃ v:y.den,RelD w (λ_=>False) y v cs/\fitD y v/\sizD y v<=bulk x.1
theorem open_fieldsB {d:Nat} (ih:OpensB bulk P w enc base spare held d) {n:Nat}:∀ (fs:List Field) (off:Nat) (y:Ty) (cs:List Value) (xs:List (DataW H×List MemPlace)),
  fs.foldr (λf r=>match tyOf P d f.type,r with
    | some a,some b=>some (Ty.pair a b)
    | _,_=>none) (some .unit)=some y ->
  layF P (layB P d) fs off cs.length=true->xs.length=fs.length->(∀ (i:Nat) f,fs[i]?=some f->DataW.trod enc P w base spare held n f.type ((cs.drop f.offset).take (P.cellsOf f.type))=xs[i]?) ->
  ∃ v:y.den,RelD w (λ_=>False) y v (cs.drop off)/\fitD y v/\sizD y v<=(List.map bulk (xs.map (·.1))).sum
 | [],off,y,cs,xs,hy,hl,hx,_=>by
  simp only [List.foldr_nil,oSi] at hy
  subst hy
  simp only [layF] at hl
  have:=Nat.eq_of_beq_eq_true hl
  subst this
  exact ⟨(),by simp [RelD],trivial,Nat.zero_le _⟩
 | f::fs,off,y,cs,[],hy,hl,hx,hm=>by simp at hx
 | f::fs,off,y,cs,x::xs,hy,hl,hx,hm=>by
  simp only [List.foldr_cons] at hy
  cases ha:tyOf P d f.type with
  | none=>simp [ha] at hy
  | some a =>
   cases hb:fs.foldr (λf r=>match tyOf P d f.type,r with
    | some a,some b=>some (Ty.pair a b)
    | _,_=>none) (some .unit) with
   | none=>rw [hb] at hy;simp [ha] at hy
   | some b =>
    rw [hb] at hy
    simp only [ha,oSi] at hy
    subst hy
    simp only [layF,bAt] at hl
    obtain ⟨⟨h1,h2⟩,h3⟩:=hl
    have h1:=Nat.eq_of_beq_eq_true h1
    have hz:=hm 0 f (by simp)
    rw [h1,show (x::xs)[0]?=some x by simp] at hz
    obtain ⟨v1,g1,g2,g5⟩:=ih n f.type a _ x ha h2 hz
    obtain ⟨v2,g3,g4,g6⟩:=open_fieldsB ih fs (off+P.cellsOf f.type) b cs xs hb h3 (by simpa using hx) λi f' hf'=>by
     have:=hm (i+1) f' (by simpa using hf')
     simpa using this
    refine ⟨(v1,v2),?_,⟨g2,g4⟩,?_⟩
    ·simp only [RelD]
     refine ⟨_,_,?_,g1,g3⟩
     rw [<- List.drop_drop,List.take_append_drop]
    ·simp only [sizD,List.map_cons,List.sum_cons]
     omega
theorem sum_le_idx {α β:Type} (f:α->Nat) (g:β->Nat):∀ (l:List α) (r:List β),l.length=r.length->(∀ i,(h:i<l.length)->(h':i<r.length)->f l[i]<=g r[i])->(l.map f).sum<=(r.map g).sum
 | [],_,_,_=>Nat.zero_le _
 | a::l,[],h,_=>by simp at h
 | a::l,b::r,h,hi=>by
  have h0:=hi 0 (by simp) (by simp)
  have ih:=sum_le_idx f g l r (by simpa using h) λi h1 h2=>by
   have:=hi (i+1) (by simp;omega) (by simp;omega)
   simpa using this
  simp only [List.map_cons,List.sum_cons]
  simp only [List.getElem_cons_zero] at h0
  omega
theorem opensB (hB:Bulk bulk):∀ d,OpensB bulk P w enc base spare held d
 | 0=>λfuel t y cs x hy=>by simp [tyOf] at hy
 | d+1=>λfuel t y cs x hy hl h=>by
  have ih:OpensB bulk P w enc base spare held d:=opensB hB d
  unfold layB at hl
  unfold tyOf at hy
  cases hu:P.underlying t with
  | none=>simp [hu] at hl
  | some u =>
   simp only [hu] at hl hy
   cases u <;> simp only [Bool.false_eq_true] at hl
   case int k =>
    obtain ⟨n,rfl,hx,hw⟩:=DataW.trod_int hu h
    have hb:1<=bulk x.1:=by rw [hx];exact hB.lit _
    cases k <;> simp only [oSi] at hy <;> subst hy
    case u8 =>
     have hw':0<=n/\n<=255:=by simpa [Lit.wf,IntKind.min,IntKind.max,IntKind.signed,IntKind.bits] using hw
     refine ⟨UInt8.ofNat n.toNat,?_,trivial,hb⟩
     have hn:((UInt8.ofNat n.toNat).toNat:Int)=n:=by
      simp only [UInt8.toNat_ofNat']
      omega
     simp only [RelD,hn]
    all_goals exact ⟨n,by simp [RelD],hw,hb⟩
   case bool =>
    obtain ⟨b,rfl,hx⟩:=DataW.trod_bool hu h
    have hb:1<=bulk x.1:=by rw [hx];exact hB.lit _
    simp only [oSi] at hy
    subst hy
    exact ⟨b,by simp [RelD],trivial,hb⟩
   case string =>
    obtain ⟨s,rfl,hx,hs⟩:=DataW.trod_string hu h
    have hb:s.data.toList.length+1<=bulk x.1:=by rw [hx];exact hB.str _
    simp only [oSi] at hy
    subst hy
    exact ⟨s.data.toList,by simp [RelD],by simpa [fitD] using hs,hb⟩
   case slice e =>
    simp only [bAt] at hl
    obtain ⟨hl1,hl2⟩:=hl
    cases ht:tyOf P d e with
    | none=>simp [ht] at hy
    | some ye =>
     simp only [ht,Option.map_some,oSi] at hy
     subst hy
     simp only [ht,bAt] at hl2
     have hsz:=Nat.eq_of_beq_eq_true hl2.1
     have hpos:=Nat.le_of_ble_eq_true hl2.2
     rcases DataW.trod_slice hu h with ⟨rfl,_⟩ | ⟨a,len,cap,elems,rest,n,_,rfl,hx,hb,hlc,hcm,hel,heach,_⟩
     ·exact ⟨[],⟨none,0,rfl,Nat.le_refl _,λhp=>absurd hp (by simp)⟩,by simp [fitD],Nat.zero_le _⟩
     ·have hev:∀ i,i<len->∃ (x:ye.den),∃ es,w.cells? base (a.add (i*P.cellsOf e)) (P.cellsOf e)=some es/\RelD w (λ_=>False) ye x es/\fitD ye x/\∀ z,elems[i]?=some z->sizD ye x<=bulk z.1:=λi hi=>by
       have h1:=heach i hi
       have h2:elems[i]?=some (elems[i]'(by omega)):=List.getElem?_eq_getElem _
       rw [h2,Option.bind_eq_some_iff] at h1
       obtain ⟨es,h3,h4⟩:=h1
       obtain ⟨v,g1,g2,g3⟩:=ih n e ye es _ ht hl1 h4
       exact ⟨v,es,h3,g1,g2,λz hz=>by rw [h2,oSi] at hz;rw [<- hz];exact g3⟩
      obtain ⟨l,hl3,hl4⟩:=pick_list len hev
      have hspot:0<len->a.spot=none/\a.block<w.heap.size:=λhp=>by
       obtain ⟨es,h3,_⟩:=hl4 0 (by omega)
       obtain ⟨_,h5,h6⟩:=World.cells?_some h3
       have h7:=h6 0 (by omega)
       have h8:es[0]?=some (es[0]'(by omega)):=List.getElem?_eq_getElem _
       rw [h8] at h7
       have h9:(a.add (0*P.cellsOf e)).add 0=a:=by simp [Addr.add]
       rw [h9] at h7
       exact ⟨World.cell?_spot h7,World.block_lt_of_cell? w _ h7⟩
      refine ⟨l,?_,?_,?_⟩
      ·simp only [RelD]
       refine ⟨some a,cap,by rw [hl3],by omega,λhp=>?_⟩
       obtain ⟨h1,h2⟩:=hspot (by omega)
       refine ⟨a.block,a.off,?_,λh=>h,h2,λi hi=>?_⟩
       ·obtain ⟨b,o,s⟩:=a
        simp only at h1
        subst h1
        rfl
       ·obtain ⟨es,h3,h4,_⟩:=hl4 i hi
        have hsp:(a.add (i*P.cellsOf e)).spot=none:=by
         unfold Addr.add;split
         ·exact h1
         ·rfl
        obtain ⟨h5,h6⟩:=cells_row hsp h3
        refine ⟨es,by rw [h5,hsz],?_,h4⟩
        have hbo:(a.add (i*P.cellsOf e)).block=a.block/\(a.add (i*P.cellsOf e)).off=a.off+i*ye.size:=by
         unfold Addr.add
         split
         ·rename_i h0;rw [<- hsz,h0];exact ⟨rfl,rfl⟩
         ·rw [<- hsz];exact ⟨rfl,rfl⟩
        rw [hbo.1,hbo.2] at h6
        exact h6
      ·simp only [fitD]
       refine ⟨by omega,λx hx=>?_⟩
       obtain ⟨i,hi,rfl⟩:=List.getElem_of_mem hx
       obtain ⟨_,_,_,h5,_⟩:=hl4 i hi
       exact h5
      ·rw [hx]
       refine Nat.le_trans ?_ (hB.sl _ _)
       rw [List.map_map]
       exact sum_le_idx (sizD ye) (bulk ∘ λx=>x.1) l elems (by omega) λi h1 h2=>by
        obtain ⟨_,_,_,_,h5⟩:=hl4 i h1
        exact h5 _ (List.getElem?_eq_getElem h2)
   case struct fs =>
    obtain ⟨xs,n,_,hx,hlen,hxl,heach⟩:=DataW.trod_struct hu h
    obtain ⟨v,h1,h2,h3⟩:=open_fieldsB ih (n:=n) fs.toList 0 y cs xs hy (by rw [hlen];exact hl) (by simpa using hxl) λi f hf=>heach i f (by simpa using hf)
    refine ⟨v,by simpa using h1,h2,Nat.le_trans h3 ?_⟩
    rw [hx]
    exact hB.agg _
theorem open_argB (hB:Bulk bulk) {T:Tb} {t:TypeId} {v:Value} {dv:DataW H} {ps:List MemPlace} (y:Ty) (hy:tyOf P 12 t=some y) (hl:layB P 12 t=true) (h:DataW.Trod enc P w base spare held t v dv ps) :
  ∃ x:y.den,RelVs w (Not (noF:Frm T) (λ_=>none) λ_=>.dead) (λ_=>none) (λ_=>.dead) (encc y x) v.cells.toList/\fitD y x/\sizD y x<=bulk dv:=by
 obtain ⟨fuel,h⟩:=h
 obtain ⟨x,h1,h2,h3⟩:=opensB hB 12 fuel t y _ _ hy hl h
 exact ⟨x,RelVs_encc (h1.keep (Keep.refl w) λg _ hn=>(noN g hn).elim),h2,h3⟩
end
end Go.Ev
