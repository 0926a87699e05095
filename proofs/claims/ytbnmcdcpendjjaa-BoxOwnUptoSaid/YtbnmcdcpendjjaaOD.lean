/- Texts that the last one leans on, 4. -/
import Derived.Test.YtbnmcdcpendjjaaOC
import Derived.Scope
namespace Go.Ev
open Go
section
variable {P:Program} {F:Frm (tabsOf P)} {μ μ':Nat->Option Nat} {S S':St} {w w':World} {a a':Act} {done:List Nat} {α:Type} {r:α} {M:FuncId->Bool} {ops:Array Oper} {Q:Exit->Act->World->Prop}
theorem bnd_eq (e:Edge):Region.binds .any e=bnd e:=by
 unfold Region.binds bnd
 cases e.ground <;> rfl
structure Ld (ops:Array Oper) (done:List Nat) (listed:Array Bool):Prop where
 size:listed.size=ops.size
 at_:∀ i,i<ops.size->listed.getD i false=hasN done i
 lt:∀ i,i∈done->i<ops.size
variable {listed:Array Bool}
theorem Ld.getT (h:Ld ops done listed) {i:Nat} (hi:i<ops.size) (d:Bool):listed.getD i d=hasN done i:=by
 rw [<- h.at_ i hi]
 have:i<listed.size:=by rw [h.size];exact hi
 simp [this]
theorem Ld.getF (h:Ld ops done listed) (i:Nat):listed.getD i false=hasN done i:=by
 rcases Nat.lt_or_ge i ops.size with hi | hi
 ·exact h.at_ i hi
 ·have h1:¬ i<listed.size:=by rw [h.size];omega
  have h2:hasN done i=false:=by
   cases hh:hasN done i with
   | false=>rfl
   | true=>have:=h.lt i (hasN_mem.1 hh);omega
  simp [h1,h2]
theorem Ld.cons (h:Ld ops done listed) {k:Nat} (hk:k<ops.size):Ld ops (k::done) (listed.setIfInBounds k true) where
 size:=by simp [h.size]
 at_:=λi hi=>by
  by_cases hik:k=i
  ·subst hik
   have:k<listed.size:=by rw [h.size];exact hk
   simp [this,hasN]
  ·rw [getD_set_ne false hik,h.at_ i hi]
   have:Nat.beq i k=false:=Bool.eq_false_iff.2 λe=>hik (nEb e).symm
   simp only [hasN,List.any_cons,this,Bool.false_or]
 lt:=λi hi=>by
  rcases List.mem_cons.1 hi with rfl | hi
  ·exact hk
  ·exact h.lt i hi
theorem rdy_iff (h:Ld ops done listed) {o:Oper}:rdy done o=true<->∀ e∈o.after,Region.binds .any e=true->listed.getD e.on false=true:=by
 simp only [rdy,List.all_eq_true,Bool.or_eq_true,Bool.not_eq_true',bnd_eq,h.getF]
 constructor
 ·intro hh e he hb
  exact (hh e (by simpa using he)).resolve_left (by simp [hb])
 ·intro hh e he
  cases hb:bnd e
  ·exact .inl rfl
  ·exact .inr (hh e (by simpa using he) hb)
theorem ready_iff (h:Ld ops done listed) {i:Nat}:i∈Region.ready .any ops listed<->∃ o,ops[i]?=some o/\hasN done i=false/\rdy done o=true:=by
 rw [mem_ready]
 constructor
 ·rintro ⟨h1,o,h2,h3⟩
  have hi:i<ops.size:=(Array.getElem?_eq_some_iff.1 h2).1
  exact ⟨o,h2,by rw [<- h.getT hi true];exact h1,(rdy_iff h).2 h3⟩
 ·rintro ⟨o,h2,h1,h3⟩
  have hi:i<ops.size:=(Array.getElem?_eq_some_iff.1 h2).1
  exact ⟨by rw [h.getT hi true];exact h1,o,h2,(rdy_iff h).1 h3⟩
theorem pickV_ok {may:Nat->Oper->Bool}:∀ (l:List Oper) (k:Nat) {i:Nat} {o:Oper},(∀ j,l[j]?=ops[k+j]?)->pickV P may done k l=some (i,o)->ops[i]?=some o/\hasN done i=false/\isVal P o.op=true/\rdy done o=true
 | [],k,i,o,_,h=>by simp [pickV] at h
 | x::l,k,i,o,hl,h=>by
  simp only [pickV] at h
  cases hc:(!hasN done k&&isVal P x.op&&rdy done x&&may k x) with
  | true =>
   rw [hc] at h
   simp only [cTt,oSi,Prod.mk.injEq] at h
   obtain ⟨rfl,rfl⟩:=h
   simp only [bAt,Bool.not_eq_true'] at hc
   exact ⟨by simpa using (hl 0).symm,hc.1.1.1,hc.1.1.2,hc.1.2⟩
  | false =>
   rw [hc] at h
   exact pickV_ok l (k+1) (λj=>by have:=hl (j+1);simpa [Nat.add_assoc,Nat.add_comm 1 j] using this) h
theorem readies_mem:∀ (l:List Oper) (k:Nat) {i:Nat} {o:Oper},(∀ j,l[j]?=ops[k+j]?)->k<=i->ops[i]?=some o->hasN done i=false->rdy done o=true->i∈readies done k l
 | [],k,i,o,hl,hki,ho,_,_=>by
  have:=hl (i-k)
  rw [show k+(i-k)=i by omega,ho] at this
  simp at this
 | x::l,k,i,o,hl,hki,ho,hd,hr=>by
  have hl':∀ j,l[j]?=ops[(k+1)+j]?:=λj=>by have:=hl (j+1);simpa [Nat.add_assoc,Nat.add_comm 1 j] using this
  simp only [readies]
  by_cases hik:i=k
  ·subst hik
   have:x=o:=by
    have:=hl 0
    simp only [List.getElem?_cons_zero,Nat.add_zero,ho,oSi] at this
    exact this
   subst this
   simp [hd,hr]
  ·have:=readies_mem l (k+1) hl' (by omega) ho hd hr
   cases (!hasN done k&&rdy done x) <;> simp [this]
theorem readies_sub:∀ (l:List Oper) (k:Nat) {i:Nat},(∀ j,l[j]?=ops[k+j]?)->i∈readies done k l->∃ o,ops[i]?=some o/\hasN done i=false/\rdy done o=true
 | [],k,i,_,h=>by simp [readies] at h
 | x::l,k,i,hl,h=>by
  have hl':∀ j,l[j]?=ops[(k+1)+j]?:=λj=>by have:=hl (j+1);simpa [Nat.add_assoc,Nat.add_comm 1 j] using this
  simp only [readies] at h
  cases hc:(!hasN done k&&rdy done x) with
  | true =>
   rw [hc] at h
   simp only [cTt,List.mem_cons] at h
   rcases h with rfl | h
   ·simp only [bAt,Bool.not_eq_true'] at hc
    exact ⟨x,by simpa using (hl 0).symm,hc.1,hc.2⟩
   ·exact readies_sub l (k+1) hl' h
  | false =>
   rw [hc] at h
   exact readies_sub l (k+1) hl' h
theorem ready_readies (h:Ld ops done listed) {i:Nat}:i∈Region.ready .any ops listed<->i∈readies done 0 ops.toList:=by
 rw [ready_iff h]
 constructor
 ·rintro ⟨o,h1,h2,h3⟩
  exact readies_mem ops.toList 0 (by simp) (Nat.zero_le _) h1 h2 h3
 ·exact λh=>readies_sub ops.toList 0 (by simp) h
theorem others_ok {ds:List Nat} {x:Nat} {ox:Oper} {bh:List Nat}:∀ (l:List Oper) (k:Nat) {wild:List Nat} {av:List Nat},(∀ j,l[j]?=ops[k+j]?)->others P M ops ds done x ox bh k l=some (wild,av) ->
  ∀ j oj,k<=j->ops[j]?=some oj->hasN done j=false->j≠x->hasN bh j=false->ox.apart ops oj=true/\match kindOf P M ds oj with
   | .st d=>d∈av
   | .wild=>j∈wild
   | _=>True
 | [],k,wild,av,hl,_,j,oj,hkj,hoj,_,_,_=>by
  have:=hl (j-k)
  rw [show k+(j-k)=j by omega,hoj] at this
  simp at this
 | o::l,k,wild,av,hl,h,j,oj,hkj,hoj,hdj,hjx,hw=>by
  have hl':∀ j,l[j]?=ops[(k+1)+j]?:=λj=>by have:=hl (j+1);simpa [Nat.add_assoc,Nat.add_comm 1 j] using this
  simp only [others] at h
  cases ho:others P M ops ds done x ox bh (k+1) l with
  | none=>simp [ho] at h
  | some q =>
   obtain ⟨wild',av'⟩:=q
   simp only [ho] at h
   by_cases hjk:j=k
   ·subst hjk
    have:o=oj:=by
     have:=hl 0
     simp only [List.getElem?_cons_zero,Nat.add_zero,hoj,oSi] at this
     exact this
    subst this
    have hbe:Nat.beq j x=false:=Bool.eq_false_iff.2 λe=>hjx (nEb e)
    simp only [hdj,hbe,hw,Bool.or_false,cFf] at h
    obtain ⟨h1,h2⟩:=cond_some h
    refine ⟨h1,?_⟩
    cases hk:kindOf P M ds o <;> simp only [hk,oSi,Prod.mk.injEq] at h2 ⊢
    ·simp [<- h2.2]
    ·simp [<- h2.1]
   ·have ih:=others_ok l (k+1) hl' ho j oj (by omega) hoj hdj hjx hw
    refine ⟨ih.1,?_⟩
    have ih2:=ih.2
    have grow:(∀ d,d∈wild'->d∈wild)/\∀ d,d∈av'->d∈av:=by
     cases hc:(hasN done k||Nat.beq k x||hasN bh k) with
     | true =>
      simp only [hc,cTt,oSi,Prod.mk.injEq] at h
      obtain ⟨rfl,rfl⟩:=h
      exact ⟨λ_=>id,λ_=>id⟩
     | false =>
      simp only [hc,cFf] at h
      obtain ⟨_,h2⟩:=cond_some h
      cases hk:kindOf P M ds o <;> simp only [hk,oSi,Prod.mk.injEq] at h2 <;> obtain ⟨rfl,rfl⟩:=h2
      ·exact ⟨λ_=>id,λ_=>id⟩
      ·exact ⟨λ_=>id,λ_=>id⟩
      ·exact ⟨λ_=>id,λ_ h=>List.mem_cons_of_mem _ h⟩
      ·exact ⟨λ_ h=>List.mem_cons_of_mem _ h,λ_=>id⟩
    cases hk:kindOf P M ds oj <;> simp only [hk] at ih2 ⊢
    ·exact grow.2 _ ih2
    ·exact grow.1 _ ih2
def GK (t0:Array Value) (i:Nat) (k:Kd) (T:Gh) (w:World) (T':Gh) (w':World):Prop :=
 (∀ g,T'.1 g->T.1 g\/w.heap.size<=g)/\(∀ j g k,T.2 j g k->T'.2 j g k)/\(∀ g k,T.2 i g k->∀ v,w.cell? ⟨g,k,none⟩=some v->w'.cell? ⟨g,k,none⟩=some v)/\match k with
  | .val | .new=>Keep (λ_=>False) w w'
  | .st d=>Keep (λg=>∃ o,t0.getD d undef=.pointer (some ⟨g,o,none⟩)) w w'
  | .wild=>Keep T.1 w w'
def GI (P:Program) (M:FuncId->Bool) (ops:Array Oper) (ds:List Nat) (t0:Array Value) (i:Nat) (T:Gh) (w:World) (T':Gh) (w':World):Prop :=
 ∀ o,ops[i]?=some o->GK t0 i (kindOf P M ds o) T w T' w'
def XK (t0:Array Value) (wild av:List Nat) (T0:Nat->Prop):Nat->Prop:=λg=>(wild≠[]/\T0 g)\/∃ d∈av,∃ o,t0.getD d undef=.pointer (some ⟨g,o,none⟩)
def JK (t0:Array Value) (wild av:List Nat) (T0:Nat->Prop) (WR:Nat->Nat->Prop) (w0:World) (T:Gh) (w:World):Prop :=
 Keep (XK t0 wild av T0) w0 w/\(∀ g,T.1 g->T0 g\/w0.heap.size<=g)/\∀ g k,WR g k->(∀ j∈wild,T.2 j g k)/\∀ v,w0.cell? ⟨g,k,none⟩=some v->w.cell? ⟨g,k,none⟩=some v
theorem JK.step {t0:Array Value} {wild av:List Nat} {T0:Nat->Prop} {WR:Nat->Nat->Prop} {w0:World} {i:Nat} {k:Kd} (hk:match k with
      | .st d=>d∈av
      | .wild=>i∈wild
      | _=>True) (hWR:∀ g k,WR g k->∀ d∈av,∀ o,t0.getD d undef≠.pointer (some ⟨g,o,none⟩)) {T T':Gh} (hj:JK t0 wild av T0 WR w0 T w) (hg:GK t0 i k T w T' w'):JK t0 wild av T0 WR w0 T' w':=by
  obtain ⟨h1,h2,h3⟩:=hj
  obtain ⟨g1,g3,g4,g2⟩:=hg
  have hsize:w.heap.size<=w'.heap.size:=by cases k <;> exact g2.size
  refine ⟨⟨Nat.le_trans h1.size hsize,λg hg hX=>?_⟩,λg hT=>?_,λg c hw=>⟨λj hj=>g3 j g c ((h3 g c hw).1 j hj),λv hv=>?_⟩⟩
  . rw [<- h1.keep g hg hX]
    have hgw:g<w.heap.size:=Nat.lt_of_lt_of_le hg h1.size
    cases k with
    | val=>exact g2.keep g hgw (λx=>x)
    | new=>exact g2.keep g hgw (λx=>x)
    | st d=>exact g2.keep g hgw λ⟨o,ho⟩=>hX (.inr ⟨d,hk,o,ho⟩)
    | wild=>exact g2.keep g hgw λhT=>(h2 g hT).elim (λh=>hX (.inl ⟨List.ne_nil_of_mem hk,h⟩)) (λh=>by omega)
  . rcases g1 g hT with h | h
    . exact h2 g h
    . exact .inr (Nat.le_trans h1.size h)
  . have hv':=(h3 g c hw).2 v hv
    have hlt:=World.block_lt_of_cell? w _ hv'
    cases k with
    | val=>rw [cell?_of_heap (g2.keep g hlt (λx=>x))];exact hv'
    | new=>rw [cell?_of_heap (g2.keep g hlt (λx=>x))];exact hv'
    | st d=>rw [cell?_of_heap (g2.keep g hlt λ⟨o,ho⟩=>hWR g c hw d hk o ho)];exact hv'
    | wild=>exact g4 g c ((h3 g c hw).1 i hk) v hv'
theorem isNilN_eq {l:List Nat} (h:isNilN l=true):l=[]:=by cases l <;> first | rfl | cases h
theorem addr_free {wild av:List Nat} {free:Bool} (hr:Rg F μ done S a w) {x:AV} {v:Value} (hc:addrOK S.E free av x=true) (hf:free=true->wild=[]\/isPtr x=true) (hx:RelV w (Not F μ S.H) μ S.H x v) :
  (∀ g o,v=.pointer (some ⟨g,o,none⟩)->¬ XK a.tmps wild av (Trk μ S.H) g\/∃ b,x=.ptr b o/\S.H b≠.dead/\μ b=some g/\∀ d∈av,∀ o',a.tmps.getD d undef≠.pointer (some ⟨g,o',none⟩)) /\
  (isPtr x=false->∀ g o n c,v=.slice (some ⟨g,o,none⟩) n c->0<n->¬ XK a.tmps wild av (Trk μ S.H) g):=by
 have slot:∀ {d b' o' g o},S.E d=.ptr b' o'->a.tmps.getD d undef=.pointer (some ⟨g,o,none⟩)->S.H b'≠.dead/\μ b'=some g:=λ{d b' o' g o} hE ht=>by
  have sl:=relE_slot hr.e hE
  simp only [RelV] at sl
  obtain ⟨h1,g',h2,h3⟩:=sl
  rw [ht] at h3
  simp only [Value.pointer.injEq,oSi,Addr.mk.injEq] at h3
  exact ⟨h1,by rw [h3.1];exact h2⟩
 have plain:(av.all λd=>match S.E d with
   | .ptr _ _=>true
   | _=>false)=true->∀ g,¬ Trk μ S.H g->¬ XK a.tmps wild av (Trk μ S.H) g:=λhall g hn hX=>by
  rcases hX with ⟨_,hT⟩ | ⟨d,hd,o,ht⟩
  ·exact hn hT
  ·have:=List.all_eq_true.1 hall d hd
   cases hE:S.E d <;> simp only [hE,Bool.false_eq_true] at this
   obtain ⟨h1,h2⟩:=slot hE ht
   exact hn ⟨_,h1,h2⟩
 have off:∀ {b:Nat},(av.all λd=>match S.E d with
   | .ptr b' _=>!Nat.beq b' b
   | _=>false)=true->S.H b≠.dead->∀ g,μ b=some g->∀ d∈av,∀ o',a.tmps.getD d undef≠.pointer (some ⟨g,o',none⟩):=λ{b} hall hl g hg d hd o' ht=>by
  have:=List.all_eq_true.1 hall d hd
  cases hE:S.E d <;> simp only [hE,Bool.false_eq_true] at this
  obtain ⟨h1,h2⟩:=slot hE ht
  have:=hr.hp.inj _ _ g h1 hl h2 hg
  subst this
  simp at this
 have block:∀ {b:Nat},isPtr x=false->(free&&av.all λd=>match S.E d with
   | .ptr b' _=>!Nat.beq b' b
   | _=>false)=true->S.H b≠.dead->∀ g,μ b=some g->¬ XK a.tmps wild av (Trk μ S.H) g:=λ{b} hnp hall hl g hg hX=>by
  simp only [bAt] at hall
  rcases hX with ⟨hw,_⟩ | ⟨d,hd,o,ht⟩
  ·exact (hf hall.1).elim hw λh=>by rw [hnp] at h;cases h
  ·exact off hall.2 hl g hg d hd o ht
 cases x <;> simp only [addrOK,Bool.false_eq_true] at hc <;> simp only [RelV] at hx
 case i=>subst hx;exact ⟨by simp,by simp⟩
 case u=>subst hx;exact ⟨by simp,by simp⟩
 case s=>subst hx;exact ⟨by simp,by simp⟩
 case sl t l =>
  simp only [RelD,List.cons.injEq,and_true] at hx
  obtain ⟨b,c,rfl,_,hrow⟩:=hx
  refine ⟨by simp,λ_ g o n c' he hn=>?_⟩
  simp only [Value.slice.injEq] at he
  obtain ⟨rfl,rfl,rfl⟩:=he
  obtain ⟨g',o',he',hn',_⟩:=hrow hn
  simp only [oSi,Addr.mk.injEq] at he'
  rw [he'.1]
  exact plain hc _ λht=>hn' (lnN_trk (.inr ht))
 case fp t l ix f =>
  obtain ⟨_,g',o',hn',_,rfl,_⟩:=hx
  refine ⟨λg o he=>.inl ?_,by simp⟩
  simp only [Value.pointer.injEq,oSi,Addr.mk.injEq] at he
  rw [<- he.1]
  exact plain hc _ λht=>hn' (lnN_trk (.inr ht))
 case ptr b o =>
  obtain ⟨hl,g',hg,rfl⟩:=hx
  refine ⟨λg o' he=>.inr ?_,by simp [isPtr]⟩
  simp only [Value.pointer.injEq,oSi,Addr.mk.injEq] at he
  obtain ⟨rfl,rfl,_⟩:=he
  simp only [bAt] at hc
  exact ⟨b,rfl,hl,hg,off hc.2 hl _ hg⟩
 case ep b t ix f =>
  obtain ⟨l,g',hb,_,hg,rfl⟩:=hx
  refine ⟨λg o he=>.inl ?_,by simp⟩
  simp only [Value.pointer.injEq,oSi,Addr.mk.injEq] at he
  rw [<- he.1]
  exact block rfl hc (by simp [hb]) _ hg
 case wh b =>
  obtain ⟨t,l,hb,⟨g',c,hg,rfl,_⟩ | ⟨_,_,rfl⟩⟩:=hx
  ·refine ⟨by simp,λ_ g o n c he _=>?_⟩
   simp only [Value.slice.injEq,oSi,Addr.mk.injEq] at he
   rw [<- he.1.1]
   exact block rfl hc (by simp [hb]) _ hg
  ·exact ⟨by simp,by simp⟩
 case win b lo n =>
  obtain ⟨t,l,hb,_,⟨g',c,o,hg,rfl,_⟩ | ⟨_,_,rfl⟩⟩:=hx
  ·refine ⟨by simp,λ_ g o n c he _=>?_⟩
   simp only [Value.slice.injEq,oSi,Addr.mk.injEq] at he
   rw [<- he.1.1]
   exact block rfl hc (by simp [hb]) _ hg
  ·exact ⟨by simp,by simp⟩
def WRof (P:Program) (μ:Nat->Option Nat) (S:St) (av:List Nat) (t0:Array Value) (s:Turn) (g k:Nat):Prop :=
 ∃ e∈s.watch P S.E,S.H e.b≠.dead/\μ e.b=some g/\e.o<=k/\k<e.o+e.n/\∀ d∈av,∀ o',t0.getD d undef≠.pointer (some ⟨g,o',none⟩)
theorem unGs_of {E:Nat->AV} {x:Operand} {v:AV} {b o:Nat} (h:v=opd E x\/∃ j c,v=unG j c (opd E x)) (hv:v=.ptr b o):unGs (opd E x)=.ptr b o:=by
 subst hv
 rcases h with h | ⟨j,c,h⟩
 ·rw [<- h];rfl
 ·cases hE:opd E x <;> simp only [hE,unG,reduceCtorEq] at h
  ·simp only [AV.ptr.injEq] at h;obtain ⟨rfl,rfl⟩:=h;rfl
  ·rename_i j' w' y
   cases hb:(Nat.beq j' j&&w' == c) with
   | false=>simp [hb] at h
   | true =>
    simp only [hb,cTt] at h
    cases y <;> simp only [noGd,reduceCtorEq] at h
    simp only [AV.ptr.injEq] at h;obtain ⟨rfl,rfl⟩:=h;rfl
theorem chk_free {s:Turn} (hr:Rg F μ done S a w) {ρA:Operand->AV} (hρ:∀ x,RelG w (Not F μ S.H) μ S.H a.eval (ρA x) (a.eval x)) (hrd:Reads S.E ρA) (hc:s.chk s.o.op ρA S.E=true) :
  FreeOp P (λg k=>XK a.tmps s.wilds s.avoid (Trk μ S.H) g/\¬ WRof P μ S s.avoid a.tmps s g k) a.eval s.o.op:=by
 cases hop:s.o.op <;> rw [hop] at hc <;> simp only [FreeOp] <;> simp only [Turn.chk] at hc
 case load t x =>
  intro g o hv k hk ⟨hX,hW⟩
  have hfree:(isNilN s.wilds||isPtr (ρA x))=true->s.wilds=[]\/isPtr (ρA x)=true:=λh=>by
   rw [Bool.or_eq_true] at h
   exact h.imp isNilN_eq id
  rcases (addr_free hr hc hfree (hρ x).rel).1 g o hv with h | ⟨b,h1,h2,h3,h4⟩
  ·exact h hX
  ·by_cases hw:s.wilds=[]
   ·rcases hX with ⟨h5,_⟩ | ⟨d,hd,o',ho'⟩
    ·exact h5 hw
    ·exact h4 d hd o' ho'
   ·refine hW ⟨⟨s.wilds,b,o,loadN P t⟩,?_,h2,h3,?_,?_,h4⟩
    ·have hn:isNilN s.wilds=false:=by cases hs:s.wilds <;> first | exact absurd hs hw | rfl
     simp only [Turn.watch,hn,cFf,hop,unGs_of (hrd x) h1,List.mem_singleton]
    ·rcases hk with rfl | ⟨h,_⟩
     ·exact Nat.le_refl _
     ·exact h
    ·simp only [loadN]
     by_cases h0:P.cellsOf t=0
     ·rw [h0] at hk ⊢
      simp only [Nat.beq_refl,cTt]
      omega
     ·have:Nat.beq (P.cellsOf t) 0=false:=Bool.eq_false_iff.2 λe=>h0 (nEb e)
      rw [this,cFf]
      omega
 case convert src dst x =>
  intro g o n c hv hn k ⟨hX,_⟩
  have hnp:isPtr (ρA x)=false:=by
   have hrel:=(hρ x).rel
   cases hx:ρA x <;> first | rfl | skip
   rw [hx] at hrel
   simp only [RelV] at hrel
   obtain ⟨_,g',_,he⟩:=hrel
   rw [hv] at he;cases he
  exact (addr_free (wild:=s.wilds) hr hc (λh=>.inl (isNilN_eq h)) (hρ x).rel).2 hnp g o n c hv hn hX
end
end Go.Ev
namespace Go.Ev
open Go
section
variable {P:Program} {F:Frm (tabsOf P)} {μ μ':Nat->Option Nat} {S S':St} {w w':World} {a a':Act} {done:List Nat} {α:Type} {r:α} {M:FuncId->Bool} {ops:Array Oper} {Q:Exit->Act->World->Prop}
theorem kind_st {ds:List Nat} {o:Oper} {d:Nat} (h:kindOf P M ds o=.st d):d∉ds/\∃ t x,o.op=.store t (.tmp d) x:=by
 unfold kindOf at h
 cases hv:isVal P o.op with
 | true=>simp [hv] at h
 | false =>
  simp only [hv,cFf] at h
  split at h <;> try (cases h;done)
  ·split at h <;> cases h
  ·rename_i t d' x hop
   cases hh:hasN ds d' with
   | true=>simp [hh] at h
   | false =>
    simp only [hh,cFf,Kd.st.injEq] at h
    subst h
    exact ⟨hasN_not hh,t,x,hop⟩
  ·rename_i f _ _ _
   cases hm:M f <;> simp [hm] at h
theorem others_av {ds:List Nat} {x:Nat} {ox:Oper} {bh:List Nat}:∀ (l:List Oper) (k:Nat) {wild av:List Nat},others P M ops ds done x ox bh k l=some (wild,av)->∀ d,d∈av->d∉ds
 | [],k,wild,av,h=>by
  simp only [others,oSi,Prod.mk.injEq] at h
  intro d hd;rw [<- h.2] at hd;cases hd
 | o::l,k,wild,av,h=>by
  simp only [others] at h
  cases ho:others P M ops ds done x ox bh (k+1) l with
  | none=>simp [ho] at h
  | some q =>
   obtain ⟨wild',av'⟩:=q
   simp only [ho] at h
   have ih:=others_av l (k+1) ho
   cases hc:(hasN done k||Nat.beq k x||hasN bh k) with
   | true =>
    simp only [hc,cTt,oSi,Prod.mk.injEq] at h
    obtain ⟨rfl,rfl⟩:=h
    exact ih
   | false =>
    simp only [hc,cFf] at h
    obtain ⟨_,h2⟩:=cond_some h
    cases hk:kindOf P M ds o <;> simp only [hk,oSi,Prod.mk.injEq] at h2 <;> obtain ⟨rfl,rfl⟩:=h2
    ·exact ih
    ·exact ih
    ·intro d hd
     rcases List.mem_cons.1 hd with rfl | hd
     ·exact (kind_st hk).1
     ·exact ih d hd
    ·exact ih
def SameC (kl:List Nat) (x y:AV):Prop:=∀ (w w':World) (N N':NN) (μ μ':Nat->Option Nat) (H H':Nat->Blk) (v v':Value),(∀ x v,RelV w N μ H x v->RelV w' N' μ' H' (kv kl x) v)->RelV w N μ H x v->RelV w' N' μ' H' y v'->v=v'
theorem kv_mp {kl:List Nat} {b:Nat} (h:hasN kl b=false):kv kl (.mp b)=.mp b:=by
 cases kl with
 | nil=>rfl
 | cons a r=>simp only [kv,killV,h,cFf]
theorem kv_ptr {kl:List Nat} {b o:Nat} (h:hasN kl b=false):kv kl (.ptr b o)=.ptr b o:=by
 cases kl with
 | nil=>rfl
 | cons a r=>simp only [kv,killV,h,cFf]
theorem sameCell_ok {kl:List Nat} {x y:AV} {K:Option α} (h:sameCell kl x y K=some r):K=some r/\SameC kl x y:=by
  unfold sameCell at h
  split at h
  . obtain ⟨h1,h2⟩:=cond_some h
    simp only [bAt,Bool.not_eq_true'] at h1
    have hb:=nEb h1.1
    subst hb
    refine ⟨h2,λw w' N N' μ μ' H H' v v' tr g g'=>?_⟩
    have g2:=tr _ _ g
    rw [kv_mp h1.2] at g2
    simp only [RelV] at g2 g'
    obtain ⟨_,a,ha,rfl⟩:=g2
    obtain ⟨_,a',ha',rfl⟩:=g'
    rw [ha] at ha'
    cases ha'
    rfl
  . obtain ⟨h1,h2⟩:=cond_some h
    simp only [bAt,Bool.not_eq_true'] at h1
    have hb:=nEb h1.1.1
    have ho:=nEb h1.1.2
    subst hb;subst ho
    refine ⟨h2,λw w' N N' μ μ' H H' v v' tr g g'=>?_⟩
    have g2:=tr _ _ g
    rw [kv_ptr h1.2] at g2
    simp only [RelV] at g2 g'
    obtain ⟨_,a,ha,rfl⟩:=g2
    obtain ⟨_,a',ha',rfl⟩:=g'
    rw [ha] at ha'
    cases ha'
    rfl
  . obtain ⟨h1,h2⟩:=cond_some h
    obtain ⟨h3,h4⟩:=need_some h2
    have h1:=of_decide_eq_true h1
    have h3:=of_decide_eq_true h3
    subst h1;subst h3
    refine ⟨h4,λw w' N N' μ μ' H H' v v' _ g g'=>?_⟩
    simp only [RelV] at g g';rw [g,g']
  . obtain ⟨h3,h4⟩:=need_some h
    have h3:=of_decide_eq_true h3
    subst h3
    refine ⟨h4,λw w' N N' μ μ' H H' v v' _ g g'=>?_⟩
    simp only [RelV] at g g';rw [g,g']
  . obtain ⟨h3,h4⟩:=need_some h
    have h3:=of_decide_eq_true h3
    subst h3
    refine ⟨h4,λw w' N N' μ μ' H H' v v' _ g g'=>?_⟩
    simp only [RelV] at g g';rw [g,g']
  all_goals first
    | (cases h;done)
    | (obtain ⟨h3,h4⟩:=need_some h
       have h3:=eq_of_beq h3
       subst h3
       refine ⟨h4,λw w' N N' μ μ' H H' v v' _ g g'=>?_⟩
       simp only [RelV] at g g';rw [g,g'])
theorem sameCells_ok {kl:List Nat}:∀ {xs ys:List AV} {K:Option α},sameCells kl xs ys K=some r->K=some r/\∀ (i:Nat) x y,xs[i]?=some x->ys[i]?=some y->SameC kl x y
 | [],[],K,h=>by
  simp only [sameCells] at h
  exact ⟨h,by simp⟩
 | x::xs,y::ys,K,h=>by
  simp only [sameCells] at h
  obtain ⟨h1,h2⟩:=sameCell_ok h
  obtain ⟨h3,h4⟩:=sameCells_ok h1
  refine ⟨h3,λi a b ha hb=>?_⟩
  cases i with
  | zero=>simp at ha hb;subst ha;subst hb;exact h2
  | succ i=>simp at ha hb;exact h4 i a b ha hb
 | [],_::_,K,h=>by simp [sameCells] at h
 | _::_,[],K,h=>by simp [sameCells] at h
theorem keepW_ok {kl:List Nat} {H H':Nat->Blk} {k:Nat}:∀ {W:List Wat} {K:Option α},keepW kl H H' k W K=some r->K=some r/\∀ e∈W,k∈e.ix->∃ cs cs',H e.b=.vars cs/\H' e.b=.vars cs'/\e.o+e.n<=cs.length/\e.o+e.n<=cs'.length /\
      ∀ (i:Nat) x y,e.o<=i->i<e.o+e.n->cs[i]?=some x->cs'[i]?=some y->SameC kl x y
  | [],K,h=>⟨h,by simp⟩
  | e::W,K,h=>by
    simp only [keepW] at h
    cases hh:hasN e.ix k with
    | false =>
      simp only [hh,cFf] at h
      obtain ⟨h1,h2⟩:=keepW_ok h
      refine ⟨h1,λe' he' hk=>?_⟩
      rcases List.mem_cons.1 he' with rfl | he'
      . exact absurd hk (hasN_not hh)
      . exact h2 e' he' hk
    | true =>
      simp only [hh,cTt] at h
      split at h
      . rename_i cs cs' hc hc'
        obtain ⟨h1,h2⟩:=cond_some h
        simp only [bAt] at h1
        obtain ⟨h3,h4⟩:=sameCells_ok h2
        obtain ⟨h5,h6⟩:=keepW_ok h3
        refine ⟨h5,λe' he' hk=>?_⟩
        rcases List.mem_cons.1 he' with rfl | he'
        . refine ⟨cs,cs',hc,hc',Nat.le_of_ble_eq_true h1.1,Nat.le_of_ble_eq_true h1.2,λi x y hi hn hx hy=>?_⟩
          refine h4 (i-e'.o) x y ?_ ?_
          . rw [List.getElem?_take_of_lt (by omega),List.getElem?_drop,show e'.o+(i-e'.o)=i by omega];exact hx
          . rw [List.getElem?_take_of_lt (by omega),List.getElem?_drop,show e'.o+(i-e'.o)=i by omega];exact hy
        . exact h6 e' he' hk
      . cases h
def Link (W:List Wat) (μ:Nat->Option Nat) (S:St) (T:Nat->Nat->Nat->Prop):Prop :=
 ∀ j g k,T j g k->∃ e∈W,j∈e.ix/\e.o<=k/\k<e.o+e.n/\e.b<S.nx/\∀ cs,S.H e.b=.vars cs->μ e.b=some g
theorem Link.step {W W':List Wat} {T:Nat->Nat->Nat->Prop} {kl:List Nat} (h:Link W μ S T) (hpl:Pl F μ S.H S.nx w kl μ' S'.H S'.nx w') (hW:∀ e∈W,e∈W'):Link W' μ' S' T:=λj g k hT=>by
 obtain ⟨e,h1,h2,h3,h4,h5,h6⟩:=h j g k hT
 refine ⟨e,hW e h1,h2,h3,h4,Nat.lt_of_lt_of_le h5 hpl.mono,λcs' hcs=>?_⟩
 obtain ⟨⟨cs,g1⟩,g2⟩:=Pin.vars (hcs ▸ hpl.pin e.b h5)
 rw [g2]
 exact h6 cs g1
theorem cell_of {cs:List AV} {b g k:Nat} (hp:Hp F μ S.H S.nx w) (hb:S.H b=.vars cs) (hg:μ b=some g) (hk:k<cs.length):∃ x v,cs[k]?=some x/\w.cell? ⟨g,k,none⟩=some v/\RelV w (Not F μ S.H) μ S.H x v:=by
 have hB:=hp.blk b
 simp only [hb,RelB] at hB
 rcases hB with hB | ⟨g',vs,h1,h2,h3,_⟩
 ·rw [hg] at hB;cases hB
 rw [hg] at h1
 cases h1
 obtain ⟨x,hx⟩:∃ x,cs[k]?=some x:=⟨cs[k],List.getElem?_eq_getElem hk⟩
 obtain ⟨v,hv,hr⟩:=RelVs_get k h2 hx
 obtain ⟨hlt,hve⟩:=List.getElem?_eq_some_iff.1 hv
 refine ⟨x,v,hx,?_,hr⟩
 have:=h3 k hlt
 rw [Nat.zero_add] at this
 rw [this,hve]
theorem watched_kept {W:List Wat} {T:Nat->Nat->Nat->Prop} {i:Nat} {K:Option α} {kl:List Nat} (hp:Hp F μ S.H S.nx w) (hp':Hp F μ' S'.H S'.nx w') (hpl:Pl F μ S.H S.nx w kl μ' S'.H S'.nx w') (hl:Link W μ S T) (h:keepW kl S.H S'.H i W K=some r) :
  ∀ g k,T i g k->∀ v,w.cell? ⟨g,k,none⟩=some v->w'.cell? ⟨g,k,none⟩=some v:=λg k hT v hv=>by
 obtain ⟨e,h1,h2,h3,h4,h5,h6⟩:=hl i g k hT
 obtain ⟨cs,cs',g1,g2,g3,g4,g5⟩:=(keepW_ok h).2 e h1 h2
 have hm:=h6 cs g1
 obtain ⟨_,hm'⟩:=Pin.vars (g2 ▸ hpl.pin e.b h5)
 rw [hm] at hm'
 obtain ⟨x,v1,e1,e2,e3⟩:=cell_of (S:=S) hp g1 hm (k:=k) (by omega)
 obtain ⟨y,v2,f1,f2,f3⟩:=cell_of (S:=S') hp' g2 hm' (k:=k) (by omega)
 have:=g5 k x y h3 h4 e1 f1 _ _ _ _ _ _ _ _ _ _ hpl.tr e3 f3
 rw [e2] at hv
 cases hv
 rw [f2,this]
theorem eff_GK {ds:List Nat} {t0:Array Value} {o:Oper} (hv:isVal P o.op=false) (ht:∀ d,d∉ds->a.tmps.getD d undef=t0.getD d undef) (hs:Sure P M o a a' w w')
  {kl:List Nat} (hpl:Pl F μ S.H S.nx w kl μ' S'.H S'.nx w'):∀ {i:Nat} {T2:Nat->Nat->Nat->Prop},(∀ g k,T2 i g k->∀ v,w.cell? ⟨g,k,none⟩=some v->w'.cell? ⟨g,k,none⟩=some v)->GK t0 i (kindOf P M ds o) (Trk μ S.H,T2) w (Trk μ' S'.H,T2) w':=by
 intro i T2 hT2
 refine ⟨hpl.new,λ_ _ _=>id,hT2,?_⟩
 cases hk:kindOf P M ds o with
 | val =>
  exfalso
  unfold kindOf at hk
  simp only [hv,cFf] at hk
  split at hk <;> try (cases hk;done)
  ·split at hk <;> cases hk
  ·rename_i d _ _;cases hh:hasN ds d <;> simp [hh] at hk
  ·rename_i f _ _ _;cases hm:M f <;> simp [hm] at hk
 | new =>
  have hf:=hs.fine
  unfold kindOf at hk
  simp only [hv,cFf] at hk
  split at hk <;> try (cases hk;done)
  ·rename_i hop;rw [hop] at hf;exact hf
  ·rename_i hop;rw [hop] at hf;exact hf
  ·rename_i hop;rw [hop] at hf;exact hf
  ·rename_i hop;rw [hop] at hf;exact hf
  ·rename_i hop;rw [hop] at hf;exact hf
  ·rename_i hop
   rw [hop] at hf
   split at hk
   ·rename_i hu;exact hf hu
   ·cases hk
  ·rename_i d _ _;cases hh:hasN ds d <;> simp [hh] at hk
  ·rename_i f _ _ hop
   cases hm:M f with
   | true=>exact hs.call f _ _ hop hm
   | false=>simp [hm] at hk
 | st d =>
  obtain ⟨hd,t,x,hop⟩:=kind_st hk
  have hf:=hs.fine
  rw [hop] at hf
  refine hf _ λg o hgo=>⟨o,?_⟩
  rw [<- ht d hd]
  exact hgo
 | wild=>exact ⟨hpl.chg.size,hpl.chg.keep⟩
theorem put_off {ds:List Nat} {t0:Array Value} (ht:∀ d,d∉ds->a.tmps.getD d undef=t0.getD d undef) {dst:Option Nat} (hd:∀ d,dst=some d->d∈ds) {v:Value} :
  ∀ d,d∉ds->(a.put dst v).tmps.getD d undef=t0.getD d undef:=by
 intro d hn
 rw [<- ht d hn]
 cases dst with
 | none=>rfl
 | some e =>
  have hne:e≠d:=λhe=>hn (he ▸ hd e rfl)
  simp [Act.put,Array.getElem?_setIfInBounds_ne hne]
theorem St.put_H (S:St) (d:Option Nat) (v:AV):(S.put d v).H=S.H:=by cases d <;> rfl
theorem planAlts_ok (E:PT->Prop) (hE:∀ a b,E (.two a b)->E a/\E b) {f:Nat->Option PT}:∀ (l:List Nat) {pt:PT},planAlts f l=some pt->E pt->l≠[]/\∀ k∈l,∃ a,f k=some a/\E a
 | [],pt,h,_=>by cases h
 | [k],pt,h,he=>by
  simp only [planAlts] at h
  refine ⟨by simp,λk' hk=>?_⟩
  rw [List.mem_singleton] at hk
  subst hk
  exact ⟨pt,h,he⟩
 | k::k2::l,pt,h,he=>by
  simp only [planAlts] at h
  cases hf:f k with
  | none=>simp [hf] at h
  | some a =>
   cases hr:planAlts f (k2::l) with
   | none=>simp [hf,hr] at h
   | some b =>
    simp only [hf,hr,oSi] at h
    subst h
    obtain ⟨h1,h2⟩:=hE _ _ he
    obtain ⟨_,h4⟩:=planAlts_ok E hE (k2::l) hr h2
    refine ⟨by simp,λk' hk=>?_⟩
    rcases List.mem_cons.1 hk with rfl | hk
    ·exact ⟨a,hf,h1⟩
    ·exact h4 k' hk
theorem plan_ok {C:Calling} (hC:CallOK P C M) (hsel:∀ (j:Nat) (o:Oper) cs b,ops[j]?=some o->o.op≠.select cs b) {ds:List Nat} (hds:∀ (i:Nat) (o:Oper) (d:Nat),ops[i]?=some o->o.dst=some d->d∈ds) {t0:Array Value}
  (hQ:∀ c a a' w,a'.defers=a.defers->Q (.panic c) a w->Q (.panic c) a' w) {K:St->Option α} {Kp:AV->St->Option α}:∀ (n:Nat) (done:List Nat) (listed:Array Bool) (F:Frm (tabsOf P)) (μ:Nat->Option Nat) (dn:List Nat) (W:List Wat) (T2:Nat->Nat->Nat->Prop) (S:St) (a:Act) (w:World) (ts:PT),Ld ops done listed->Clo ops listed->Link W μ S T2 ->
   plan P M ops ds n done=some ts->evTurns P C a.tmps.size ops ts dn W S K Kp=some r->Rg F μ dn S a w->(∀ x S' w' a' val,Kp x S'=some r->PPost F μ S.H S.nx S.kl w a x S' w' a' val->Q (.panic [{ v:=val,recovered:=false }]) a' w')->(∀ d,d∉ds->a.tmps.getD d undef=t0.getD d undef) ->
   (∀ S' w' a' done',K S'=some r->Post F μ S w a done' S' w' a'->Q .normal a' w')->wpAnyG P ops (GI P M ops ds t0) Q n listed (Trk μ S.H,T2) a w
 | 0,done,listed,F,μ,dn,W,T2,S,a,w,ts,hld,hclo,hlk,hp,h,hr,hq,ht,hn=>by
  simp only [plan] at hp
  have hre:readies done 0 ops.toList=[]/\ts=.nil:=by
   cases hq:readies done 0 ops.toList with
   | nil=>simp only [hq,oSi] at hp;exact ⟨rfl,hp.symm⟩
   | cons x y=>simp [hq] at hp
  obtain ⟨hre,rfl⟩:=hre
  refine ⟨?_,hn S w a dn h (.refl hr)⟩
  refine List.eq_nil_iff_forall_not_mem.2 λi hi=>?_
  rw [ready_readies hld,hre] at hi
  cases hi
 | n+1,done,listed,F,μ,dn,W,T2,S,a,w,ts,hld,hclo,hlk,hp,h,hr,hq,ht,hn=>by
  simp only [plan] at hp
  cases hpk:pickV P (mayPick P M ops ds done) done 0 ops.toList with
  | some q =>
   obtain ⟨k0,o⟩:=q
   simp only [hpk] at hp
   cases hoth:others P M ops ds done k0 o (behind k0 0 ops.toList []) 0 ops.toList with
   | none=>simp [hoth] at hp
   | some q =>
    obtain ⟨wild,av⟩:=q
    cases hpl:plan P M ops ds n (k0::done) with
    | none=>simp [hoth,hpl] at hp
    | some rest =>
     simp only [hoth,hpl,oSi] at hp
     subst hp
     obtain ⟨hok,hdk,hv,hrd⟩:=pickV_ok (ops:=ops) ops.toList 0 (by simp) hpk
     have hkl:k0<ops.size:=(Array.getElem?_eq_some_iff.1 hok).1
     simp only [evTurns] at h
     obtain ⟨h0,h1⟩:=cond_some h
     obtain ⟨v,val,hK,hrg,hy⟩:=evOp_val (X:=λg k=>XK a.tmps wild av (Trk μ S.H) g/\¬ WRof P μ S av a.tmps ⟨k0,o,wild,av⟩ g k) hv hr (fresh_ok h0) (λρA hρ hrd hc=>chk_free (s:=⟨k0,o,wild,av⟩) hr hρ hrd hc) h1
     have hK:=(keepW_ok hK).1
     let WR:=WRof P μ S av a.tmps ⟨k0,o,wild,av⟩
     let T3:Nat->Nat->Nat->Prop:=λj g k=>T2 j g k\/(j∈wild/\WR g k)
     have hpl0:Pl F μ S.H S.nx w [] μ (S.put o.dst v).H (S.put o.dst v).nx w:=by
      have:=Pl.refl hr.hp
      cases o.dst <;> exact this
     have hwix:∀ e∈Turn.watch P ⟨k0,o,wild,av⟩ S.E,e.ix=wild:=λe he=>by
      unfold Turn.watch at he
      simp only at he
      cases hw:isNilN wild with
      | true=>simp [hw] at he
      | false =>
       simp only [hw,cFf] at he
       split at he
       ·split at he
        ·simp only [List.mem_singleton] at he;rw [he]
        ·cases he
       ·cases he
     have hlk0:Link (Turn.watch P ⟨k0,o,wild,av⟩ S.E++W) μ S T3:=λj g k hT=>by
      rcases hT with hT | ⟨hj,e,he,e1,e2,e3,e4,_⟩
      ·obtain ⟨e,g1,g2⟩:=hlk j g k hT
       exact ⟨e,List.mem_append_right _ g1,g2⟩
      ·exact ⟨e,List.mem_append_left _ he,by rw [hwix e he];exact hj,e3,e4,Nat.lt_of_not_le λhle=>e1 (hr.hp.dead _ hle),λ_ _=>e2⟩
     have hlk3:=hlk0.step hpl0 (λe he=>he)
     have ih:=plan_ok hC hsel hds (t0:=t0) hQ n (k0::done) (listed.setIfInBounds k0 true) F μ (dstL o++dn) _ T3 (S.put o.dst v) (a.put o.dst val) w rest (hld.cons hkl) (hclo.set hok ((rdy_iff hld).1 hrd)) hlk3 hpl (by rw [Act.put_size];exact hK) hrg
      (λx S' w' a' val h1 h2=>hq x S' w' a' val h1 (PPost.trans (S1:=S.put o.dst v) ⟨μ,[],by cases o.dst <;> simp [St.put],hpl0,h2⟩ (Act.put_defers' _ _ _)))
      (put_off ht λd hd=>hds k0 o d hok hd) λS' w' a' d' hK' hp'=>hn S' w' a' d' hK' (by
       refine Post.trans (S1:=S.put o.dst v) ⟨μ,[],by cases o.dst <;> simp [St.put],hpl0,hrg,hp'⟩ (Act.put_size _ _ _) (Act.put_defers' _ _ _))
     rw [St.put_H] at ih
     have hav:=others_av ops.toList 0 hoth
     have hXt:∀ g,XK t0 wild av (Trk μ S.H) g->XK a.tmps wild av (Trk μ S.H) g:=λg hX=>by
      rcases hX with hX | ⟨d,hd,o',ho'⟩
      ·exact .inl hX
      ·exact .inr ⟨d,hd,o',by rw [ht d (hav d hd)];exact ho'⟩
     refine wpAnyG_less (T1:=(Trk μ S.H,T3)) (λj T' w' hg o' ho'=>?_) (wpAnyG_first (J:=JK t0 wild av (Trk μ S.H) WR w) hok hsel hQ (λT w o' ho'=>?_) bnd_eq n listed (Trk μ S.H,T3) a w (λj oj hoj hji hun hno=>?_) hclo ((ready_iff hld).2 ⟨o,hok,hdk,hrd⟩) ?_ ⟨Keep.refl w,λg h=>.inl h,λg k hw=>⟨λj hj=>.inr ⟨hj,hw⟩,λ_ h=>h⟩⟩ ih)
     ·obtain ⟨q1,q2,q3,q4⟩:=hg o' ho'
      refine ⟨q1,λj' g k hT=>q2 j' g k (.inl hT),λg k hT=>q3 g k (.inl hT),?_⟩
      generalize kindOf P M ds o'=kd at q4 ⊢
      cases kd <;> exact q4
     ·rw [hok] at ho';cases ho'
      have:kindOf P M ds o=.val:=by unfold kindOf;simp [hv]
      rw [this]
      exact ⟨λg h=>.inl h,λ_ _ _ h=>h,λ_ _ _ _ h=>h,Keep.refl w⟩
     ·have hjl:j<ops.size:=(Array.getElem?_eq_some_iff.1 hoj).1
      obtain ⟨h2,h3⟩:=others_ok ops.toList 0 (by simp) hoth j oj (Nat.zero_le _) hoj (by rw [<- hld.getT hjl true];exact hun) hji hno
      refine ⟨h2,λT w T' w' hj hg=>JK.step h3 (λg k hw d hd o' ho'=>?_) hj (hg oj hoj)⟩
      obtain ⟨e,_,_,_,_,_,e6⟩:=hw
      exact e6 d hd o' (by rw [ht d (hav d hd)];exact ho')
     ·rcases hy with ⟨h2,h3⟩ | ⟨h2,h3⟩
      ·refine .inl ⟨h2,λT w' hj=>h3 w' ⟨λg k hX v hv=>?_⟩⟩
       by_cases hw:WR g k
       ·exact (hj.2.2 g k hw).2 v hv
       ·have hlt:=World.block_lt_of_cell? w _ hv
        rw [cell?_of_heap (hj.1.keep g hlt λhX'=>hX ⟨hXt g hX',hw⟩)]
        exact hv
      ·exact .inr ⟨h2,h3⟩
  | none =>
   simp only [hpk] at hp
   obtain ⟨hne,hall⟩:=planAlts_ok (λpt=>evTurns P C a.tmps.size ops pt dn W S K Kp=some r) (λ_ _ h=>agr_some h) _ hp h
   refine ⟨λhe=>?_,λi hi=>?_⟩
   ·obtain ⟨k,hk⟩:=List.exists_mem_of_ne_nil _ hne
    have:k∈Region.ready .any ops listed:=(ready_readies hld).2 hk
    rw [he] at this;cases this
   ·rw [ready_readies hld] at hi
    obtain ⟨ti,hfi,h⟩:=hall i hi
    cases hok:ops[i]? with
    | none=>simp [hok] at hfi
    | some o =>
     cases hpl:plan P M ops ds n (i::done) with
     | none=>simp [hok,hpl] at hfi
     | some rest =>
      simp only [hok,hpl,oSi] at hfi
      subst hfi
      have hkl:i<ops.size:=(Array.getElem?_eq_some_iff.1 hok).1
      have hdeps:∀ e∈o.after,Region.binds .any e=true->listed.getD e.on false=true:=by
       obtain ⟨o',h1,_,h3⟩:=(ready_iff hld).1 ((ready_readies hld).2 hi)
       rw [hok] at h1;cases h1
       exact (rdy_iff hld).1 h3
      simp only [evTurns] at h
      obtain ⟨h0,h1⟩:=cond_some h
      have next:∀ {S1:St} {w1:World} {a1:Act},keepW (S1.kl.drop S.kl.length) S.H S1.H i W (evTurns P C a.tmps.size ops rest (dstL o++dn) (Turn.watch P ⟨i,o,[],[]⟩ S.E++W) S1 K Kp)=some r->(∃ μ1 kl,S1.kl=S.kl++kl/\Pl F μ S.H S.nx w kl μ1 S1.H S1.nx w1/\Rg F μ1 (dstL o++dn) S1 a1 w1 /\
        ((∀ g k,T2 i g k->∀ v,w.cell? ⟨g,k,none⟩=some v->w1.cell? ⟨g,k,none⟩=some v)->GK t0 i (kindOf P M ds o) (Trk μ S.H,T2) w (Trk μ1 S1.H,T2) w1))->(∃ v,a1=a.put o.dst v) ->
        ∃ T',GI P M ops ds t0 i (Trk μ S.H,T2) w T' w1/\wpAnyG P ops (GI P M ops ds t0) Q n (listed.setIfInBounds i true) T' a1 w1:=by
       rintro S1 w1 a1 hK0 ⟨μ1,kl,e1,e2,e3,e4⟩ ⟨v1,rfl⟩
       have hK1:=(keepW_ok hK0).1
       rw [e1,List.drop_left] at hK0
       have hT2:=watched_kept hr.hp e3.hp e2 hlk hK0
       refine ⟨(Trk μ1 S1.H,T2),λo' ho'=>by rw [hok] at ho';cases ho';exact e4 hT2,?_⟩
       exact plan_ok hC hsel hds (t0:=t0) hQ n (i::done) (listed.setIfInBounds i true) F μ1 (dstL o++dn) _ T2 S1 (a.put o.dst v1) w1 rest (hld.cons hkl) (hclo.set hok hdeps) (hlk.step e2 λe he=>List.mem_append_right _ he) hpl (by rw [Act.put_size];exact hK1) e3
        (λx S' w' a' val h1 h2=>hq x S' w' a' val h1 (PPost.trans ⟨μ1,kl,e1,e2,h2⟩ (Act.put_defers' _ _ _)))
        (put_off ht λd hd=>hds i o d hok hd) λS' w' a' d' hK' hp'=>hn S' w' a' d' hK' (Post.trans ⟨μ1,kl,e1,e2,e3,hp'⟩ (Act.put_size _ _ _) (Act.put_defers' _ _ _))
      have hw:wpTurn P ops o a w (λa' w'=>∃ T',GI P M ops ds t0 i (Trk μ S.H,T2) w T' w'/\wpAnyG P ops (GI P M ops ds t0) Q n (listed.setIfInBounds i true) T' a' w') Q:=by
       cases hv:isVal P o.op with
       | false =>
        refine evOp_eff hC hv hr (fresh_ok h0) h1 (λx S' w' val h1 h2=>hq x S' w' a val h1 h2) λS1 w1 a1 hK1 hp1 hs1=>?_
        obtain ⟨⟨μ1,kl,e1,e2,e3⟩,_,_⟩:=hp1
        exact next hK1 ⟨μ1,kl,e1,e2,e3,λhT=>eff_GK hv ht hs1 e2 hT⟩ hs1.put
       | true =>
        obtain ⟨v,val,hK,hrg,hy⟩:=evOp_val (X:=λ_ _=>False) hv hr (fresh_ok h0) (λ_ _ _ _=>.none) h1
        have hk:kindOf P M ds o=.val:=by unfold kindOf;simp [hv]
        have:=next hK ⟨μ,[],by cases o.dst <;> simp [St.put],by have:=Pl.refl hr.hp;cases o.dst <;> exact this,hrg,λhT=>by rw [hk,St.put_H];exact ⟨λg h=>.inl h,λ_ _ _ h=>h,hT,Keep.refl w⟩⟩ ⟨val,rfl⟩
        unfold wpTurn
        rcases hy with ⟨h1,h2⟩ | ⟨h1,h2⟩
        ·rw [if_pos h1]
         unfold Oper.wp
         rw [h2 w (Agr.refl w)]
         exact this
        ·rw [if_neg (by simp [h1]),<- h2]
         exact this
      unfold wpOp
      simp only [hok]
      unfold wpTurn at hw
      split
      ·rename_i hh;rw [if_pos hh] at hw;exact .inl hw
      ·rename_i hh;rw [if_neg hh] at hw;exact hw
theorem noSel {l:List Oper} (h:(l.all λo=>!isSelect o.op)=true) {o:Oper} (ho:o∈l):∀ cs b,o.op≠.select cs b:=by
 intro cs b he
 have:=List.all_eq_true.1 h o ho
 simp [he,isSelect] at this
theorem evRegion_ok (hm:P.follows .mixedOrders=true) {C:Calling} (hC:CallOK P C M) {id:Nat} {draw:Bool} {ts:PT} {K:St->Option α} {Kp:AV->St->Option α} (hr:Rg F μ [] S a w) (hts:turnsOf P M ops draw=some ts)
  (h:evTurns P C a.tmps.size ops ts [] [] S K Kp=some r)
  (hQ:∀ c a a' w,a'.defers=a.defers->Q (.panic c) a w->Q (.panic c) a' w)
  (hq:∀ x S' w' a' val,Kp x S'=some r->PPost F μ S.H S.nx S.kl w a x S' w' a' val->Q (.panic [{ v:=val,recovered:=false }]) a' w')
  (hn:∀ S' w' a' done',K S'=some r->Post F μ S w a done' S' w' a'->Q .normal a' w'):(Code.region id ops draw).wp P Q a w:=by
 cases draw with
 | false =>
  simp only [turnsOf,cFf,oSi] at hts
  subst hts
  exact region_ok hC hr h hq hn
 | true =>
  simp only [turnsOf,cTt] at hts
  obtain ⟨hsel,hpl⟩:=cond_some hts
  let w1:World:={ w with drawn:=w.drawn+1 }
  have hchg:Chg (λ_=>False) w w1:=⟨⟨Nat.le_refl _,λ_ _ _=>rfl⟩,rfl,rfl,rfl⟩
  have hpl1:Pl F μ S.H S.nx w [] μ S.H S.nx w1:=Pl.keep hr.hp hchg
  have hr1:Rg F μ [] S a w1:=by
   refine ⟨hr.hp.keep ⟨Nat.le_refl _,λ_ _ _=>rfl⟩ λ_ _=>rfl,?_,hr.tags⟩
   have:=hr.e.kill (kl:=[]) hpl1.tr
   exact this
  let Q':Exit->Act->World->Prop:=λe a w=>(e=.normal/\Q .normal a w)\/∃ c,e=.panic c/\Q (.panic c) a w
  have hQ':∀ c a a' w,a'.defers=a.defers->Q' (.panic c) a w->Q' (.panic c) a' w:=λc a a' w hd h=>by
   rcases h with ⟨h,_⟩ | ⟨c',h,h2⟩
   ·cases h
   ·cases h;exact .inr ⟨c,rfl,hQ c a a' w hd h2⟩
  refine wp_mono (wp_region_any (Q:=Q') hm (wpAny_of_G _ _ _ _ _ (plan_ok (t0:=a.tmps) hC (λj o cs b ho=>noSel hsel (by rw [Array.mem_toList_iff];exact Array.mem_of_getElem? ho) cs b) (ds:=dstsOf ops.toList) (λi o d ho hd=>?_) hQ' ops.size [] (Array.replicate ops.size false) F μ [] [] (λ_ _ _=>False) S a w1 ts ?_ (λm om _ hl=>by simp [Array.getD] at hl) (λ_ _ _ h=>h.elim) hpl h hr1 (λx S' w' a' val h1 h2=>.inr ⟨_,rfl,hq x S' w' a' val h1 (PPost.trans (S1:=S) ⟨μ,[],by simp,hpl1,h2⟩ rfl)⟩) (λ_ _=>rfl)
   λS' w' a' done' hK hp=>.inl ⟨rfl,hn S' w' a' done' hK (Post.trans (S1:=S) ⟨μ,[],by simp,hpl1,hr1,hp⟩ rfl rfl)⟩))) λe a w h=>by
    rcases h with ⟨rfl,h⟩ | ⟨c,rfl,h⟩
    ·exact h
    ·exact h
  ·simp only [dstsOf,List.mem_filterMap]
   exact ⟨o,by rw [Array.mem_toList_iff];exact Array.mem_of_getElem? ho,hd⟩
  ·refine ⟨by simp,λi hi=>?_,λi hi=>by cases hi⟩
   simp [hasN,hi]
end
end Go.Ev
namespace Go.Ev
open Go
structure Ext (B B':Bd):Prop where
 m:∀ j b,findB B.m j=some b->findB B'.m j=some b
 z:∀ b,b∈B.z->b∈B'.z
 y:∀ b,b∈B.y->b∈B'.y
theorem Ext.refl (B:Bd):Ext B B:=⟨λ_ _ h=>h,λ_ h=>h,λ_ h=>h⟩
theorem Ext.trans {A B C:Bd} (h:Ext A B) (h':Ext B C):Ext A C:=⟨λj b hh=>h'.m j b (h.m j b hh),λb hh=>h'.z b (h.z b hh),λb hh=>h'.y b (h.y b hh)⟩
theorem eqON_eq:∀ {x y:Option Nat},eqON x y=true->x=y
 | none,none,_=>rfl
 | some _,some _,h=>by rw [nEb h]
 | none,some _,h=>by cases h
 | some _,none,h=>by cases h
theorem bindB_ok {α:Type} {r:α} {B:Bd} {j:Nat} {b:Option Nat} {K:Bd->Option α} (h:bindB B j b K=some r):∃ B',K B'=some r/\Ext B B'/\findB B'.m j=some b:=by
 unfold bindB at h
 cases hf:findB B.m j with
 | none =>
  simp only [hf] at h
  refine ⟨_,h,⟨λk c hk=>?_,λ_ h=>h,λ_ h=>h⟩,by simp [findB]⟩
  have hne:Nat.beq j k=false:=Bool.eq_false_iff.2 λe=>by rw [nEb e,hk] at hf;cases hf
  simp [findB,hne,hk]
 | some b' =>
  simp only [hf] at h
  obtain ⟨h1,h2⟩:=cond_some h
  rw [eqON_eq h1] at hf
  exact ⟨B,h2,Ext.refl B,hf⟩
def Bd.bs (B:Bd):List Nat:=B.m.filterMap (·.2)
theorem findB_mem:∀ {m:List (Nat×Option Nat)} {j b:Nat},findB m j=some (some b)->b∈m.filterMap (·.2)
 | [],_,_,h=>by simp [findB] at h
 | (k,o)::m,j,b,h=>by
  simp only [findB] at h
  cases hk:Nat.beq k j with
  | true=>simp only [hk,cTt,oSi] at h;subst h;simp
  | false =>
   simp only [hk,cFf] at h
   have:=findB_mem h
   simp only [List.mem_filterMap] at this ⊢
   obtain ⟨q,hq,he⟩:=this
   exact ⟨q,List.mem_cons_of_mem _ hq,he⟩
theorem nodupN_ok:∀ {l:List Nat},nodupN l=true->l.Nodup
 | [],_=>List.nodup_nil
 | x::l,h=>by
  simp only [nodupN,bAt,Bool.not_eq_true'] at h
  refine List.nodup_cons.2 ⟨λhm=>?_,nodupN_ok h.2⟩
  have:(l.any λy=>Nat.beq x y)=true:=List.any_eq_true.2 ⟨x,hm,Nat.beq_refl x⟩
  rw [this] at h
  exact absurd h.1 (by simp)
theorem nodup_tail {k:Nat} {o:Option Nat} {m:List (Nat×Option Nat)} (hn:(((k,o)::m).filterMap (·.2)).Nodup):(m.filterMap (·.2)).Nodup/\∀ b,o=some b->b∉m.filterMap (·.2):=by
 cases o with
 | none=>exact ⟨by simpa using hn,λb h=>by cases h⟩
 | some c =>
  have h:=List.nodup_cons.1 (show (c::m.filterMap (·.2)).Nodup from hn)
  exact ⟨h.2,λb hb=>by cases hb;exact h.1⟩
theorem findB_inj:∀ {m:List (Nat×Option Nat)} {j j' b:Nat},(m.filterMap (·.2)).Nodup->findB m j=some (some b)->findB m j'=some (some b)->j=j'
 | [],_,_,_,_,h,_=>by simp [findB] at h
 | (k,o)::m,j,j',b,hn,h,h'=>by
  simp only [findB] at h h'
  obtain ⟨hn',hn2⟩:=nodup_tail hn
  cases hk:Nat.beq k j with
  | true =>
   simp only [hk,cTt,oSi] at h
   subst h
   cases hk':Nat.beq k j' with
   | true=>rw [<- nEb hk,<- nEb hk']
   | false =>
    simp only [hk',cFf] at h'
    exact absurd (findB_mem h') (hn2 b rfl)
  | false =>
   simp only [hk,cFf] at h
   cases hk':Nat.beq k j' with
   | true =>
    simp only [hk',cTt,oSi] at h'
    subst h'
    exact absurd (findB_mem h) (hn2 b rfl)
   | false =>
    simp only [hk',cFf] at h'
    exact findB_inj hn' h h'
theorem Bd.ok_inj {B:Bd} (h:B.ok=true) {j j' b:Nat} (h1:findB B.m j=some (some b)) (h2:findB B.m j'=some (some b)):j=j':=by
 simp only [Bd.ok,bAt] at h
 exact findB_inj (nodupN_ok h.1) h1 h2
theorem Bd.ok_z {B:Bd} (h:B.ok=true) {j b:Nat} (h1:findB B.m j=some (some b)):b∉B.z:=λhz=>by
 simp only [Bd.ok,bAt] at h
 have:=List.all_eq_true.1 h.2 b (findB_mem h1)
 have h2:(B.z.any λy=>Nat.beq b y)=true:=List.any_eq_true.2 ⟨b,hz,Nat.beq_refl b⟩
 rw [h2] at this
 cases this
def muB (μ:Nat->Option Nat) (B:Bd) (j:Nat):Option Nat :=
 match findB B.m j with
 | some (some b)=>μ b
 | _=>none
def From (pin:Nat) (H:Nat->Blk) (B:Bd) (j:Nat) (blk:Blk):Prop :=
 match findB B.m j with
 | some (some b)=>H b≠.dead/\(∀ t l,H b=.data t l->∃ t' l',blk=.data t' l'/\t'.size=t.size/\List.length l'=List.length l)/\(blk.tag≠0->j<pin->b=j)/\(blk.tag≠0->(H b).tag=blk.tag)/\(unm blk=true->unm (H b)=true)
 | some none=>pin<=j/\((∃ t,blk=.data t [])\/(∃ cs,blk=.vars cs)\/∃ kt vt ag l,blk=.mapd kt vt ag l)
 | none=>False
theorem From.ext {pin:Nat} {H:Nat->Blk} {B B':Bd} {j:Nat} {blk:Blk} (he:Ext B B') (h:From pin H B j blk):From pin H B' j blk:=by
 unfold From at *
 cases hf:findB B.m j with
 | none=>simp [hf] at h
 | some b=>rw [he.m j b hf];simpa [hf] using h
def Kin:BSh->Blk->Prop
 | .vars _,b=>∃ cs,b=.vars cs
 | .data t,b=>∃ l,b=.data t l
 | .iter,b=>∃ s p,b=.iter s p
 | .mapd kt vt ag,b=>∃ l,b=.mapd kt vt ag l
theorem Kin.live {s:BSh} {b:Blk} (h:Kin s b):b≠.dead:=by
 cases s <;> simp only [Kin] at h
 ·obtain ⟨_,rfl⟩:=h;simp
 ·obtain ⟨_,rfl⟩:=h;simp
 ·obtain ⟨_,_,rfl⟩:=h;simp
 ·obtain ⟨_,rfl⟩:=h;simp
theorem Kin.tag {s:BSh} {b:Blk} (h:Kin s b):b.tag=s.tag:=by
 cases s <;> simp only [Kin] at h
 ·obtain ⟨_,rfl⟩:=h;rfl
 ·obtain ⟨_,rfl⟩:=h;rfl
 ·obtain ⟨_,_,rfl⟩:=h;rfl
 ·obtain ⟨_,rfl⟩:=h;rfl
theorem unB_kin:∀ (s:BSh) (p:s.den),Kin s (unB s p)
 | .vars _,_=>⟨_,rfl⟩
 | .data _,_=>⟨_,rfl⟩
 | .iter,_=>⟨_,_,rfl⟩
 | .mapd _ _ _,_=>⟨_,rfl⟩
section
variable {T:Tb} {F:Frm T} {μ:Nat->Option Nat} {H:Nat->Blk} {nx:Nat} {w:World} {α:Type} {r:α} {pin:Nat} {bl:List (Nat×BSh)}
structure Fin {T:Tb} (F F':Frm T) (μ:Nat->Option Nat) (pin:Nat) (H:Nat->Blk) (bl:List (Nat×BSh)) (B:Bd) (H':Nat->Blk):Prop where
 ok:B.ok=true
 src:∀ j,H' j≠.dead->From pin H B j (H' j)
 kin:∀ j s,kindIn bl j=some s->Kin s (H' j)
 sub:∀ g,F' g->Not F μ H g
 hsub:∀ g,F'.hot g->(Not F μ H).trk g
 zsep:∀ b g,b∈B.z->H b≠.dead->μ b=some g->¬ F'.hot g
 ysep:∀ b g,b∈B.y->H b≠.dead->μ b=some g->¬ F' g
 reg:F'.reg=F.reg
 unf:F'.unf=F.unf
variable {F':Frm T} {B:Bd} {H':Nat->Blk}
theorem Fin.trk (h:Fin F F' μ pin H bl B H') {g:Nat} (ht:Trk (muB μ B) H' g):Trk μ H g:=by
 obtain ⟨j,h1,h2⟩:=ht
 have h3:=h.src j h1
 unfold From at h3
 unfold muB at h2
 cases hf:findB B.m j with
 | none=>simp [hf] at h2
 | some o =>
  cases o with
  | none=>simp [hf] at h2
  | some b=>simp only [hf] at h2 h3;exact ⟨b,h3.1,h2⟩
theorem Fin.not (h:Fin F F' μ pin H bl B H'):Sub w (Not F' (muB μ B) H') (Not F μ H) :=
 ⟨λg _ hn=>hn.elim (h.sub g) λht=>.inr (h.trk ht),λg _ hn=>hn.elim (h.hsub g) λht=>.inr (h.trk ht),λg _ hr=>by show F'.reg g;rw [h.reg];exact hr,λg _ hr=>by have hr:F'.unf g:=hr;rw [h.unf] at hr;exact hr⟩
theorem Fin.y (h:Fin F F' μ pin H bl B H') (hp:Hp F μ H nx w) {b g:Nat} (hb:b∈B.z) (hy:b∈B.y) (hl:H b≠.dead) (hg:μ b=some g):¬ Not F' (muB μ B) H' g:=by
 rintro (hF | ⟨j,h1,h2⟩)
 ·exact h.ysep b g hy hl hg hF
 ·have h3:=h.src j h1
  unfold From at h3
  unfold muB at h2
  cases hf:findB B.m j with
  | none=>simp [hf] at h2
  | some o =>
   cases o with
   | none=>simp [hf] at h2
   | some b' =>
    simp only [hf] at h2 h3
    have:=hp.inj b b' g hl h3.1 hg h2
    subst this
    exact Bd.ok_z h.ok hf hb
theorem Fin.z (h:Fin F F' μ pin H bl B H') (hp:Hp F μ H nx w) {b g:Nat} (hb:b∈B.z) (hl:H b≠.dead) (hg:μ b=some g):¬ (Not F' (muB μ B) H').trk g:=by
 rintro (hF | ⟨j,h1,h2⟩)
 ·exact h.zsep b g hb hl hg hF
 ·have h3:=h.src j h1
  unfold From at h3
  unfold muB at h2
  cases hf:findB B.m j with
  | none=>simp [hf] at h2
  | some o =>
   cases o with
   | none=>simp [hf] at h2
   | some b' =>
    simp only [hf] at h2 h3
    have:=hp.inj b b' g hl h3.1 hg h2
    subst this
    exact Bd.ok_z h.ok hf hb
theorem keepRefl (w:World) {N:Nat->Prop}:Keep N w w:=Keep.refl w
theorem plain_of_rows (h:Fin F F' μ pin H bl B H') (hp:Hp F μ H nx w) {t:Ty} {l:List t.den} {v:Value} (ht:notRg t=true) (hs:SlRow w (Not F μ H) t l v) (hg:∀ g o n c,v=.slice (some ⟨g,o,none⟩) n c->0<n->∃ b,b∈B.z/\b∈B.y/\H b≠.dead/\μ b=some g) :
  RelV w (Not F' (muB μ B) H') (muB μ B) H' (.sl t l) v:=by
 obtain ⟨a,c,rfl,hc,hr⟩:=hs
 simp only [RelV,RelD]
 refine ⟨a,c,rfl,hc,λhpos=>?_⟩
 obtain ⟨g,o,rfl,hgl,hu,hrow⟩:=hr hpos
 obtain ⟨b,hb,hy,hl,hm⟩:=hg g o _ _ rfl hpos
 refine ⟨g,o,rfl,λhn=>h.y hp hb hy hl hm (lnN_le ht hn),hgl,hu.keep hgl rfl h.not,λi hi=>?_⟩
 obtain ⟨es,e1,e2,e3⟩:=hrow i hi
 exact ⟨es,e1,e2,e3.keep (keepRefl w) h.not⟩
theorem lent_of_rows (h:Fin F F' μ pin H bl B H') (hp:Hp F μ H nx w) {t:Ty} {l:List t.den} {v:Value} (hs:SlRow w (Not F μ H) t l v) (hg:∀ g o n c,v=.slice (some ⟨g,o,none⟩) n c->0<n->∃ b,b∈B.z/\H b≠.dead/\μ b=some g) :
  RelV w (Not F' (muB μ B) H') (muB μ B) H' (.sl (.ln t) l) v:=by
 obtain ⟨a,c,rfl,hc,hr⟩:=hs
 simp only [RelV,RelD]
 refine ⟨a,c,rfl,hc,λhpos=>?_⟩
 obtain ⟨g,o,rfl,hgl,hu,hrow⟩:=hr hpos
 obtain ⟨b,hb,hl,hm⟩:=hg g o _ _ rfl hpos
 refine ⟨g,o,rfl,λhn=>h.z hp hb hl hm hn,hgl,hu.keep hgl rfl h.not,λi hi=>?_⟩
 obtain ⟨es,e1,e2,e3⟩:=hrow i hi
 exact ⟨es,e1,e2,e3.keep (keepRefl w) h.not⟩
theorem packSl_ok (hp:Hp F μ H nx w) {t:Ty} {x:AV} {B:Bd} {K:List t.den->Bd->Option α} {val:Value} (hx:RelV w (Not F μ H) μ H x val) (h:packSl H t x B K=some r) :
  ∃ p B',K p B'=some r/\Ext B B'/\∀ (F':Frm T) Bf H',Ext B' Bf->Fin F F' μ pin H bl Bf H'->RelV w (Not F' (muB μ Bf) H') (muB μ Bf) H' (.sl t p) val:=by
 have zext:∀ b,Ext B ⟨B.m,b::B.z,B.y⟩:=λb=>⟨λ_ _ h=>h,λ_ h=>List.mem_cons_of_mem _ h,λ_ h=>h⟩
 have yext:∀ b,Ext B ⟨B.m,b::B.z,b::B.y⟩:=λb=>⟨λ_ _ h=>h,λ_ h=>List.mem_cons_of_mem _ h,λ_ h=>List.mem_cons_of_mem _ h⟩
 cases x <;> try (simp only [packSl,items,reduceCtorEq] at h;done)
 case sl t' l =>
  simp only [packSl] at h
  split at h
  ·rename_i ht
   subst ht
   refine ⟨l,B,h,Ext.refl B,λF' Bf H' _ hf=>?_⟩
   simp only [RelV] at hx ⊢
   exact hx.keep (keepRefl w) hf.not
  ·split at h
   ·rename_i ht
    subst ht
    refine ⟨_,B,h,Ext.refl B,λF' Bf H' _ hf=>?_⟩
    simp only [RelV] at hx ⊢
    have:=(hx.keep (keepRefl w) hf.not).inn
    simp only [Ty.inn] at this
    exact this
   ·cases h
 case c u =>
  simp only [RelV] at hx
  subst hx
  have h':(items H t (.c val) λl=>K l B)=some r:=h
  have hnil:val=.slice none 0 0/\K [] B=some r:=by
   simp only [items] at h'
   split at h' <;> first
    | (cases h';done)
    | (rename_i heq;cases heq;done)
    | (rename_i heq;cases heq;exact ⟨rfl,h'⟩)
    | (rename_i heq;subst heq;exact ⟨rfl,h'⟩)
    | exact ⟨rfl,h'⟩
  obtain ⟨rfl,hK⟩:=hnil
  refine ⟨[],B,hK,Ext.refl B,λF' Bf H' _ hf=>?_⟩
  simp only [RelV,RelD]
  exact ⟨none,0,rfl,Nat.le_refl _,λhh=>absurd hh (by simp)⟩
 case wh b =>
  have at_:∀ g o n c,val=.slice (some ⟨g,o,none⟩) n c->H b≠.dead/\μ b=some g:=λg o n c hv=>by
   simp only [RelV] at hx
   obtain ⟨t',l',hb,⟨g',c',hg,hv',_⟩ | ⟨_,_,hv'⟩⟩:=hx
   ·rw [hv'] at hv
    simp only [Value.slice.injEq,oSi,Addr.mk.injEq] at hv
    exact ⟨by simp [hb],by rw [<- hv.1.1];exact hg⟩
   ·rw [hv'] at hv;simp at hv
  simp only [packSl] at h
  split at h
  ·rename_i t' ht _
   subst ht
   obtain ⟨l,hK,hs⟩:=items_ok hp hx h
   refine ⟨_,_,hK,zext b,λF' Bf H' he hf=>?_⟩
   have:=lent_of_rows hf hp hs λg o n c hv _=>⟨b,he.z b (by simp),at_ g o n c hv⟩
   simp only [RelV] at this ⊢
   have:=this.inn
   simp only [Ty.inn] at this
   exact this
  ·split at h
   ·rename_i u hu _
    subst hu
    obtain ⟨l,hK,hs⟩:=items_ok hp hx h
    refine ⟨_,_,hK,zext b,λF' Bf H' he hf=>?_⟩
    refine lent_of_rows (t:=u.inn) hf hp ?_ λg o n c hv _=>⟨b,he.z b (by simp),at_ g o n c hv⟩
    obtain ⟨a,c,e1,e2,e3⟩:=hs
    refine ⟨a,c,by rw [e1];simp,by simpa using e2,λhl=>?_⟩
    obtain ⟨g,o,f1,f2,f3,f4⟩:=e3 (by simpa using hl)
    have hsz:(Ty.mx u).size=u.inn.size:=by simp only [Ty.size];exact (inn_size u).symm
    rw [hsz] at f3 f4
    refine ⟨g,o,f1,f2,by simpa using f3,λi hi=>?_⟩
    obtain ⟨es,g1,g2,g3⟩:=f4 i (by simpa using hi)
    refine ⟨es,g1,g2,?_⟩
    simp only [RelD] at g3
    simp only [List.getElem_map]
    exact g3.2.1.lowInn g3.1
   ·obtain ⟨hrg,h⟩:=cond_some h
    obtain ⟨l,hK,hs⟩:=items_ok hp hx h
    exact ⟨l,_,hK,yext b,λF' Bf H' he hf=>plain_of_rows hf hp hrg hs λg o n c hv _=>⟨b,he.z b (by simp),he.y b (by simp),at_ g o n c hv⟩⟩
 case win b lo n =>
  simp only [packSl] at h
  obtain ⟨hrg,h'⟩:=cond_some h
  obtain ⟨l,hK,hs⟩:=items_ok hp hx h'
  refine ⟨l,_,hK,yext b,λF' Bf H' he hf=>plain_of_rows hf hp hrg hs λg o n c hv _=>⟨b,he.z b (by simp),he.y b (by simp),?_⟩⟩
  simp only [RelV] at hx
  obtain ⟨t',l',hb,_,⟨g',c',o',hg,hv',_⟩ | ⟨_,_,hv'⟩⟩:=hx
  ·rw [hv'] at hv
   simp only [Value.slice.injEq,oSi,Addr.mk.injEq] at hv
   exact ⟨by simp [hb],by rw [<- hv.1.1];exact hg⟩
  ·rw [hv'] at hv;simp at hv
theorem muB_of {B Bf:Bd} {j b:Nat} (he:Ext B Bf) (h:findB B.m j=some (some b)):muB μ Bf j=μ b:=by
 unfold muB
 rw [he.m j _ h]
theorem isNilSl_ok {u:Value} (h:isNilSl u=true):u=.slice none 0 0:=by
 unfold isNilSl at h
 split at h
 ·rfl
 ·cases h
theorem isNilPtr_ok {u:Value} (h:isNilPtr u=true):u=.pointer none:=by
 unfold isNilPtr at h
 split at h
 ·rfl
 ·cases h
theorem packOwn_ok {x:AV} {j:Nat} {B:Bd} {K:Bd->Option α} {val:Value} (hx:RelV w (Not F μ H) μ H x val) (h:packOwn x j B K=some r) :
  ∃ B',K B'=some r/\Ext B B'/\∀ (F':Frm T) Bf H',Ext B' Bf->Fin F F' μ pin H bl Bf H'->refsOK bl (.own j)=true->RelV w (Not F' (muB μ Bf) H') (muB μ Bf) H' (.wh j) val:=by
 have kind:∀ {F':Frm T} {Bf H'},Fin F F' μ pin H bl Bf H'->refsOK bl (.own j)=true->∃ t l,H' j=.data t l:=by
  intro F' Bf H' hf hr
  simp only [refsOK] at hr
  cases hk:kindIn bl j with
  | none=>simp [hk] at hr
  | some s =>
   have:=hf.kin j s hk
   cases s <;> simp only [hk,Bool.false_eq_true] at hr
   obtain ⟨l,hl⟩:=this
   exact ⟨_,l,hl⟩
 cases x <;> simp only [packOwn,reduceCtorEq] at h
 case c u =>
  obtain ⟨h1,h2⟩:=cond_some h
  obtain ⟨B',hK,he,hb⟩:=bindB_ok h2
  refine ⟨B',hK,he,λF' Bf H' he' hf hr=>?_⟩
  simp only [RelV] at hx ⊢
  obtain ⟨t,l,hl⟩:=kind hf hr
  have h3:=hf.src j (by simp [hl])
  unfold From at h3
  rw [he'.m j _ hb] at h3
  obtain ⟨_,⟨t',h3⟩ | ⟨_,h3⟩ | ⟨_,_,_,_,h3⟩⟩:=h3
  rotate_left
  ·rw [hl] at h3;cases h3
  ·rw [hl] at h3;cases h3
  refine ⟨t',[],h3,.inr ⟨?_,rfl,by rw [hx,isNilSl_ok h1]⟩⟩
  unfold muB
  rw [he'.m j _ hb]
 case wh b =>
  obtain ⟨B',hK,he,hb⟩:=bindB_ok h
  refine ⟨B',hK,he,λF' Bf H' he' hf hr=>?_⟩
  simp only [RelV] at hx ⊢
  obtain ⟨t,l,hl,hv⟩:=hx
  obtain ⟨t',l',hl'⟩:=kind hf hr
  have h3:=hf.src j (by simp [hl'])
  unfold From at h3
  rw [he'.m j _ hb] at h3
  obtain ⟨t2,l2,h4,h5,h6⟩:=h3.2.1 t l hl
  refine ⟨t2,l2,h4,?_⟩
  rw [muB_of he' hb,h5,h6]
  rcases hv with hv | ⟨h7,h8,h9⟩
  ·exact .inl hv
  ·exact .inr ⟨h7,by rw [h8] at h6;exact List.length_eq_zero_iff.1 h6,h9⟩
theorem packWin_ok {x:AV} {j:Nat} {B:Bd} {K:Nat×Nat->Bd->Option α} {val:Value} (hx:RelV w (Not F μ H) μ H x val) (h:packWin H x j B K=some r) :
  ∃ p B',K p B'=some r/\Ext B B'/\∀ (F':Frm T) Bf H',Ext B' Bf->Fin F F' μ pin H bl Bf H'->refsOK bl (.win j)=true->RelV w (Not F' (muB μ Bf) H') (muB μ Bf) H' (.win j p.1 p.2) val:=by
 have kind:∀ {F':Frm T} {Bf H'},Fin F F' μ pin H bl Bf H'->refsOK bl (.win j)=true->∃ t l,H' j=.data t l:=by
  intro F' Bf H' hf hr
  simp only [refsOK] at hr
  cases hk:kindIn bl j with
  | none=>simp [hk] at hr
  | some s =>
   have:=hf.kin j s hk
   cases s <;> simp only [hk,Bool.false_eq_true] at hr
   obtain ⟨l,hl⟩:=this
   exact ⟨_,l,hl⟩
 cases x <;> simp only [packWin,reduceCtorEq] at h
 case win b lo n =>
  obtain ⟨B',hK,he,hb⟩:=bindB_ok h
  refine ⟨(lo,n),B',hK,he,λF' Bf H' he' hf hr=>?_⟩
  simp only [RelV] at hx ⊢
  obtain ⟨t,l,hl,hv⟩:=hx
  obtain ⟨t',l',hl'⟩:=kind hf hr
  have h3:=hf.src j (by simp [hl'])
  unfold From at h3
  rw [he'.m j _ hb] at h3
  obtain ⟨t2,l2,h4,h5,h6⟩:=h3.2.1 t l hl
  refine ⟨t2,l2,h4,by rw [h6];exact hv.1,?_⟩
  rw [muB_of he' hb,h5,h6]
  rcases hv with ⟨hle,hv | ⟨h7,h8,h9⟩⟩
  ·exact .inl hv
  ·exact .inr ⟨h7,by rw [h8] at h6;exact List.length_eq_zero_iff.1 h6,h9⟩
 case wh b =>
  simp only [RelV] at hx
  obtain ⟨t,l,hl,hv⟩:=hx
  simp only [hl] at h
  obtain ⟨B',hK,he,hb⟩:=bindB_ok h
  refine ⟨(0,l.length),B',hK,he,λF' Bf H' he' hf hr=>?_⟩
  obtain ⟨t',l',hl'⟩:=kind hf hr
  have h3:=hf.src j (by simp [hl'])
  unfold From at h3
  rw [he'.m j _ hb] at h3
  obtain ⟨t2,l2,h4,hs2,hl2⟩:=h3.2.1 t l hl
  simp only [RelV]
  refine ⟨t2,l2,h4,by omega,?_⟩
  rw [muB_of he' hb,hs2,hl2]
  have hn2:l=[]->l2=[]:=λe=>by rw [e] at hl2;exact List.length_eq_zero_iff.1 hl2
  rcases hv with ⟨g,c,h1,h2,h5,h6⟩ | ⟨h1,h2,h5⟩
  ·exact .inl ⟨g,c,0,h1,by rw [h2];rfl,h5,h6,.inl (by simp)⟩
  ·exact .inr ⟨h1,hn2 h2,by rw [h5]⟩
theorem packMp_ok {x:AV} {j o:Nat} {B:Bd} {K:Bool->Bd->Option α} {val:Value} (hx:RelV w (Not F μ H) μ H x val) (h:packMp x j o B K=some r) :
  ∃ p B',K p B'=some r/\Ext B B'/\∀ (F':Frm T) Bf H',Ext B' Bf->Fin F F' μ pin H bl Bf H'->refsOK bl (.mptr j o)=true->RelV w (Not F' (muB μ Bf) H') (muB μ Bf) H' (.mptr p j o) val:=by
 have kind:∀ {F':Frm T} {Bf H'},Fin F F' μ pin H bl Bf H'->refsOK bl (.mptr j o)=true->H' j≠.dead:=by
  intro F' Bf H' hf hr
  simp only [refsOK,Option.isSome_iff_exists] at hr
  obtain ⟨s,hs⟩:=hr
  exact (hf.kin j s hs).live
 cases x <;> simp only [packMp,reduceCtorEq] at h
 case ptr b o' =>
  obtain ⟨h1,h2⟩:=cond_some h
  have:=nEb h1
  subst this
  obtain ⟨B',hK,he,hb⟩:=bindB_ok h2
  refine ⟨true,B',hK,he,λF' Bf H' he' hf hr=>?_⟩
  simp only [RelV] at hx ⊢
  obtain ⟨_,g,hg,hv⟩:=hx
  exact ⟨kind hf hr,.inl ⟨trivial,g,by rw [muB_of he' hb];exact hg,hv⟩⟩
 case mptr c b o' =>
  obtain ⟨h1,h2⟩:=cond_some h
  have:=nEb h1
  subst this
  obtain ⟨B',hK,he,hb⟩:=bindB_ok h2
  refine ⟨c,B',hK,he,λF' Bf H' he' hf hr=>?_⟩
  simp only [RelV] at hx ⊢
  obtain ⟨_,hv⟩:=hx
  exact ⟨kind hf hr,by rw [muB_of he' hb];exact hv⟩
 case c u =>
  obtain ⟨h1,h2⟩:=cond_some h
  obtain ⟨B',hK,he,hb⟩:=bindB_ok h2
  refine ⟨false,B',hK,he,λF' Bf H' he' hf hr=>?_⟩
  simp only [RelV] at hx ⊢
  exact ⟨kind hf hr,.inr ⟨trivial,by rw [hx,isNilPtr_ok h1]⟩⟩
mutual
theorem packV_ok (hp:Hp F μ H nx w):∀ (v:VSh) (x:AV) (B:Bd) (K:v.den->Bd->Option α) (val:Value),RelV w (Not F μ H) μ H x val->packV H v x B K=some r ->
  ∃ p B',K p B'=some r/\Ext B B'/\∀ (F':Frm T) Bf H',Ext B' Bf->Fin F F' μ pin H bl Bf H'->refsOK bl v=true->RelV w (Not F' (muB μ Bf) H') (muB μ Bf) H' (unV v p) val
 | .i k,x,B,K,val,hx,h=>by
  cases x <;> simp only [packV,reduceCtorEq] at h
  obtain ⟨h1,h2⟩:=cond_some h
  have:=of_decide_eq_true h1
  subst this
  exact ⟨_,B,h2,Ext.refl B,λ_ _ _ _ _ _=>hx⟩
 | .u,x,B,K,val,hx,h=>by
  cases x <;> simp only [packV,reduceCtorEq] at h
  exact ⟨_,B,h,Ext.refl B,λ_ _ _ _ _ _=>hx⟩
 | .b,x,B,K,val,hx,h=>by
  cases x <;> simp only [packV,reduceCtorEq] at h
  ·exact ⟨_,B,h,Ext.refl B,λ_ _ _ _ _ _=>hx⟩
  ·exact ⟨_,B,h,Ext.refl B,λ_ _ _ _ _ _=>hx⟩
 | .s,x,B,K,val,hx,h=>by
  cases x <;> simp only [packV,reduceCtorEq] at h
  exact ⟨_,B,h,Ext.refl B,λ_ _ _ _ _ _=>hx⟩
 | .sl t,x,B,K,val,hx,h=>by
  simp only [packV] at h
  obtain ⟨p,B',hK,he,hh⟩:=packSl_ok (pin:=pin) (bl:=bl) hp hx h
  exact ⟨p,B',hK,he,λF' Bf H' h1 h2 _=>hh F' Bf H' h1 h2⟩
 | .fz t,x,B,K,val,hx,h=>by
  cases x <;> simp only [packV,packFz,reduceCtorEq] at h
  split at h
  ·rename_i ht
   subst ht
   refine ⟨_,B,h,Ext.refl B,λF' Bf H' _ hf _=>?_⟩
   simp only [unV,RelV] at hx ⊢
   exact ⟨hx.1.keep (keepRefl w) hf.not,hx.2⟩
  ·cases h
 | .ptr j o,x,B,K,val,hx,h=>by
  cases x <;> simp only [packV,reduceCtorEq] at h
  obtain ⟨h1,h2⟩:=cond_some h
  have:=nEb h1
  subst this
  obtain ⟨B',hK,he,hb⟩:=bindB_ok h2
  refine ⟨(),B',hK,he,λF' Bf H' he' hf hr=>?_⟩
  simp only [RelV,unV] at hx ⊢
  obtain ⟨hl,g,hg,hv⟩:=hx
  simp only [refsOK,Option.isSome_iff_exists] at hr
  obtain ⟨s,hs⟩:=hr
  exact ⟨(hf.kin j s hs).live,g,by rw [muB_of he' hb];exact hg,hv⟩
 | .mp j,x,B,K,val,hx,h=>by
  cases x <;> simp only [packV,reduceCtorEq] at h
  obtain ⟨B',hK,he,hb⟩:=bindB_ok h
  refine ⟨(),B',hK,he,λF' Bf H' he' hf hr=>?_⟩
  simp only [RelV,unV] at hx ⊢
  obtain ⟨hl,g,hg,hv⟩:=hx
  simp only [refsOK,Option.isSome_iff_exists] at hr
  obtain ⟨s,hs⟩:=hr
  exact ⟨(hf.kin j s hs).live,g,by rw [muB_of he' hb];exact hg,hv⟩
 | .mptr j o,x,B,K,val,hx,h=>by
  simp only [packV] at h
  obtain ⟨p,B',hK,he,hh⟩:=packMp_ok (pin:=pin) (bl:=bl) hx h
  exact ⟨p,B',hK,he,hh⟩
 | .own j,x,B,K,val,hx,h=>by
  simp only [packV] at h
  obtain ⟨B',hK,he,hh⟩:=packOwn_ok (pin:=pin) (bl:=bl) hx h
  exact ⟨(),B',hK,he,hh⟩
 | .win j,x,B,K,val,hx,h=>by
  simp only [packV] at h
  obtain ⟨p,B',hK,he,hh⟩:=packWin_ok (pin:=pin) (bl:=bl) hx h
  exact ⟨p,B',hK,he,hh⟩
 | .fn f cs,x,B,K,val,hx,h=>by
  cases x <;> simp only [packV,reduceCtorEq] at h
  obtain ⟨h1,h2⟩:=cond_some h
  have:=nEb h1
  subst this
  simp only [RelV] at hx
  obtain ⟨vs,hv,hvs⟩:=hx
  obtain ⟨p,B',hK,he,hh⟩:=packL_ok hp cs _ B K vs hvs h2
  refine ⟨p,B',hK,he,λF' Bf H' he' hf hr=>?_⟩
  simp only [unV,RelV]
  exact ⟨vs,hv,hh F' Bf H' he' hf hr⟩
 | .agg cs,x,B,K,val,hx,h=>by
  cases x <;> simp only [packV,reduceCtorEq] at h
  simp only [RelV] at hx
  obtain ⟨vs,hv,hvs⟩:=hx
  obtain ⟨p,B',hK,he,hh⟩:=packL_ok hp cs _ B K vs hvs h
  refine ⟨p,B',hK,he,λF' Bf H' he' hf hr=>?_⟩
  simp only [unV,RelV]
  exact ⟨vs,hv,hh F' Bf H' he' hf hr⟩
 | .tup cs,x,B,K,val,hx,h=>by
  cases x <;> simp only [packV,reduceCtorEq] at h
  simp only [RelV] at hx
  obtain ⟨vs,hv,hvs⟩:=hx
  obtain ⟨p,B',hK,he,hh⟩:=packL_ok hp cs _ B K vs hvs h
  refine ⟨p,B',hK,he,λF' Bf H' he' hf hr=>?_⟩
  simp only [unV,RelV]
  exact ⟨vs,hv,hh F' Bf H' he' hf hr⟩
 | .ifc t v,x,B,K,val,hx,h=>by
  cases x <;> simp only [packV,reduceCtorEq] at h
  obtain ⟨h1,h2⟩:=cond_some h
  have:=nEb h1
  subst this
  simp only [RelV] at hx
  obtain ⟨u,hv,hu⟩:=hx
  obtain ⟨p,B',hK,he,hh⟩:=packV_ok hp v _ B K u hu h2
  refine ⟨p,B',hK,he,λF' Bf H' he' hf hr=>?_⟩
  simp only [unV,RelV]
  exact ⟨u,hv,hh F' Bf H' he' hf hr⟩
 | .may _ _,x,B,K,val,hx,h=>by cases x <;> simp [packV] at h
 | .nil,x,B,K,val,hx,h=>by cases x <;> simp [packV] at h
 | .cons _ _,x,B,K,val,hx,h=>by cases x <;> simp [packV] at h
 | .nilp,x,B,K,val,hx,h=>by
  cases x <;> simp only [packV,reduceCtorEq] at h
  obtain ⟨h1,h2⟩:=cond_some h
  simp only [RelV] at hx
  exact ⟨(),B,h2,Ext.refl B,λ_ _ _ _ _ _=>by simp only [unV,RelV];rw [hx,isNilPtr_ok h1]⟩
 | .bad,x,B,K,val,hx,h=>by
  refine ⟨(),B,?_,Ext.refl B,λ_ _ _ _ _ _=>by simp [unV,RelV]⟩
  cases x <;> exact h
 | .kb y,x,B,K,val,hx,h=>by
  cases x <;> simp only [packV,reduceCtorEq] at h
  obtain ⟨h1,h2⟩:=cond_some h
  have:=eq_of_beq h1
  subst this
  exact ⟨(),B,h2,Ext.refl B,λ_ _ _ _ _ _=>hx⟩
 | .ki k n,x,B,K,val,hx,h=>by
  cases x <;> simp only [packV,reduceCtorEq] at h
  obtain ⟨h1,h2⟩:=cond_some h
  simp only [bAt,dTe] at h1
  obtain ⟨rfl,rfl⟩:=h1
  exact ⟨(),B,h2,Ext.refl B,λ_ _ _ _ _ _=>hx⟩
 | .ks l,x,B,K,val,hx,h=>by
  cases x <;> simp only [packV,reduceCtorEq] at h
  obtain ⟨h1,h2⟩:=cond_some h
  have:=of_decide_eq_true h1
  subst this
  exact ⟨(),B,h2,Ext.refl B,λ_ _ _ _ _ _=>hx⟩
theorem packL_ok (hp:Hp F μ H nx w):∀ (v:VSh) (x:List AV) (B:Bd) (K:v.den->Bd->Option α) (vals:List Value),RelVs w (Not F μ H) μ H x vals->packL H v x B K=some r ->
  ∃ p B',K p B'=some r/\Ext B B'/\∀ (F':Frm T) Bf H',Ext B' Bf->Fin F F' μ pin H bl Bf H'->refsOK bl v=true->RelVs w (Not F' (muB μ Bf) H') (muB μ Bf) H' (unL v p) vals
 | .nil,[],B,K,vals,hx,h=>by
  simp only [packL] at h
  exact ⟨(),B,h,Ext.refl B,λ_ _ _ _ _ _=>hx⟩
 | .cons v v2,x::xs,B,K,vals,hx,h=>by
  simp only [packL] at h
  simp only [RelVs] at hx
  obtain ⟨val,vr,rfl,h1,h2⟩:=hx
  obtain ⟨p,B1,hK1,he1,hh1⟩:=packV_ok hp v x B _ val h1 h
  obtain ⟨q,B2,hK2,he2,hh2⟩:=packL_ok hp v2 xs B1 _ vr h2 hK1
  refine ⟨(p,q),B2,hK2,he1.trans he2,λF' Bf H' he hf hr=>?_⟩
  simp only [refsOK,bAt] at hr
  simp only [unL,RelVs]
  exact ⟨val,vr,rfl,hh1 F' Bf H' (he2.trans he) hf hr.1,hh2 F' Bf H' he hf hr.2⟩
 | .nil,_::_,B,K,vals,hx,h=>by simp [packL] at h
 | .cons _ _,[],B,K,vals,hx,h=>by simp [packL] at h
 | .i _,x,B,K,vals,hx,h=>by cases x <;> simp [packL] at h
 | .u,x,B,K,vals,hx,h=>by cases x <;> simp [packL] at h
 | .b,x,B,K,vals,hx,h=>by cases x <;> simp [packL] at h
 | .s,x,B,K,vals,hx,h=>by cases x <;> simp [packL] at h
 | .sl _,x,B,K,vals,hx,h=>by cases x <;> simp [packL] at h
 | .ptr _ _,x,B,K,vals,hx,h=>by cases x <;> simp [packL] at h
 | .ifc _ _,x,B,K,vals,hx,h=>by cases x <;> simp [packL] at h
 | .may _ _,x,B,K,vals,hx,h=>by cases x <;> simp [packL] at h
 | .own _,x,B,K,vals,hx,h=>by cases x <;> simp [packL] at h
 | .win _,x,B,K,vals,hx,h=>by cases x <;> simp [packL] at h
 | .mp _,x,B,K,vals,hx,h=>by cases x <;> simp [packL] at h
 | .mptr _ _,x,B,K,vals,hx,h=>by cases x <;> simp [packL] at h
 | .fn _ _,x,B,K,vals,hx,h=>by cases x <;> simp [packL] at h
 | .agg _,x,B,K,vals,hx,h=>by cases x <;> simp [packL] at h
 | .tup _,x,B,K,vals,hx,h=>by cases x <;> simp [packL] at h
 | .nilp,x,B,K,vals,hx,h=>by cases x <;> simp [packL] at h
 | .bad,x,B,K,vals,hx,h=>by cases x <;> simp [packL] at h
 | .kb _,x,B,K,vals,hx,h=>by cases x <;> simp [packL] at h
 | .ki _ _,x,B,K,vals,hx,h=>by cases x <;> simp [packL] at h
 | .ks _,x,B,K,vals,hx,h=>by cases x <;> simp [packL] at h
end
end
end Go.Ev
namespace Go.Ev
open Go
section
variable {T:Tb} {F F':Frm T} {μ:Nat->Option Nat} {H:Nat->Blk} {nx:Nat} {w:World} {α:Type} {r:α} {pin:Nat} {bl:List (Nat×BSh)}
theorem pinned {j b:Nat} (h:(Nat.ble pin j||Nat.beq b j)=true):j<pin->b=j:=λhj=>by
 rw [Bool.or_eq_true] at h
 rcases h with h | h
 ·have:=Nat.le_of_ble_eq_true h;omega
 ·exact nEb h
theorem bindB_ext {B:Bd} {j:Nat} {b:Option Nat} {K:Bd->Option α} (h:bindB B j b K=some r):∃ B',K B'=some r/\Ext B B':=by
 obtain ⟨B',h1,h2,_⟩:=bindB_ok h
 exact ⟨B',h1,h2⟩
theorem nilV_ok:∀ (v:VSh) {B:Bd} {K:v.den->Bd->Option α},nilV v B K=some r->∃ q B',K q B'=some r/\Ext B B'
 | .i _,B,K,h=>⟨_,B,h,Ext.refl B⟩
 | .u,B,K,h=>⟨_,B,h,Ext.refl B⟩
 | .b,B,K,h=>⟨_,B,h,Ext.refl B⟩
 | .s,B,K,h=>⟨_,B,h,Ext.refl B⟩
 | .sl _,B,K,h=>⟨_,B,h,Ext.refl B⟩
 | .ptr _ _,B,K,h=>by obtain ⟨B',h1,h2⟩:=bindB_ext h;exact ⟨(),B',h1,h2⟩
 | .own _,B,K,h=>by obtain ⟨B',h1,h2⟩:=bindB_ext h;exact ⟨(),B',h1,h2⟩
 | .win _,B,K,h=>by obtain ⟨B',h1,h2⟩:=bindB_ext h;exact ⟨(0,0),B',h1,h2⟩
 | .mp _,B,K,h=>by obtain ⟨B',h1,h2⟩:=bindB_ext h;exact ⟨(),B',h1,h2⟩
 | .mptr _ _,B,K,h=>by obtain ⟨B',h1,h2⟩:=bindB_ext h;exact ⟨false,B',h1,h2⟩
 | .fn _ c,B,K,h=>nilV_ok c h
 | .agg c,B,K,h=>nilV_ok c h
 | .tup c,B,K,h=>nilV_ok c h
 | .ifc _ c,B,K,h=>nilV_ok c h
 | .may c _,B,K,h=>by
  obtain ⟨q,B',h1,h2⟩:=nilV_ok c h
  exact ⟨Sum.inl q,B',h1,h2⟩
 | .nil,B,K,h=>⟨_,B,h,Ext.refl B⟩
 | .cons v w,B,K,h=>by
  obtain ⟨p,B1,h1,e1⟩:=nilV_ok v h
  obtain ⟨q,B2,h2,e2⟩:=nilV_ok w h1
  exact ⟨(p,q),B2,h2,e1.trans e2⟩
 | .nilp,B,K,h=>⟨_,B,h,Ext.refl B⟩
 | .bad,B,K,h=>⟨_,B,h,Ext.refl B⟩
 | .kb _,B,K,h=>⟨_,B,h,Ext.refl B⟩
 | .ki _ _,B,K,h=>⟨_,B,h,Ext.refl B⟩
 | .ks _,B,K,h=>⟨_,B,h,Ext.refl B⟩
 | .fz _,B,K,h=>⟨_,B,h,Ext.refl B⟩
theorem packSl_cps {t:Ty} {x:AV} {B:Bd} {K:List t.den->Bd->Option α} (h:packSl H t x B K=some r):∃ q B',K q B'=some r/\Ext B B':=by
 have zext:∀ b,Ext B ⟨B.m,b::B.z,B.y⟩:=λb=>⟨λ_ _ h=>h,λ_ h=>List.mem_cons_of_mem _ h,λ_ h=>h⟩
 have yext:∀ b,Ext B ⟨B.m,b::B.z,b::B.y⟩:=λb=>⟨λ_ _ h=>h,λ_ h=>List.mem_cons_of_mem _ h,λ_ h=>List.mem_cons_of_mem _ h⟩
 unfold packSl at h
 split at h
 ·split at h
  ·obtain ⟨l,hl⟩:=items_cps h;exact ⟨_,_,hl,zext _⟩
  ·split at h
   ·obtain ⟨l,hl⟩:=items_cps h;exact ⟨_,_,hl,zext _⟩
   ·obtain ⟨l,hl⟩:=items_cps (cond_some h).2;exact ⟨l,_,hl,yext _⟩
 ·obtain ⟨l,hl⟩:=items_cps (cond_some h).2;exact ⟨l,_,hl,yext _⟩
 ·split at h
  ·exact ⟨_,B,h,Ext.refl B⟩
  ·split at h
   ·exact ⟨_,B,h,Ext.refl B⟩
   ·cases h
 ·obtain ⟨l,hl⟩:=items_cps h;exact ⟨l,_,hl,Ext.refl B⟩
mutual
theorem packV_cps:∀ (v:VSh) {x:AV} {B:Bd} {K:v.den->Bd->Option α},packV H v x B K=some r->∃ q B',K q B'=some r/\Ext B B'
 | .i k,x,B,K,h=>by
  cases x <;> simp only [packV,reduceCtorEq] at h
  exact ⟨_,B,(cond_some h).2,Ext.refl B⟩
 | .u,x,B,K,h=>by
  cases x <;> simp only [packV,reduceCtorEq] at h
  exact ⟨_,B,h,Ext.refl B⟩
 | .b,x,B,K,h=>by
  cases x <;> simp only [packV,reduceCtorEq] at h
  ·exact ⟨_,B,h,Ext.refl B⟩
  ·exact ⟨_,B,h,Ext.refl B⟩
 | .s,x,B,K,h=>by
  cases x <;> simp only [packV,reduceCtorEq] at h
  exact ⟨_,B,h,Ext.refl B⟩
 | .sl t,x,B,K,h=>by
  simp only [packV] at h
  exact packSl_cps h
 | .fz t,x,B,K,h=>by
  simp only [packV] at h
  cases x <;> simp only [packFz,reduceCtorEq] at h
  split at h
  ·exact ⟨_,B,h,Ext.refl B⟩
  ·cases h
 | .ptr j o,x,B,K,h=>by
  cases x <;> simp only [packV,reduceCtorEq] at h
  obtain ⟨B',h1,h2⟩:=bindB_ext (cond_some h).2
  exact ⟨(),B',h1,h2⟩
 | .own j,x,B,K,h=>by
  simp only [packV] at h
  cases x <;> simp only [packOwn,reduceCtorEq] at h
  ·obtain ⟨B',h1,h2⟩:=bindB_ext (cond_some h).2;exact ⟨(),B',h1,h2⟩
  ·obtain ⟨B',h1,h2⟩:=bindB_ext h;exact ⟨(),B',h1,h2⟩
 | .win j,x,B,K,h=>by
  simp only [packV] at h
  cases x <;> simp only [packWin,reduceCtorEq] at h
  ·split at h
   ·obtain ⟨B',h1,h2⟩:=bindB_ext h;exact ⟨_,B',h1,h2⟩
   ·cases h
  ·obtain ⟨B',h1,h2⟩:=bindB_ext h;exact ⟨_,B',h1,h2⟩
 | .mp j,x,B,K,h=>by
  cases x <;> simp only [packV,reduceCtorEq] at h
  obtain ⟨B',h1,h2⟩:=bindB_ext h
  exact ⟨(),B',h1,h2⟩
 | .mptr j o,x,B,K,h=>by
  simp only [packV] at h
  cases x <;> simp only [packMp,reduceCtorEq] at h
  ·obtain ⟨B',h1,h2⟩:=bindB_ext (cond_some h).2;exact ⟨_,B',h1,h2⟩
  ·obtain ⟨B',h1,h2⟩:=bindB_ext (cond_some h).2;exact ⟨_,B',h1,h2⟩
  ·obtain ⟨B',h1,h2⟩:=bindB_ext (cond_some h).2;exact ⟨_,B',h1,h2⟩
 | .fn f cs,x,B,K,h=>by
  cases x <;> simp only [packV,reduceCtorEq] at h
  exact packL_cps cs (cond_some h).2
 | .agg cs,x,B,K,h=>by
  cases x <;> simp only [packV,reduceCtorEq] at h
  exact packL_cps cs h
 | .tup cs,x,B,K,h=>by
  cases x <;> simp only [packV,reduceCtorEq] at h
  exact packL_cps cs h
 | .ifc t v,x,B,K,h=>by
  cases x <;> simp only [packV,reduceCtorEq] at h
  exact packV_cps v (cond_some h).2
 | .may _ _,x,B,K,h=>by cases x <;> simp [packV] at h
 | .nil,x,B,K,h=>by cases x <;> simp [packV] at h
 | .cons _ _,x,B,K,h=>by cases x <;> simp [packV] at h
 | .nilp,x,B,K,h=>by
  cases x <;> simp only [packV,reduceCtorEq] at h
  exact ⟨_,B,(cond_some h).2,Ext.refl B⟩
 | .bad,x,B,K,h=>by
  refine ⟨(),B,?_,Ext.refl B⟩
  cases x <;> exact h
 | .kb y,x,B,K,h=>by
  cases x <;> simp only [packV,reduceCtorEq] at h
  exact ⟨_,B,(cond_some h).2,Ext.refl B⟩
 | .ki k n,x,B,K,h=>by
  cases x <;> simp only [packV,reduceCtorEq] at h
  exact ⟨_,B,(cond_some h).2,Ext.refl B⟩
 | .ks l,x,B,K,h=>by
  cases x <;> simp only [packV,reduceCtorEq] at h
  exact ⟨_,B,(cond_some h).2,Ext.refl B⟩
theorem packL_cps:∀ (v:VSh) {x:List AV} {B:Bd} {K:v.den->Bd->Option α},packL H v x B K=some r->∃ q B',K q B'=some r/\Ext B B'
 | .nil,[],B,K,h=>⟨(),B,by simpa only [packL] using h,Ext.refl B⟩
 | .cons v v2,x::xs,B,K,h=>by
  simp only [packL] at h
  obtain ⟨p,B1,h1,e1⟩:=packV_cps v h
  obtain ⟨q,B2,h2,e2⟩:=packL_cps v2 h1
  exact ⟨(p,q),B2,h2,e1.trans e2⟩
 | .nil,_::_,B,K,h=>by simp [packL] at h
 | .cons _ _,[],B,K,h=>by simp [packL] at h
 | .i _,x,B,K,h=>by cases x <;> simp [packL] at h
 | .u,x,B,K,h=>by cases x <;> simp [packL] at h
 | .b,x,B,K,h=>by cases x <;> simp [packL] at h
 | .s,x,B,K,h=>by cases x <;> simp [packL] at h
 | .sl _,x,B,K,h=>by cases x <;> simp [packL] at h
 | .ptr _ _,x,B,K,h=>by cases x <;> simp [packL] at h
 | .own _,x,B,K,h=>by cases x <;> simp [packL] at h
 | .win _,x,B,K,h=>by cases x <;> simp [packL] at h
 | .mp _,x,B,K,h=>by cases x <;> simp [packL] at h
 | .mptr _ _,x,B,K,h=>by cases x <;> simp [packL] at h
 | .fn _ _,x,B,K,h=>by cases x <;> simp [packL] at h
 | .agg _,x,B,K,h=>by cases x <;> simp [packL] at h
 | .tup _,x,B,K,h=>by cases x <;> simp [packL] at h
 | .nilp,x,B,K,h=>by cases x <;> simp [packL] at h
 | .bad,x,B,K,h=>by cases x <;> simp [packL] at h
 | .kb _,x,B,K,h=>by cases x <;> simp [packL] at h
 | .ki _ _,x,B,K,h=>by cases x <;> simp [packL] at h
 | .ks _,x,B,K,h=>by cases x <;> simp [packL] at h
end
theorem mapB_ok {β:Type} {r:β} {B:Bd} {j:Nat} {K:Option Nat->Bd->Option β} (h:mapB pin B j K=some r):∃ o B',K o B'=some r/\Ext B B'/\findB B'.m j=some o:=by
 unfold mapB at h
 cases hf:findB B.m j with
 | some o=>simp only [hf] at h;exact ⟨o,B,h,Ext.refl B,hf⟩
 | none =>
  simp only [hf] at h
  obtain ⟨_,h2⟩:=cond_some h
  obtain ⟨B',h3,h4,h5⟩:=bindB_ok h2
  exact ⟨_,B',h3,h4,h5⟩
theorem packBlk_ok (hp:Hp F μ H nx w) {j:Nat}:∀ (s:BSh) {B:Bd} {K:s.den->Bd->Option α},packBlk pin H j s B K=some r ->
  ∃ q B',K q B'=some r/\Ext B B'/\From pin H B' j (unB s q)/\∀ (F':Frm T) Bf H',Ext B' Bf->Fin F F' μ pin H bl Bf H'->bshOK bl s=true->RelB w (Not F' (muB μ Bf) H') (muB μ Bf) H' j (unB s q)
 | .vars cs,B,K,h=>by
  simp only [packBlk] at h
  cases hf:findB B.m j with
  | none=>simp [hf] at h
  | some o =>
   cases o with
   | none =>
    simp only [hf] at h
    obtain ⟨h1,h2⟩:=cond_some h
    obtain ⟨q,B',hK,he⟩:=nilV_ok cs h2
    have hf':=he.m j _ hf
    refine ⟨q,B',hK,he,?_,λF' Bf H' he' hfin hok=>?_⟩
    ·unfold From
     rw [hf']
     exact ⟨Nat.le_of_ble_eq_true h1,.inr (.inl ⟨_,rfl⟩)⟩
    ·simp only [unB,RelB]
     refine .inl ?_
     unfold muB
     rw [he'.m j _ hf']
   | some b =>
    simp only [hf] at h
    obtain ⟨h1,h2⟩:=cond_some h
    cases hb:H b <;> simp only [hb,reduceCtorEq] at h2
    rename_i l
    have hB:=hp.blk b
    simp only [hb,RelB] at hB
    rcases hB with hB | ⟨g,vs,hg,hvs,hrow,hroom⟩
    ·obtain ⟨q,B',hK,he⟩:=packL_cps cs h2
     have hf':=he.m j _ hf
     refine ⟨q,B',hK,he,?_,λF' Bf H' he' hfin hok=>?_⟩
     ·unfold From
      rw [hf']
      exact ⟨by simp [hb],by simp [hb],λ_=>pinned h1,λ_=>by rw [hb];rfl,λh=>by cases h⟩
     ·simp only [unB,RelB]
      exact .inl (by rw [muB_of he' hf'];exact hB)
    obtain ⟨q,B',hK,he,hh⟩:=packL_ok (pin:=pin) (bl:=bl) hp cs l B K vs hvs h2
    have hf':=he.m j _ hf
    refine ⟨q,B',hK,he,?_,λF' Bf H' he' hfin hok=>?_⟩
    ·unfold From
     rw [hf']
     exact ⟨by simp [hb],by simp [hb],λ_=>pinned h1,λ_=>by rw [hb];rfl,λh=>by cases h⟩
    ·simp only [unB,RelB]
     exact .inr ⟨g,vs,by rw [muB_of he' hf'];exact hg,hh F' Bf H' he' hfin hok,hrow,hroom⟩
 | .data t,B,K,h=>by
  simp only [packBlk] at h
  cases hf:findB B.m j with
  | none=>simp [hf] at h
  | some o =>
   cases o with
   | none =>
    simp only [hf] at h
    obtain ⟨h1,h2⟩:=cond_some h
    refine ⟨[],B,h2,Ext.refl B,?_,λF' Bf H' he' hfin hok=>?_⟩
    ·unfold From
     rw [hf]
     exact ⟨Nat.le_of_ble_eq_true h1,.inl ⟨t,rfl⟩⟩
    ·simp only [unB,RelB]
     refine .inl ⟨?_,trivial⟩
     unfold muB
     rw [he'.m j _ hf]
   | some b =>
    simp only [hf] at h
    have h2:=h
    cases hb:H b <;> simp only [hb,reduceCtorEq] at h2
    rename_i t' l
    obtain ⟨l2,h2,hs2,hl2,hu2,hr2⟩:=convD_ok h2
    have hB:=hp.blk b
    simp only [hb,RelB] at hB
    refine ⟨l2,B,h2,Ext.refl B,?_,λF' Bf H' he' hfin hok=>?_⟩
    ·unfold From
     rw [hf]
     refine ⟨by simp [hb],λt3 l3 h3=>by rw [hb] at h3;cases h3;exact ⟨t,l2,rfl,hs2,hl2⟩,λht=>absurd rfl ht,λht=>absurd rfl ht,λhu=>by rw [hb];exact hu2 hu⟩
    ·simp only [unB,RelB]
     rw [muB_of he' hf]
     rcases hB with ⟨hB,h0⟩ | ⟨g,g1,g2,g3⟩
     ·exact .inl ⟨hB,List.length_eq_zero_iff.1 (by rw [hl2,h0];rfl)⟩
     ·refine .inr ⟨g,g1,by rw [hs2,hl2];exact g2,λi hi=>?_⟩
      obtain ⟨es,e1,e2,e3⟩:=g3 i (by rw [<- hl2];exact hi)
      exact ⟨es,by rw [hs2];exact e1,by rw [hs2];exact e2,(hr2 w _ i _ hi es e3).keep (keepRefl w) hfin.not⟩
 | .iter,B,K,h=>by
  simp only [packBlk] at h
  cases hf:findB B.m j with
  | none=>simp [hf] at h
  | some o =>
   cases o with
   | none=>simp [hf] at h
   | some b =>
    simp only [hf] at h
    obtain ⟨h1,h2⟩:=cond_some h
    cases hb:H b <;> simp only [hb,reduceCtorEq] at h2
    rename_i s pos
    have hB:=hp.blk b
    simp only [hb,RelB] at hB
    refine ⟨(s,pos),B,h2,Ext.refl B,?_,λF' Bf H' he' hfin hok=>?_⟩
    ·unfold From
     rw [hf]
     exact ⟨by simp [hb],by simp [hb],λ_=>pinned h1,λht=>absurd rfl ht,λh=>by cases h⟩
    ·simp only [unB,RelB]
     rw [muB_of he' hf]
     exact hB
 | .mapd kt vt ag,B0,K,h=>by
  simp only [packBlk] at h
  obtain ⟨o,B,h,he0,hf⟩:=mapB_ok h
  ·cases o with
   | none =>
    simp only at h
    obtain ⟨h1,h2⟩:=cond_some h
    refine ⟨[],B,h2,he0,?_,λF' Bf H' he' hfin hok=>?_⟩
    ·unfold From
     rw [hf]
     exact ⟨Nat.le_of_ble_eq_true h1,.inr (.inr ⟨_,_,_,_,rfl⟩)⟩
    ·simp only [unB,RelB]
     refine .inl ?_
     unfold muB
     rw [he'.m j _ hf]
   | some b =>
    simp only at h
    have h2:=h
    cases hb:H b <;> simp only [hb,reduceCtorEq] at h2
    rename_i kt' vt' ag' l
    split at h2
    ·rename_i e1
     split at h2
     ·rename_i e2
      subst e1
      subst e2
      obtain ⟨h3,h4⟩:=cond_some h2
      have:=eq_of_beq h3
      subst this
      have hB:=hp.blk b
      simp only [hb,RelB] at hB
      refine ⟨l,B,h4,he0,?_,λF' Bf H' he' hfin hok=>?_⟩
      ·unfold From
       rw [hf]
       exact ⟨by simp [hb],by simp [hb],λht=>absurd rfl ht,λht=>absurd rfl ht,λh=>by cases h⟩
      ·simp only [unB,RelB]
       rw [muB_of he' hf]
       rcases hB with hB | ⟨g,es,c,g1,g2,g3,g4⟩
       ·exact .inl hB
       exact .inr ⟨g,es,c,g1,g2,g3,g4.keep (keepRefl w) hfin.not⟩
     ·cases h2
    ·cases h2
theorem beq_ne {j k:Nat} (h:j≠k):Nat.beq j k=false:=Bool.eq_false_iff.2 λe=>h (nEb e)
theorem packBlks_ok (hp:Hp F μ H nx w):∀ (l:List (Nat×BSh)) {B:Bd} {K:blksDen l->Bd->Option α},packBlks pin H l B K=some r ->
  ∃ q B',K q B'=some r/\Ext B B'/\(∀ j,unBlks l q j≠.dead->From pin H B' j (unBlks l q j))/\(∀ j s,kindIn l j=some s->Kin s (unBlks l q j))/\(∀ j,unBlks l q j≠.dead->∃ p∈l,p.1=j) /\
   ∀ (F':Frm T) Bf H',Ext B' Bf->Fin F F' μ pin H bl Bf H'->(l.all λp=>bshOK bl p.2)=true->∀ j,RelB w (Not F' (muB μ Bf) H') (muB μ Bf) H' j (unBlks l q j)
 | [],B,K,h=>by
  simp only [packBlks] at h
  exact ⟨(),B,h,Ext.refl B,λj hj=>absurd rfl hj,λj s hs=>by simp [kindIn] at hs,λj hj=>absurd rfl hj,λ_ _ _ _ _ _ _=>by simp [unBlks,RelB]⟩
 | (j0,s0)::l,B,K,h=>by
  simp only [packBlks] at h
  obtain ⟨p,B1,hK1,he1,hf1,hr1⟩:=packBlk_ok (bl:=bl) hp s0 h
  obtain ⟨q,B2,hK2,he2,hf2,hk2,hm2,hr2⟩:=packBlks_ok hp l hK1
  refine ⟨(p,q),B2,hK2,he1.trans he2,λj hj=>?_,λj s hs=>?_,λj hj=>?_,λF' Bf H' he hfin hall j=>?_⟩
  ·simp only [unBlks] at hj ⊢
   by_cases hjj:j=j0
   ·subst hjj;rw [updH_same];exact hf1.ext he2
   ·rw [updH_other hjj] at hj ⊢; exact hf2 j hj
  ·simp only [kindIn] at hs
   simp only [unBlks]
   by_cases hjj:j=j0
   ·subst hjj
    rw [updH_same]
    simp only [Nat.beq_refl,cTt,oSi] at hs
    subst hs
    exact unB_kin _ _
   ·rw [updH_other hjj]
    simp only [beq_ne (Ne.symm hjj),cFf] at hs
    exact hk2 j s hs
  ·simp only [unBlks] at hj
   by_cases hjj:j=j0
   ·exact ⟨_,List.mem_cons_self,hjj.symm⟩
   ·rw [updH_other hjj] at hj
    obtain ⟨p,hp,e⟩:=hm2 j hj
    exact ⟨p,List.mem_cons_of_mem _ hp,e⟩
  ·simp only [List.all_cons,bAt] at hall
   simp only [unBlks]
   by_cases hjj:j=j0
   ·subst hjj;rw [updH_same];exact hr1 F' Bf H' (he2.trans he) hfin hall.1
   ·rw [updH_other hjj];exact hr2 F' Bf H' he hfin hall.2 j
theorem unV_noGd:∀ (v:VSh) (p:v.den),∀ j b x,unV v p≠.gd j b x:=by
 intro v
 induction v with
 | may v w h1 h2 =>
  intro p j b x
  show (match (p:v.den⊕w.den) with
   | .inl p=>unV v p
   | .inr p=>.pan (unV w p))≠_
  cases (show v.den⊕w.den from p) with
  | inl p=>exact h1 p j b x
  | inr p=>simp
 | _=>intro p j b x;simp [unV]
theorem packSlots_ok {S:St} {tmps:Array Value} (hp:Hp F μ S.H nx w) (hE:∀ t,RelV w (Not F μ S.H) μ S.H (S.E t) (tmps.getD t undef)):∀ (l:List (Nat×VSh)) {B:Bd} {K:slotsDen l->Bd->Option α},packSlots S l B K=some r ->
  ∃ q B',K q B'=some r/\Ext B B'/\∀ (F':Frm T) Bf H',Ext B' Bf->Fin F F' μ pin S.H bl Bf H'->(l.all λp=>refsOK bl p.2)=true->∀ t,RelV w (Not F' (muB μ Bf) H') (muB μ Bf) H' (unSlots l q t) (tmps.getD t undef)/\∀ j b x,unSlots l q t≠.gd j b x
 | [],B,K,h=>by
  simp only [packSlots] at h
  exact ⟨(),B,h,Ext.refl B,λ_ _ _ _ _ _ _=>by simp [unSlots,RelV]⟩
 | (t0,v)::l,B,K,h=>by
  simp only [packSlots] at h
  obtain ⟨p,B1,hK1,he1,hr1⟩:=packV_ok (pin:=pin) (bl:=bl) hp v _ B _ _ (hE t0) h
  obtain ⟨q,B2,hK2,he2,hr2⟩:=packSlots_ok hp hE l hK1
  refine ⟨(p,q),B2,hK2,he1.trans he2,λF' Bf H' he hfin hall t=>?_⟩
  simp only [List.all_cons,bAt] at hall
  simp only [unSlots]
  by_cases htt:t=t0
  ·subst htt;rw [upd_same];exact ⟨hr1 F' Bf H' (he2.trans he) hfin hall.1,unV_noGd v p⟩
  ·rw [upd_other htt];exact hr2 F' Bf H' he hfin hall.2 t
theorem Fin.hp {B:Bd} {H':Nat->Blk} {nx':Nat} (hp:Hp F μ H nx w) (hfin:Fin F F' μ pin H bl B H') (hb:∀ j,RelB w (Not F' (muB μ B) H') (muB μ B) H' j (H' j)) (hd:∀ j,nx'<=j->H' j=.dead)
  (far:∀ j b g,H' j≠.dead->findB B.m j=some (some b)->H b≠.dead->μ b=some g->¬ F' g) (flt:∀ g,F' g->g<w.heap.size):Hp F' (muB μ B) H' nx' w where
 blk:=hb
 lt:=λj g hl hg=>by
  obtain ⟨b,h1,h2⟩:=hfin.trk ⟨j,hl,hg⟩
  exact hp.lt b g h1 h2
 inj:=λj j' g hl hl' hg hg'=>by
  have key:∀ k,H' k≠.dead->muB μ B k=some g->∃ b,findB B.m k=some (some b)/\H b≠.dead/\μ b=some g:=λk hk hm=>by
   have h3:=hfin.src k hk
   unfold From at h3
   unfold muB at hm
   cases hf:findB B.m k with
   | none=>simp [hf] at hm
   | some o =>
    cases o with
    | none=>simp [hf] at hm
    | some b=>simp only [hf] at hm h3;exact ⟨b,rfl,h3.1,hm⟩
  obtain ⟨b,b1,b2,b3⟩:=key j hl hg
  obtain ⟨c,c1,c2,c3⟩:=key j' hl' hg'
  have:=hp.inj b c g b2 c2 b3 c3
  subst this
  exact Bd.ok_inj hfin.ok b1 c1
 dead:=hd
 apart:=λj g hl hg=>by
  have h3:=hfin.src j hl
  unfold From at h3
  unfold muB at hg
  cases hf:findB B.m j with
  | none=>simp [hf] at hg
  | some o =>
   cases o with
   | none=>simp [hf] at hg
   | some b=>simp only [hf] at hg h3;exact far j b g hl hf h3.1 hg
 flt:=flt
 tab:=hp.tab
 tapart:=λj g hl hg=>by
  obtain ⟨b,h1,h2⟩:=hfin.trk ⟨j,hl,hg⟩
  exact hp.tapart b g h1 h2
 mark:=λj g hl hg=>by
  have h3:=hfin.src j (λh=>by (rw [h] at hl;cases hl))
  unfold From at h3
  unfold muB at hg
  cases hf:findB B.m j with
  | none=>simp [hf] at hg
  | some o =>
   cases o with
   | none=>simp [hf] at hg
   | some b=>simp only [hf] at hg h3;exact hp.mark b g (h3.2.2.2.2 hl) hg
 wfm:=λj g hl hg=>by
  have h3:=hfin.src j hl
  unfold From at h3
  unfold muB at hg
  cases hf:findB B.m j with
  | none=>simp [hf] at hg
  | some o =>
   cases o with
   | none=>simp [hf] at hg
   | some b=>simp only [hf] at hg h3;exact hp.wfm b g h3.1 hg
theorem Fin.pinned {B:Bd} {H':Nat->Blk} (hfin:Fin F F' μ pin H bl B H'):∀ j,j<pin->Pin (H' j) (H j) (muB μ B j) (μ j):=by
 intro j hj ht
 have h3:=hfin.src j (λh=>ht (by rw [h];rfl))
 unfold From at h3
 unfold muB
 cases hf:findB B.m j with
 | none=>simp [hf] at h3
 | some o =>
  cases o with
  | none=>simp only [hf] at h3;omega
  | some b =>
   simp only [hf] at h3 ⊢
   obtain ⟨_,_,h4,h5,_⟩:=h3
   have:=h4 ht hj
   subst this
   exact ⟨h5 ht,rfl⟩
structure Shaped {T:Tb} (F:Frm T) (pin:Nat) (μ:Nat->Option Nat) (S:St) (w:World) (μ':Nat->Option Nat) (S':St):Prop where
 hp:Hp F μ' S'.H S'.nx w
 trk:∀ g,Trk μ' S'.H g->Trk μ S.H g
 pinned:∀ j,j<pin->Pin (S'.H j) (S.H j) (μ' j) (μ j)
 le:pin<=S'.nx
theorem pack_ok {S:St} {a:Act} {sh:Shape} {K:sh.den->Option α} (hr:Rg F μ [] S a w) (h:pack pin sh S K=some r) :
  ∃ p μ',K p=some r/\Shaped F pin μ S w μ' (unpack sh p)/\Rg F μ' [] (unpack sh p) a w:=by
 unfold pack at h
 obtain ⟨hok,h1⟩:=cond_some h
 simp only [shapeOK,bAt] at hok
 obtain ⟨⟨hpin,hslots⟩,hblks⟩:=hok
 have hE:∀ t,RelV w (Not F μ S.H) μ S.H (S.E t) (a.tmps.getD t undef):=λt=>by
  have:=hr.e t
  cases hE:S.E t <;> simp only [hE] at this ⊢ <;> first | exact this | simp [RelV]
 obtain ⟨p,B1,hK1,he1,hr1⟩:=packSlots_ok (pin:=pin) (bl:=sh.blks) hr.hp hE sh.slots h1
 obtain ⟨q,B2,hK2,he2,hf2,hk2,hm2,hr2⟩:=packBlks_ok (bl:=sh.blks) hr.hp sh.blks hK1
 obtain ⟨hB,hK3⟩:=cond_some hK2
 have hfin:Fin F F μ pin S.H sh.blks B2 (unBlks sh.blks q):=⟨hB,hf2,hk2,λ_ h=>.inl h,λ_ h=>.inl h,λb g _ hl hm hh=>hr.hp.apart b g hl hm (F.le g hh),λb g _ hl hm=>hr.hp.apart b g hl hm,rfl,rfl⟩
 have hall:(sh.blks.all λp=>bshOK sh.blks p.2)=true:=by
  simp only [blksOK,List.all_eq_true,bAt] at hblks ⊢
  exact λp hp=>(hblks p hp).2
 have hhp:Hp F (muB μ B2) (unBlks sh.blks q) sh.nx w:=hfin.hp hr.hp (λj=>hr2 F B2 _ (Ext.refl B2) hfin hall j) (λj hj=>by
  cases hd:unBlks sh.blks q j with
  | dead=>rfl
  | _ =>
   all_goals
    obtain ⟨p,hp,e⟩:=hm2 j (by simp [hd])
    simp only [blksOK,List.all_eq_true,bAt] at hblks
    have:=Nat.le_of_ble_eq_true (hblks p hp).1
    omega) (λ_ b g _ _ hl hm=>hr.hp.apart b g hl hm) hr.hp.flt
 have hrel:=λt=>hr1 F B2 (unBlks sh.blks q) he2 hfin hslots t
 refine ⟨(p,q),muB μ B2,hK3,⟨hhp,λg=>hfin.trk,hfin.pinned,Nat.le_of_ble_eq_true hpin⟩,hhp,λt=>?_,λt j b x hE=>absurd hE ((hrel t).2 j b x)⟩
 obtain ⟨h1,h2⟩:=hrel t
 show (match unSlots sh.slots p t with
  | .gd j b x=>_
  | x=>RelV w _ _ _ x (a.tmps.getD t undef))
 cases hu:unSlots sh.slots p t <;> rw [hu] at h1 h2 <;> first | exact h1 | exact absurd rfl (h2 _ _ _)
end
end Go.Ev
namespace Go.Ev
open Go
def exOf:Ex->Exit
 | .normal=>.normal
 | .exit id=>.exit id
 | .ret=>.ret
 | .pan=>.ret
def XR (ex:Ex) (e:Exit) (a' av:Act):Prop :=
 match ex with
 | .pan=>e=.panic [{ v:=av.tmps.getD 0 undef,recovered:=false }]/\a'.defers=av.defers
 | ex=>e=exOf ex/\a'=av
def isLeaf:HT->Bool
 | .leaf=>true
 | _=>false
structure CP (lf:Bool) {T:Tb} (F:Frm T) (pin:Nat) (μ:Nat->Option Nat) (S:St) (w:World) (a:Act) (μ':Nat->Option Nat) (S':St) (w':World) (a':Act):Prop where
 chg:Chg (Trk μ S.H) w w'
 new:∀ g,Trk μ' S'.H g->Trk μ S.H g\/w.heap.size<=g
 pinned:∀ j,j<pin->Pin (S'.H j) (S.H j) (μ' j) (μ j)
 le:pin<=S'.nx
 rg:Rg F μ' [] S' a' w'
 size:a'.tmps.size=a.tmps.size
 defers:a'.defers=a.defers
 pl:lf=true->∃ kl,S'.kl=S.kl++kl/\Pl F μ S.H S.nx w kl μ' S'.H S'.nx w'
section
variable {P:Program} {F:Frm (tabsOf P)} {μ μ' μ'':Nat->Option Nat} {S S' S'':St} {w w' w'':World} {a a' a'':Act} {α:Type} {r:α} {M:FuncId->Bool} {pin:Nat} {lf lf':Bool}
theorem CP.refl (hr:Rg F μ [] S a w) (hp:pin<=S.nx):CP lf F pin μ S w a μ S w a :=
 ⟨Chg.refl w,λ_ h=>.inl h,λ_ _=>Pin.refl _ _,hp,hr,rfl,rfl,λ_=>⟨[],by simp,Pl.refl hr.hp⟩⟩
theorem CP.trans (h:CP lf F pin μ S w a μ' S' w' a') (h':CP lf F pin μ' S' w' a' μ'' S'' w'' a''):CP lf F pin μ S w a μ'' S'' w'' a'' where
 chg:=h.chg.trans h'.chg λg hg ht=>(h.new g ht).resolve_right (by omega)
 new:=λg hg=>by
  rcases h'.new g hg with h1 | h1
  ·exact h.new g h1
  ·exact .inr (Nat.le_trans h.chg.size h1)
 pinned:=λj hj=>(h'.pinned j hj).trans (h.pinned j hj)
 le:=h'.le
 rg:=h'.rg
 size:=h'.size.trans h.size
 defers:=h'.defers.trans h.defers
 pl:=λhl=>by
  obtain ⟨kl,k1,k2⟩:=h.pl hl
  obtain ⟨kl',k3,k4⟩:=h'.pl hl
  exact ⟨kl++kl',by rw [k3,k1,lAs],k2.trans k4⟩
theorem CP.weak (h:CP lf F pin μ S w a μ' S' w' a') (hl:lf'=true->lf=true):CP lf' F pin μ S w a μ' S' w' a' :=
 ⟨h.chg,h.new,h.pinned,h.le,h.rg,h.size,h.defers,λhh=>h.pl (hl hh)⟩
theorem CP.shaped (hs:Shaped F pin μ S w μ' S') (hr:Rg F μ' [] S' a w):CP false F pin μ S w a μ' S' w a :=
 ⟨Chg.refl w,λg h=>.inl (hs.trk g h),hs.pinned,hs.le,hr,rfl,rfl,λh=>by cases h⟩
theorem CP.of_post {done':List Nat} (hpin:pin<=S.nx) (h:Post F μ S w a done' S' w' a'):∃ μ',CP true F pin μ S w a μ' ⟨λt=>noGd (S'.E t),S'.H,S'.nx,S'.kl⟩ w' a':=by
 obtain ⟨⟨μ',kl,h1,h2,h3⟩,h4,h5⟩:=h
 refine ⟨μ',h2.chg,h2.new,λj hj=>h2.pin j (Nat.lt_of_lt_of_le hj hpin),Nat.le_trans hpin h2.mono,⟨h3.hp,λt=>?_,λt j b x hE=>absurd hE (noGd_ne _ j b x)⟩,h4,h5,λ_=>⟨kl,h1,h2⟩⟩
 have he:=h3.e t
 show (match noGd (S'.E t) with
  | .gd j b x=>_
  | x=>RelV w' _ _ _ x (a'.tmps.getD t undef))
 cases hE:S'.E t <;> simp only [hE] at he <;> first | exact he | simp [noGd,RelV]
theorem CP.of_ppost {x:AV} {val:Value} (hpin:pin<=S.nx) (h1:1<=a.tmps.size) (h:PPost F μ S.H S.nx S.kl w a x S' w' a' val) :
  ∃ μ',CP true F pin μ S w a μ' ⟨upd (λ_=>.bad) 0 (noGd x),S'.H,S'.nx,S'.kl⟩ w' (a.put (some 0) val)/\(a.put (some 0) val).tmps.getD 0 undef=val:=by
 obtain ⟨⟨μ',kl,h2,h3,h4,h5⟩,_⟩:=h
 have hg:(a.put (some 0) val).tmps.getD 0 undef=val:=by
  simp only [Act.put]
  rw [getD_set (by omega),if_pos rfl]
 have hng:∀ t j b y,upd (λ_=>AV.bad) 0 (noGd x) t≠.gd j b y:=λt j b y=>by
  by_cases ht:t=0
  ·subst ht;rw [upd_same];exact noGd_ne _ _ _ _
  ·rw [upd_other ht];simp
 refine ⟨μ',⟨h3.chg,h3.new,λj hj=>h3.pin j (Nat.lt_of_lt_of_le hj hpin),Nat.le_trans hpin h3.mono,⟨h4,λt=>?_,λt j b y hE=>absurd hE (hng t j b y)⟩,Act.put_size _ _ _,Act.put_defers' _ _ _,λ_=>⟨kl,h2,h3⟩⟩,hg⟩
 have hr:RelV w' (Not F μ' S'.H) μ' S'.H (upd (λ_=>AV.bad) 0 (noGd x) t) ((a.put (some 0) val).tmps.getD t undef):=by
  by_cases ht:t=0
  ·subst ht;rw [upd_same,hg];exact noGd_rel h5
  ·rw [upd_other ht];simp [RelV]
 have hn:=hng t
 show (match upd (λ_=>AV.bad) 0 (noGd x) t with
  | .gd j b y=>_
  | y=>RelV w' _ _ _ y _)
 cases hE:upd (λ_=>AV.bad) 0 (noGd x) t <;> rw [hE] at hr hn <;> first | exact hr | exact absurd rfl (hn _ _ _)
def EvOK (P:Program) (C:Calling) (M:FuncId->Bool) (pin n:Nat) (c:Code) (h:HT):Prop :=
 ∀ (S:St) (α:Type) (K:Ex->St->Option α) (r:α),ev P C M pin n c h S K=some r->∀ (F:Frm (tabsOf P)) μ w a,n=a.tmps.size->pin<=S.nx->Rg F μ [] S a w ->
  c.wp P (λe a' w'=>∃ ex S' μ' av,XR ex e a' av/\K ex S'=some r/\CP (isLeaf h) F pin μ S w a μ' S' w' av) a w
def JOK (P:Program) (C:Calling) (M:FuncId->Bool) (pin n:Nat) (c:Code) (h:HT):Prop :=
 ∀ (S:St) (α:Type) (K:Ex->St->Option α) (r:α),joined pin h (λh=>ev P C M pin n c h S) K=some r->∀ (F:Frm (tabsOf P)) μ w a,n=a.tmps.size->pin<=S.nx->Rg F μ [] S a w ->
  c.wp P (λe a' w'=>∃ ex S' μ' av,XR ex e a' av/\K ex S'=some r/\CP (isLeaf h) F pin μ S w a μ' S' w' av) a w
theorem eqEx_eq:∀ {x y:Ex},eqEx x y=true->x=y
 | .normal,.normal,_=>rfl
 | .ret,.ret,_=>rfl
 | .pan,.pan,_=>rfl
 | .exit _,.exit _,h=>by rw [nEb h]
 | .normal,.ret,h=>by cases h
 | .normal,.exit _,h=>by cases h
 | .normal,.pan,h=>by cases h
 | .ret,.normal,h=>by cases h
 | .ret,.exit _,h=>by cases h
 | .ret,.pan,h=>by cases h
 | .exit _,.normal,h=>by cases h
 | .exit _,.ret,h=>by cases h
 | .exit _,.pan,h=>by cases h
 | .pan,.normal,h=>by cases h
 | .pan,.ret,h=>by cases h
 | .pan,.exit _,h=>by cases h
theorem packOuts_ok {ex:Ex} (hr:Rg F μ [] S a w):∀ (o:Outs) {K:outsDen o->Option α},packOuts pin S ex o K=some r ->
  ∃ (q:outsDen o) (S':St) (μ':Nat->Option Nat),K q=some r/\(∀ (β:Type) (K':Ex->St->Option β),unOuts o q K'=K' ex S')/\Shaped F pin μ S w μ' S'/\Rg F μ' [] S' a w
 | [],K,h=>by simp [packOuts] at h
 | [(e,s)],K,h=>by
  simp only [packOuts] at h
  obtain ⟨h1,h2⟩:=cond_some h
  obtain ⟨p,μ',h3,h4,h5⟩:=pack_ok hr h2
  exact ⟨p,_,μ',h3,λβ K'=>by rw [<- eqEx_eq h1];rfl,h4,h5⟩
 | (e,s)::y::o,K,h=>by
  simp only [packOuts] at h
  cases he:eqEx e ex with
  | true =>
   simp only [he,cTt] at h
   obtain ⟨p,μ',h3,h4,h5⟩:=pack_ok hr h
   exact ⟨.inl p,_,μ',h3,λβ K'=>by rw [<- eqEx_eq he];rfl,h4,h5⟩
  | false =>
   simp only [he,cFf] at h
   obtain ⟨q,S',μ',h3,h4,h5,h6⟩:=packOuts_ok hr (y::o) h
   exact ⟨.inr q,S',μ',h3,λβ K'=>h4 β K',h5,h6⟩
def strip:HT->HT
 | .join _ h=>h
 | h=>h
theorem joined_ok {C:Calling} {n:Nat} {c:Code} {h:HT} (hok:EvOK P C M pin n c (strip h)):JOK P C M pin n c h:=by
 intro S α K r he F μ w a hn hp hr
 cases h with
 | join o h =>
  simp only [joined] at he
  cases hq:(ev P C M pin n c h S λex S=>packOuts pin S ex o some) with
  | none=>simp [hq] at he
  | some q =>
   simp only [hq,oBs] at he
   refine wp_mono (hok S _ _ _ hq F μ w a hn hp hr) λe a' w' ⟨ex,S',μ',av,h1,h2,h3⟩=>?_
   obtain ⟨q',S2,μ2,h4,h5,h6,h7⟩:=packOuts_ok h3.rg o h2
   cases h4
   exact ⟨ex,S2,μ2,av,h1,by rw [<- h5 α K];exact he,(h3.weak (λh=>by cases h)).trans (CP.shaped h6 h7)⟩
 | _=>exact hok S α K r he F μ w a hn hp hr
structure LoopRec where
 c:Code
 h:HT
 sh:Shape
 o:Outs
 run:sh.den->Option (outsDen o)
def SemOK (P:Program) (pin n:Nat) (c:Code) (sh:Shape) (o:Outs) (run:sh.den->Option (outsDen o)):Prop :=
 ∀ (p:sh.den) (q:outsDen o),run p=some q->∀ (F:Frm (tabsOf P)) μ w a,n=a.tmps.size->pin<=sh.nx->Rg F μ [] (unpack sh p) a w ->
  c.wp P (λe a' w'=>∃ ex S' μ' av,XR ex e a' av/\(∀ (β:Type) (K:Ex->St->Option β),unOuts o q K=K ex S')/\CP false F pin μ (unpack sh p) w a μ' S' w' av) a w
def LoopRec.OK (P:Program) (C:Calling) (M:FuncId->Bool) (pin n:Nat) (l:LoopRec):Prop :=
 match l.h with
 | .loop _ _ _ _=>SemOK P pin n l.c l.sh l.o l.run
 | _=>∀ p r,l.run p=some r->∃ m,iter (round P C M pin n l.c l.h l.sh l.o) m p=some r
theorem LoopRec.OK.iter {C:Calling} {n:Nat} {l:LoopRec} (h:l.OK P C M pin n) (hn:isLoopH l.h=false):∀ p r,l.run p=some r->∃ m,Go.Ev.iter (round P C M pin n l.c l.h l.sh l.o) m p=some r:=by
 unfold LoopRec.OK at h
 cases hh:l.h <;> simp only [hh] at h hn ⊢ <;> first | exact h | cases hn
def loopsIn:Code->HT->List LoopRec
 | .seq a b,h=>match h with
  | .loop sh o run h'=>[⟨.seq a b,.loop sh o run h',sh,o,run⟩]
  | h=>loopsIn a (strip h.fst)++loopsIn b (strip h.snd)
 | .cond _ a b,h=>loopsIn a (strip h.fst)++loopsIn b (strip h.snd)
 | .block id c,h=>match h with
  | .loop sh o run h'=>[⟨.block id c,.loop sh o run h',sh,o,run⟩]
  | h=>loopsIn c (strip h.fst)
 | .scope c,h=>loopsIn c (strip h.fst)
 | .loop c,.loop sh o run h=>⟨c,h,sh,o,run⟩::loopsIn c (strip h)
 | _,_=>[]
theorem wp_loop_n {c:Code} {Q:Exit->Act->World->Prop} (I:Nat->Act->World->Prop) (h0:∀ a w,¬ I 0 a w)
  (round:∀ m a w,I (m+1) a w->c.wp P (Exit.then (λa' w'=>I m a' w') Q) a w) (m:Nat) (h:I m a w):(Code.loop c).wp P Q a w:=by
 intro b k cs
 have key:∀ m a w,I m a w->∃ e a' w',Q e a' w'/\Arrives P (lone (b.at a (.code c::.inLoop c::k)) cs w) b k cs e a' w':=by
  intro m
  induction m with
  | zero=>exact λa w h=>absurd h (h0 a w)
  | succ m ih =>
   intro a w hI
   obtain ⟨e,a₁,w₁,hq,harr⟩:=round m a w hI b (.inLoop c::k) cs
   cases e with
   | normal =>
    obtain ⟨e₂,a₂,w₂,hq₂,harr₂⟩:=ih a₁ w₁ hq
    exact ⟨e₂,a₂,w₂,hq₂,.of_steps (Steps.trans harr (.one step_inLoop)) harr₂⟩
   | exit id=>exact ⟨_,a₁,w₁,hq,.pass (x:=.inLoop c) rfl (λ_ _=>.inl (by simp)) harr⟩
   | goto l=>exact ⟨_,a₁,w₁,hq,.pass (x:=.inLoop c) rfl (λ_ _=>.inl (by simp)) harr⟩
   | ret=>exact ⟨_,a₁,w₁,hq,.pass (x:=.inLoop c) rfl (λ_ _=>.inl (by simp)) harr⟩
   | panic ch=>exact ⟨_,a₁,w₁,hq,.pass (x:=.inLoop c) rfl (λ_ _=>.inl (by simp)) harr⟩
   | outgrown=>exact ⟨_,a₁,w₁,hq,.pass (x:=.inLoop c) rfl (λ_ _=>.inl (by simp)) harr⟩
 obtain ⟨e,a',w',hq,harr⟩:=key m a w h
 exact ⟨e,a',w',hq,.of_steps (.one step_loop) harr⟩
theorem leaf_fst {h:HT} (hl:isLeaf h=true):isLeaf h.fst=true:=by cases h <;> first | rfl | cases hl
theorem leaf_snd {h:HT} (hl:isLeaf h=true):isLeaf h.snd=true:=by cases h <;> first | rfl | cases hl
theorem ev_ok (hm:P.follows .mixedOrders=true) {C:Calling} (hC:CallOK P C M) {n:Nat}:∀ (c:Code) (h:HT),(∀ x∈loopsIn c h,x.OK P C M pin n)->EvOK P C M pin n c h
 | .skip,h,_=>by
  intro S α K r he F μ w a hn hp hr
  simp only [ev] at he
  exact wp_skip ⟨.normal,S,μ,_,⟨rfl,rfl⟩,he,CP.refl hr hp⟩
 | .exit id,h,_=>by
  intro S α K r he F μ w a hn hp hr
  simp only [ev] at he
  exact wp_exit ⟨.exit id,S,μ,_,⟨rfl,rfl⟩,he,CP.refl hr hp⟩
 | .ret,h,_=>by
  intro S α K r he F μ w a hn hp hr
  simp only [ev] at he
  exact wp_ret ⟨.ret,S,μ,_,⟨rfl,rfl⟩,he,CP.refl hr hp⟩
 | .region id ops draw,h,_=>by
  intro S α K r he F μ w a hn hp hr
  simp only [ev] at he
  cases hts:turnsOf P M ops draw with
  | none=>simp [hts] at he
  | some ts =>
   simp only [hts] at he
   rw [hn] at he
   refine evRegion_ok hm hC hr hts he (λc a1 a2 w1 hd h=>?_) (λx S' w' a' val hK hpp=>?_) λS' w' a' done' hK hpost=>?_
   ·obtain ⟨ex,S',μ',av,h1,h2⟩:=h
    cases ex with
    | pan=>exact ⟨.pan,S',μ',av,⟨h1.1,hd.trans h1.2⟩,h2⟩
    | normal=>exact absurd h1.1 (by simp [exOf])
    | exit id=>exact absurd h1.1 (by simp [exOf])
    | ret=>exact absurd h1.1 (by simp [exOf])
   ·obtain ⟨h1,h2⟩:=cond_some hK
    obtain ⟨μ',hcp,hg⟩:=CP.of_ppost hp (Nat.le_of_ble_eq_true h1) hpp
    exact ⟨.pan,_,μ',_,⟨by rw [hg],hpp.defers.trans (Act.put_defers' _ _ _).symm⟩,h2,hcp.weak λ_=>rfl⟩
   ·obtain ⟨μ',hcp⟩:=CP.of_post hp hpost
    exact ⟨.normal,_,μ',_,⟨rfl,rfl⟩,hK,hcp.weak λ_=>rfl⟩
 | .seq x y,h,hl=>by
  intro S α K r he F μ w a hn hp hr
  by_cases hlo:∃ sh o run h',h=.loop sh o run h'
  ·obtain ⟨sh,o,run,h',rfl⟩:=hlo
   simp only [ev] at he
   have hs:SemOK P pin n (.seq x y) sh o run:=hl ⟨.seq x y,.loop sh o run h',sh,o,run⟩ (by simp [loopsIn])
   obtain ⟨p,μ1,h1,h2,h3⟩:=pack_ok hr he
   cases hrun:run p with
   | none=>simp [hrun] at h1
   | some q =>
    simp only [hrun,oBs] at h1
    refine wp_mono (hs p q hrun F μ1 w a hn h2.le h3) λe a' w' ⟨ex,S',μ',av,g1,g2,g3⟩=>?_
    exact ⟨ex,S',μ',av,g1,by rw [<- g2 α K];exact h1,(CP.shaped h2 h3).trans g3⟩
  have he:(joined pin h.fst (λh=>ev P C M pin n x h S) λex S'=>match ex with
   | .normal=>joined pin h.snd (λh=>ev P C M pin n y h S') K
   | ex=>K ex S')=some r:=by
   cases h <;> first | exact absurd ⟨_,_,_,_,rfl⟩ hlo | exact he
  have hll:loopsIn (.seq x y) h=loopsIn x (strip h.fst)++loopsIn y (strip h.snd):=by
   cases h <;> first | exact absurd ⟨_,_,_,_,rfl⟩ hlo | rfl
  have hx:=joined_ok (ev_ok hm hC x (strip h.fst) λz hz=>hl z (by rw [hll];simp [hz]))
  have hy:=joined_ok (ev_ok hm hC y (strip h.snd) λz hz=>hl z (by rw [hll];simp [hz]))
  refine wp_seq (wp_mono (hx S α _ r he F μ w a hn hp hr) λe a' w' ⟨ex,S',μ',av,h1,h2,h3⟩=>?_)
  have h3':CP (isLeaf h) F pin μ S w a μ' S' w' av:=h3.weak leaf_fst
  cases ex with
  | normal =>
   obtain ⟨rfl,rfl⟩:=h1
   refine wp_mono (hy S' α K r h2 F μ' w' a' (hn.trans h3.size.symm) h3.le h3.rg) λe2 a2 w2 ⟨ex2,S2,μ2,av2,g1,g2,g3⟩=>?_
   exact ⟨ex2,S2,μ2,av2,g1,g2,h3'.trans (g3.weak leaf_snd)⟩
  | exit id=>obtain ⟨rfl,rfl⟩:=h1;exact ⟨.exit id,S',μ',_,⟨rfl,rfl⟩,h2,h3'⟩
  | ret=>obtain ⟨rfl,rfl⟩:=h1;exact ⟨.ret,S',μ',_,⟨rfl,rfl⟩,h2,h3'⟩
  | pan=>obtain ⟨rfl,hd⟩:=h1;exact ⟨.pan,S',μ',_,⟨rfl,hd⟩,h2,h3'⟩
 | .cond c x y,h,hl=>by
  intro S α K r he F μ w a hn hp hr
  simp only [ev] at he
  have hx:=joined_ok (ev_ok hm hC x (strip h.fst) λz hz=>hl z (by simp [loopsIn,hz]))
  have hy:=joined_ok (ev_ok hm hC y (strip h.snd) λz hz=>hl z (by simp [loopsIn,hz]))
  have hX:joined pin h.fst (λh=>ev P C M pin n x h S) K=some r->x.wp P (λe a' w'=>∃ ex S' μ' av,XR ex e a' av/\K ex S'=some r/\CP (isLeaf h) F pin μ S w a μ' S' w' av) a w:=λhe =>
   wp_mono (hx S α K r he F μ w a hn hp hr) λe a' w' ⟨ex,S',μ',av,h1,h2,h3⟩=>⟨ex,S',μ',av,h1,h2,h3.weak leaf_fst⟩
  have hY:joined pin h.snd (λh=>ev P C M pin n y h S) K=some r->y.wp P (λe a' w'=>∃ ex S' μ' av,XR ex e a' av/\K ex S'=some r/\CP (isLeaf h) F pin μ S w a μ' S' w' av) a w:=λhe =>
   wp_mono (hy S α K r he F μ w a hn hp hr) λe a' w' ⟨ex,S',μ',av,h1,h2,h3⟩=>⟨ex,S',μ',av,h1,h2,h3.weak leaf_snd⟩
  have hc:=(opd_ok hr.e c).rel
  cases hcv:opd S.E c <;> simp only [hcv,reduceCtorEq] at he hc
  case b q =>
   simp only [RelV] at hc
   cases q with
   | true=>exact wp_cond_true hc (hX he)
   | false=>exact wp_cond_false hc (hY he)
  case kb q =>
   simp only [RelV] at hc
   cases q with
   | true=>exact wp_cond_true hc (hX he)
   | false=>exact wp_cond_false hc (hY he)
 | .block id c,h,hl=>by
  intro S α K r he F μ w a hn hp hr
  by_cases hlo:∃ sh o run h',h=.loop sh o run h'
  ·obtain ⟨sh,o,run,h',rfl⟩:=hlo
   simp only [ev] at he
   have hs:SemOK P pin n (.block id c) sh o run:=hl ⟨.block id c,.loop sh o run h',sh,o,run⟩ (by simp [loopsIn])
   obtain ⟨p,μ1,h1,h2,h3⟩:=pack_ok hr he
   cases hrun:run p with
   | none=>simp [hrun] at h1
   | some q =>
    simp only [hrun,oBs] at h1
    refine wp_mono (hs p q hrun F μ1 w a hn h2.le h3) λe a' w' ⟨ex,S',μ',av,g1,g2,g3⟩=>?_
    exact ⟨ex,S',μ',av,g1,by rw [<- g2 α K];exact h1,(CP.shaped h2 h3).trans g3⟩
  have he:(joined pin h.fst (λh=>ev P C M pin n c h S) λex S'=>match ex with
   | .exit id'=>cond (Nat.beq id' id) (K .normal S') (K (.exit id') S')
   | ex=>K ex S')=some r:=by
   cases h <;> first | exact absurd ⟨_,_,_,_,rfl⟩ hlo | exact he
  have hll:loopsIn (.block id c) h=loopsIn c (strip h.fst):=by
   cases h <;> first | exact absurd ⟨_,_,_,_,rfl⟩ hlo | rfl
  have hx:=joined_ok (ev_ok hm hC c (strip h.fst) λz hz=>hl z (by rw [hll];exact hz))
  refine wp_block (wp_mono (hx S α _ r he F μ w a hn hp hr) λe a' w' ⟨ex,S',μ',av,h1,h2,h3⟩=>?_)
  have h3':CP (isLeaf h) F pin μ S w a μ' S' w' av:=h3.weak leaf_fst
  cases ex with
  | normal=>obtain ⟨rfl,rfl⟩:=h1;exact ⟨.normal,S',μ',_,⟨rfl,rfl⟩,h2,h3'⟩
  | ret=>obtain ⟨rfl,rfl⟩:=h1;exact ⟨.ret,S',μ',_,⟨rfl,rfl⟩,h2,h3'⟩
  | pan=>obtain ⟨rfl,hd⟩:=h1;exact ⟨.pan,S',μ',_,⟨rfl,hd⟩,h2,h3'⟩
  | exit id' =>
   obtain ⟨rfl,rfl⟩:=h1
   simp only [exOf,Exit.inBlock]
   by_cases hid:id'=id
   ·subst hid
    simp only [Nat.beq_refl,cTt] at h2
    rw [if_pos rfl]
    exact ⟨.normal,S',μ',_,⟨rfl,rfl⟩,h2,h3'⟩
   ·simp only [beq_ne hid,cFf] at h2
    rw [if_neg hid]
    exact ⟨.exit id',S',μ',_,⟨rfl,rfl⟩,h2,h3'⟩
 | .loop c,h,hl=>by
  intro S α K r he F μ w a hn hp hr
  cases h with
  | loop sh o run h =>
   simp only [ev] at he
   have hnl:isLoopH h=false:=by
    cases hh:isLoopH h with
    | false=>rfl
    | true=>rw [hh] at he;cases he
   rw [hnl] at he
   simp only [cFf] at he
   have hx:=joined_ok (ev_ok hm hC c (strip h) λz hz=>hl z (by simp [loopsIn,hz]))
   have hlo:=(hl ⟨c,h,sh,o,run⟩ (by simp [loopsIn])).iter hnl
   obtain ⟨p,μ1,h1,h2,h3⟩:=pack_ok hr he
   cases hrun:run p with
   | none=>simp [hrun] at h1
   | some q =>
    simp only [hrun,oBs] at h1
    obtain ⟨m,hm1⟩:=hlo p q hrun
    refine wp_loop_n (λm a' w'=>∃ p μ',iter (round P C M pin n c h sh o) m p=some q/\CP false F pin μ S w a μ' (unpack sh p) w' a') (λa w ⟨p,_,hi,_⟩=>by simp [iter] at hi) (λm a' w' ⟨p,μ',hi,hcp⟩=>?_) m ⟨p,μ1,hm1,CP.shaped h2 h3⟩
    simp only [iter] at hi
    cases hro:round P C M pin n c h sh o p with
    | none=>simp [hro] at hi
    | some z =>
     refine wp_mono (hx (unpack sh p) _ _ z hro F μ' w' a' (hn.trans hcp.size.symm) hcp.le hcp.rg) λe a2 w2 ⟨ex,S2,μ2,av,g1,g2,g3⟩=>?_
     have g4:CP false F pin μ S w a μ2 S2 w2 av:=hcp.trans (g3.weak λh=>by cases h)
     have out:∀ {ex},XR ex e a2 av->(packOuts pin S2 ex o λr=>some (Sum.inr r))=some z->∃ ex' S' μ' av',XR ex' e a2 av'/\K ex' S'=some r/\CP (isLeaf (.loop sh o run h)) F pin μ S w a μ' S' w2 av':=λ{ex} g1 hpo=>by
      obtain ⟨q',S',μ3,k1,k2,k3,k4⟩:=packOuts_ok g3.rg o hpo
      simp only [oSi] at k1
      rw [hro,<- k1] at hi
      simp only [oSi] at hi
      subst hi
      exact ⟨ex,S',μ3,av,g1,by rw [<- k2 α K];exact h1,g4.trans (CP.shaped k3 k4)⟩
     cases ex with
     | normal =>
      obtain ⟨rfl,rfl⟩:=g1
      obtain ⟨p',μ3,k1,k2,k3⟩:=pack_ok g3.rg g2
      simp only [oSi] at k1
      rw [hro,<- k1] at hi
      exact ⟨p',μ3,hi,g4.trans (CP.shaped k2 k3)⟩
     | exit id=>have g5:=g1;obtain ⟨rfl,rfl⟩:=g1;exact out g5 g2
     | ret=>have g5:=g1;obtain ⟨rfl,rfl⟩:=g1;exact out g5 g2
     | pan=>have g5:=g1;obtain ⟨rfl,hd⟩:=g1;exact out g5 g2
  | _=>simp [ev] at he
 | .label _,h,_=>by
  intro S α K r he F μ w a hn hp hr
  simp only [ev] at he
  exact wp_label ⟨.normal,S,μ,_,⟨rfl,rfl⟩,he,CP.refl hr hp⟩
 | .goto _,h,_=>by intro S α K r he;simp [ev] at he
 | .scope c,h,hl=>by
  intro S α K r he F μ w a hn hp hr
  simp only [ev] at he
  have hx:=joined_ok (ev_ok hm hC c (strip h.fst) λz hz=>hl z (by simp [loopsIn,hz]))
  refine wp_scope_straight (wp_mono (hx S α _ r he F μ w a hn hp hr) λe a' w' ⟨ex,S',μ',av,h1,h2,h3⟩=>?_)
  have h3':CP (isLeaf h) F pin μ S w a μ' S' w' av:=h3.weak leaf_fst
  cases ex with
  | normal=>obtain ⟨rfl,rfl⟩:=h1;exact ⟨.normal,S',μ',_,⟨rfl,rfl⟩,h2,h3'⟩
  | ret=>obtain ⟨rfl,rfl⟩:=h1;exact ⟨.ret,S',μ',_,⟨rfl,rfl⟩,h2,h3'⟩
  | exit id'=>obtain ⟨rfl,rfl⟩:=h1;exact ⟨.exit id',S',μ',_,⟨rfl,rfl⟩,h2,h3'⟩
  | pan=>obtain ⟨rfl,hd⟩:=h1;exact ⟨.pan,S',μ',_,⟨rfl,hd⟩,h2,h3'⟩
 | .rangeFunc _ _ _ _,h,_=>by intro S α K r he;simp [ev] at he
 | .refuse _,h,_=>by intro S α K r he;simp [ev] at he
end
end Go.Ev
namespace Go.Ev
open Go
section
variable {P:Program} {F:Frm (tabsOf P)} {μ μ':Nat->Option Nat} {S S':St} {w w':World} {a a':Act} {α:Type} {r:α} {M:FuncId->Bool} {pin:Nat}
def resStep (tmps:Array Value):ResultVar->Sem Value
 | .tmp t=>pure (tmps.getD t undef)
 | .cell a t=>do loadVar t (<- asAddr (tmps.getD a undef))
theorem results_eq (fn:Func) (tmps:Array Value):results fn tmps=(do
  let vs <- fn.results.toList.mapM (resStep tmps)
  pure (if h:vs.toArray.size=1 then vs.toArray[0] else .tuple vs.toArray)):=by
 unfold results
 rw [Array.mapM_eq_mapM_toList]
 simp only [bind_map_left]
 congr 1
theorem resAV_ok (hr:Rg F μ [] S a w):∀ (rs:List ResultVar) {K:List AV->Option α},resAV P S rs K=some r ->
  ∃ vs vals,K vs=some r/\RelVs w (Not F μ S.H) μ S.H vs vals/\(rs.mapM (resStep a.tmps)).run P w=.ok vals w
 | [],K,h=>by
  simp only [resAV] at h
  exact ⟨[],[],h,by simp [RelVs],by simp⟩
 | .tmp t::rs,K,h=>by
  simp only [resAV] at h
  obtain ⟨vs,vals,h1,h2,h3⟩:=resAV_ok hr rs h
  refine ⟨_,a.tmps.getD t undef::vals,h1,?_,?_⟩
  ·simp only [RelVs]
   exact ⟨_,_,rfl,hr.e.slot λj b y hh=>absurd (hr.tags _ _ _ _ hh) (by simp),h2⟩
  ·simp [resStep,h3]
 | .cell b t::rs,K,h=>by
  simp only [resAV] at h
  have hs:=hr.e.slot (t:=b) λj b' y hh=>absurd (hr.tags _ _ _ _ hh) (by simp)
  obtain ⟨y,val,hK,hy,hrun⟩:=loadAV_ok (P:=P) (X:=λ_ _=>False) hr.hp hs (λ_ _ _ _ _ h=>h) h
  obtain ⟨vs,vals,h1,h2,h3⟩:=resAV_ok hr rs hK
  refine ⟨_,val::vals,h1,?_,?_⟩
  ·simp only [RelVs]
   exact ⟨_,_,rfl,hy,h2⟩
  ·have h4:=hrun w (Agr.refl _)
   have hp:∃ ad,a.tmps.getD b undef=.pointer (some ad):=by
    unfold loadAV at h
    cases hu:P.underlying t with
    | none=>simp [hu] at h
    | some d =>
     simp only [hu] at h
     cases hE:S.E b <;> simp only [hE,RelV,reduceCtorEq] at h hs
     ·obtain ⟨_,g,o,_,_,h5,_⟩:=hs;exact ⟨_,h5⟩
     ·obtain ⟨_,g,_,h5⟩:=hs;exact ⟨_,h5⟩
     ·obtain ⟨_,g,_,_,_,h5⟩:=hs;exact ⟨_,h5⟩
   obtain ⟨ad,had⟩:=hp
   rw [had] at h4
   have h5:(loadVar t ad).run P w=.ok val w:=by
    simpa [Instr.loadAt,Instr.sureAddr] using h4
   simp [resStep,had,asAddr,h3,h5]
theorem argsE_ok {N:NN} {H:Nat->Blk}:∀ (args:List AV) (vals:List Value) (k:Nat) (tmps:Array Value),RelVs w N μ H args vals->(∀ i,(h:i<vals.length)->tmps.getD (k+i) undef=vals[i]) ->
  ∀ t,RelV w N μ H (argsE k args t) (tmps.getD t undef)/\∀ j b x,argsE k args t≠.gd j b x
 | [],_,_,_,_,_,t=>by simp [argsE,RelV]
 | x::r,vals,k,tmps,h,ht,t=>by
  simp only [RelVs] at h
  obtain ⟨v,vr,rfl,h1,h2⟩:=h
  simp only [argsE]
  by_cases hk:t=k
  ·subst hk
   rw [upd_same]
   have:=ht 0 (by simp)
   simp only [Nat.add_zero,List.getElem_cons_zero] at this
   rw [this]
   exact ⟨noGd_rel h1,noGd_ne _⟩
  ·rw [upd_other hk]
   refine argsE_ok r vr (k+1) tmps h2 (λi hi=>?_) t
   have:=ht (i+1) (by simp;omega)
   simpa [Nat.add_assoc,Nat.add_comm 1 i] using this
theorem resVal {vs:List AV} {vals:List Value} {K:AV->Option α} {N:NN} {H:Nat->Blk} (hK:(match vs with
      | [v]=>K v
      | vs=>K (.tup vs))=some r) (h:RelVs w N μ H vs vals):∃ v,K v=some r/\RelV w N μ H v (if h:vals.toArray.size=1 then vals.toArray[0] else .tuple vals.toArray):=by
  have hl:=RelVs_length h
  split at hK
  . rename_i v
    simp only [RelVs] at h
    obtain ⟨x,y,rfl,h1,rfl⟩:=h
    exact ⟨v,hK,by simpa using h1⟩
  . rename_i hne
    refine ⟨_,hK,?_⟩
    have:¬ vals.toArray.size=1:=by
      intro h1
      simp only [List.size_toArray] at h1
      rw [h1] at hl
      cases vs with
      | nil=>simp at hl
      | cons x r=>cases r with
        | nil=>exact hne x rfl
        | cons _ _=>simp at hl
    rw [dif_neg this]
    simp only [RelV]
    exact ⟨vals,rfl,h⟩
def inSt (args:List AV) (S:St):St:=⟨argsE 0 args,S.H,S.nx,[]⟩
theorem evFn_ok (hm:P.follows .mixedOrders=true) {C:Calling} (hC:CallOK P C M) {f:FuncId} {fn:Func} (hf:P.funcs[f]?=some fn) {h:HT} {args:List AV} {K:AV->St->Option α}
  (hl:∀ c,fn.body=some c->∀ x∈loopsIn c (strip h),x.OK P C M pin fn.ntmps) (he:evFn P C M pin fn h args S K=some r)
  {vals:List Value} (hp:Hp F μ S.H S.nx w) (hargs:RelVs w (Not F μ S.H) μ S.H args vals) (hpin:pin<=S.nx) :
  Calls P f vals.toArray w (λe w'=>∃ v S' μ' a a' val,EndR e v val/\K v ⟨killsE S'.kl S.E,S'.H,S'.nx,S.kl++S'.kl⟩=some r /\
   RelV w' (Not F μ' S'.H) μ' S'.H v val/\CP (isLeaf h) F pin μ (inSt args S) w a μ' S' w' a'):=by
 unfold evFn at he
 cases hb:fn.body with
 | none=>simp [hb] at he
 | some c =>
  simp only [hb] at he
  obtain ⟨hle,he⟩:=cond_some he
  have hle:=Nat.le_of_ble_eq_true hle
  have hlen:=RelVs_length hargs
  refine calls_of_wp hf hb ?_
  have hsz:(vals.toArray++Array.replicate (fn.ntmps-vals.toArray.size) undef).size=fn.ntmps:=by simp;omega
  have hE:=argsE_ok args vals 0 (vals.toArray++Array.replicate (fn.ntmps-vals.toArray.size) undef) hargs (λi hi=>by simp [Array.getD_eq_getD_getElem?,Array.getElem?_append,hi])
  have hrg:Rg F μ [] (inSt args S) ⟨vals.toArray++Array.replicate (fn.ntmps-vals.toArray.size) undef,[]⟩ w:=by
   refine ⟨hp,λt=>?_,λt j b x hh=>absurd hh ((hE t).2 j b x)⟩
   obtain ⟨h1,h2⟩:=hE t
   show (match argsE 0 args t with
    | .gd j b x=>_
    | x=>RelV w _ _ _ x _)
   cases hu:argsE 0 args t <;> rw [hu] at h1 h2 <;> first | exact h1 | exact absurd rfl (h2 _ _ _)
  have hj:=joined_ok (ev_ok hm hC c (strip h) (hl c hb))
  refine wp_mono (hj (inSt args S) α _ r he F μ w _ hsz.symm hpin hrg) λe a' w' ⟨ex,S',μ',av,h1,h2,h3⟩=>?_
  have key:a'=av->(resAV P S' fn.results.toList λvs=>match vs with
   | [v]=>cond (noPan v) (K v ⟨killsE S'.kl S.E,S'.H,S'.nx,S.kl++S'.kl⟩) none
   | vs=>K (.tup vs) ⟨killsE S'.kl S.E,S'.H,S'.nx,S.kl++S'.kl⟩)=some r->a'.defers=[]/\∃ v,(results fn a'.tmps).run P w'=.ok v w' /\
    ∃ v' S' μ' a a' val,EndR (Ending.returned v) v' val/\K v' ⟨killsE S'.kl S.E,S'.H,S'.nx,S.kl++S'.kl⟩=some r/\RelV w' (Not F μ' S'.H) μ' S'.H v' val/\CP (isLeaf h) F pin μ (inSt args S) w a μ' S' w' a':=λhav hres=>by
   subst hav
   obtain ⟨vs,us,k1,k2,k3⟩:=resAV_ok (P:=P) h3.rg _ hres
   obtain ⟨v,k4,k5⟩:=resVal (K:=λv=>cond (noPan v) (K v ⟨killsE S'.kl S.E,S'.H,S'.nx,S.kl++S'.kl⟩) none) (by
    split at k1
    ·exact k1
    ·exact k1) k2
   obtain ⟨k6,k7⟩:=cond_some k4
   refine ⟨h3.defers,_,?_,v,S',μ',_,a',_,(EndR.ret k6).2 rfl,k7,k5,h3⟩
   rw [results_eq]
   simp only [Sem.run_bind,k3,Result.andThen_ok,Sem.run_pure]
  cases ex with
  | exit id=>simp at h2
  | normal=>obtain ⟨rfl,hav⟩:=h1;exact key hav h2
  | ret=>obtain ⟨rfl,hav⟩:=h1;exact key hav h2
  | pan =>
   obtain ⟨rfl,hd⟩:=h1
   refine ⟨hd.trans h3.defers,.pan (S'.E 0),S',μ',_,av,_,rfl,h2,?_,h3⟩
   have:=h3.rg.e.slot (t:=0) λj b y hh=>absurd (h3.rg.tags _ _ _ _ hh) (by simp)
   simpa only [RelV] using this
end
end Go.Ev
namespace Go.Ev
open Go
section
variable {P:Program} {F F':Frm (tabsOf P)} {μ μ' μ'':Nat->Option Nat} {S S':St} {w w':World} {α:Type} {r:α} {M:FuncId->Bool} {N N':NN} {H H':Nat->Blk}
def Enters (P:Program) (f:FuncId):Prop:=∀ (args:Array Value) w,(callFunc f args).run P w=.ok (.enter f args) w
structure Orc.OK (P:Program) (f:FuncId) (o:Orc):Prop where
 enters:Enters P f
 fits:o.fits=true
 run:∀ p r,o.run p=some r->∀ (F:Frm (tabsOf P)) μ w vals,Hp F μ (unBlks o.blks p.2) o.blks.length w->RelVs w (Not F μ (unBlks o.blks p.2)) μ (unBlks o.blks p.2) (unL o.args p.1) vals ->
  Calls P f vals.toArray w (λe w'=>∃ val μ' nx',EndR e (unV o.out r.1) val/\Hp F μ' (unBlks o.oblks r.2) nx' w'/\RelV w' (Not F μ' (unBlks o.oblks r.2)) μ' (unBlks o.oblks r.2) (unV o.out r.1) val /\
   Chg (Trk μ (unBlks o.blks p.2)) w w'/\(∀ g,Trk μ' (unBlks o.oblks r.2) g->Trk μ (unBlks o.blks p.2) g\/w.heap.size<=g) /\
   (∀ j,j<o.blks.length->Pin (unBlks o.oblks r.2 j) (unBlks o.blks p.2 j) (μ' j) (μ j)))
theorem RelD_noSl:∀ {t:Ty} {x:t.den} {vs:List Value},slTy t=false->RelD w N t x vs->RelD w N' t x vs
 | .int _,_,_,_,h=>h
 | .u8,_,_,_,h=>h
 | .bool,_,_,_,h=>h
 | .str,_,_,_,h=>h
 | .sl t,l,vs,hs,h=>by simp [slTy] at hs
 | .unit,_,_,_,h=>h
 | .pair a b,p,vs,hs,h=>by
  simp only [slTy,Bool.or_eq_false_iff] at hs
  simp only [RelD] at h ⊢
  obtain ⟨xs,ys,h0,h1,h2⟩:=h
  exact ⟨xs,ys,h0,RelD_noSl hs.1 h1,RelD_noSl hs.2 h2⟩
 | .ln t,x,vs,hs,h=>by
  simp only [slTy] at hs
  simp only [RelD] at h ⊢
  exact RelD_noSl hs h
 | .rg t,x,vs,hs,h=>by
  simp only [slTy] at hs
  simp only [RelD] at h ⊢
  exact RelD_noSl hs h
structure SubL (ln:Bool) (w:World) (N' N:NN):Prop where
 all:∀ g,g<w.heap.size->N'.all g->N.all g
 unf:∀ g,g<w.heap.size->N'.unf g->N.unf g
 full:ln=true->Sub w N' N
theorem RelD_plain (h:SubL false w N' N):∀ {t:Ty} {x:t.den} {vs:List Value},lnTy t=false->RelD w N t x vs->RelD w N' t x vs
 | .int _,_,_,_,hx=>hx
 | .u8,_,_,_,hx=>hx
 | .bool,_,_,_,hx=>hx
 | .str,_,_,_,hx=>hx
 | .unit,_,_,_,hx=>hx
 | .ln t,_,_,hs,_=>by simp [lnTy] at hs
 | .rg t,_,_,hs,_=>by simp [lnTy] at hs
 | .mx _,_,_,hs,_=>by simp [lnTy] at hs
 | .pair a b,p,vs,hs,hx=>by
  simp only [lnTy,Bool.or_eq_false_iff] at hs
  simp only [RelD] at hx ⊢
  obtain ⟨xs,ys,h0,h1,h2⟩:=hx
  exact ⟨xs,ys,h0,RelD_plain h hs.1 h1,RelD_plain h hs.2 h2⟩
 | .sl t,l,vs,hs,hx=>by
  simp only [lnTy] at hs
  simp only [RelD] at hx ⊢
  obtain ⟨a,c,h1,h2,h3⟩:=hx
  refine ⟨a,c,h1,h2,λhp=>?_⟩
  obtain ⟨g,o,ha,hn,hg,hu,hr⟩:=h3 hp
  have hln:∀ M:NN,lnN M t=M.all:=λM=>by cases t <;> first | rfl | simp [lnTy] at hs
  rw [hln] at hn
  refine ⟨g,o,ha,λhn'=>hn (h.all g hg (by rw [hln] at hn';exact hn')),hg,λhf=>hu (h.unf g hg hf),λi hi=>?_⟩
  obtain ⟨es,e1,e2,e3⟩:=hr i hi
  exact ⟨es,e1,e2,RelD_plain h hs e3⟩
 | .pt t,x,vs,hs,hx=>by
  simp only [lnTy] at hs
  simp only [RelD] at hx ⊢
  obtain ⟨p,rfl,hx | ⟨g,o,y,es,h1,h2,h3,h4,h5,h6,h7,h8,h9⟩⟩:=hx
  ·exact ⟨p,rfl,.inl hx⟩
  exact ⟨p,rfl,.inr ⟨g,o,y,es,h1,h2,h3,λhn=>h4 (h.all g h5 hn),h5,λhf=>h6 (h.unf g h5 hf),h7,h8,RelD_plain h hs h9⟩⟩
 | .mp k v ag,l,vs,hs,hx=>by
  simp only [lnTy,Bool.or_eq_false_iff] at hs
  simp only [RelD] at hx ⊢
  obtain ⟨a,rfl,g,es,c,h1,h2,h3,h4,h5,h6,h7⟩:=hx
  refine ⟨a,rfl,⟨g,es,c,h1,λhn=>h2 (h.all g h3 hn),h3,h4,h5,h6,λi hi hi'=>?_⟩⟩
  obtain ⟨r1,cs,r2,r3⟩:=h7 i hi hi'
  exact ⟨RelD_plain h hs.1 r1,cs,RelD_plain h hs.2 r2,r3⟩
theorem SubL.less {ln:Bool} (h:SubL ln w N' N):SubL false w N' N:=⟨h.all,h.unf,λh=>by cases h⟩
theorem RelD_toL {ln:Bool} (h:SubL ln w N' N) {t:Ty} {x:t.den} {vs:List Value} (hl:lnTy t=true->ln=true) (hx:RelD w N t x vs):RelD w N' t x vs:=by
 cases hs:lnTy t with
 | false=>exact RelD_plain h.less hs hx
 | true=>exact hx.keep (Keep.refl w) (h.full (hl hs))
theorem RelD_to {ln:Bool} {t:Ty} {x:t.den} {vs:List Value} (hN:slTy t=true->SubL ln w N' N) (hl:lnTy t=true->ln=true) (h:RelD w N t x vs):RelD w N' t x vs:=by
 cases hs:slTy t with
 | false=>exact RelD_noSl hs h
 | true=>exact RelD_toL (hN hs) hl h
def Ren (bl:List (Nat×BSh)) (ρ:Nat->Nat) (μ μ':Nat->Option Nat) (H H':Nat->Blk):Prop :=
 ∀ j s,kindIn bl j=some s->μ' (ρ j)=μ j/\H' (ρ j)=renB ρ (H j)/\H j≠.dead
theorem renB_data {ρ:Nat->Nat} {b:Blk} {t:Ty} {l:List t.den} (h:b=.data t l):renB ρ b=.data t l:=by subst h;rfl
theorem tag_renB {ρ:Nat->Nat} (b:Blk):(renB ρ b).tag=b.tag:=by cases b <;> rfl
theorem renB_live {ρ:Nat->Nat} {b:Blk} (h:b≠.dead):renB ρ b≠.dead:=by cases b <;> simp_all [renB]
section
variable {bl:List (Nat×BSh)} {ρ:Nat->Nat}
mutual
theorem renV_ok {ln:Bool} (hr:Ren bl ρ μ μ' H H'):∀ (v:VSh) (p:v.den) (val:Value),(hasSl v=true->SubL ln w N' N)->(hasLn v=true->ln=true)->refsOK bl v=true->RelV w N μ H (unV v p) val->RelV w N' μ' H' (renV ρ (unV v p)) val
 | .i k,p,val,_,_,_,h=>h
 | .u,p,val,_,_,_,h=>h
 | .b,p,val,_,_,_,h=>h
 | .s,p,val,_,_,_,h=>h
 | .nilp,p,val,_,_,_,h=>h
 | .kb _,p,val,_,_,_,h=>h
 | .ki _ _,p,val,_,_,_,h=>h
 | .ks _,p,val,_,_,_,h=>h
 | .bad,p,val,_,_,_,h=>by simp [unV,renV,RelV]
 | .nil,p,val,_,_,_,h=>by simp [unV,renV,RelV]
 | .cons _ _,p,val,_,_,_,h=>by simp [unV,renV,RelV]
 | .sl t,p,val,hN,hL,_,h=>by
  simp only [unV,renV,RelV] at h ⊢
  exact RelD_toL (t:=.sl t) (hN rfl) hL h
 | .fz t,p,val,hN,hL,_,h=>by
  simp only [unV,renV,RelV] at h ⊢
  exact ⟨RelD_toL (hN rfl) hL h.1,h.2⟩
 | .ptr j o,p,val,_,_,hf,h=>by
  simp only [unV,renV,RelV,refsOK,Option.isSome_iff_exists] at h hf ⊢
  obtain ⟨s,hs⟩:=hf
  obtain ⟨h1,h2,h3⟩:=hr j s hs
  obtain ⟨_,g,hg,hv⟩:=h
  exact ⟨by rw [h2];exact renB_live h3,g,by rw [h1];exact hg,hv⟩
 | .mp j,p,val,_,_,hf,h=>by
  simp only [unV,renV,RelV,refsOK,Option.isSome_iff_exists] at h hf ⊢
  obtain ⟨s,hs⟩:=hf
  obtain ⟨h1,h2,h3⟩:=hr j s hs
  obtain ⟨_,g,hg,hv⟩:=h
  exact ⟨by rw [h2];exact renB_live h3,g,by rw [h1];exact hg,hv⟩
 | .mptr j o,p,val,_,_,hf,h=>by
  simp only [unV,renV,RelV,refsOK,Option.isSome_iff_exists] at h hf ⊢
  obtain ⟨s,hs⟩:=hf
  obtain ⟨h1,h2,h3⟩:=hr j s hs
  obtain ⟨_,hv⟩:=h
  exact ⟨by rw [h2];exact renB_live h3,by rw [h1];exact hv⟩
 | .own j,p,val,_,_,hf,h=>by
  simp only [unV,renV,RelV] at h ⊢
  obtain ⟨t,l,hl,hv⟩:=h
  simp only [refsOK] at hf
  cases hk:kindIn bl j with
  | none=>simp [hk] at hf
  | some s =>
   obtain ⟨h1,h2,h3⟩:=hr j s hk
   exact ⟨t,l,by rw [h2];exact renB_data hl,by rw [h1];exact hv⟩
 | .win j,p,val,_,_,hf,h=>by
  simp only [unV,renV,RelV] at h ⊢
  obtain ⟨t,l,hl,hv⟩:=h
  simp only [refsOK] at hf
  cases hk:kindIn bl j with
  | none=>simp [hk] at hf
  | some s =>
   obtain ⟨h1,h2,h3⟩:=hr j s hk
   exact ⟨t,l,by rw [h2];exact renB_data hl,by rw [h1];exact hv⟩
 | .fn f cs,p,val,hN,hL,hf,h=>by
  simp only [unV,renV,RelV] at h ⊢
  obtain ⟨vs,hv,h⟩:=h
  exact ⟨vs,hv,renL_ok hr cs p vs hN hL hf h⟩
 | .agg cs,p,val,hN,hL,hf,h=>by
  simp only [unV,renV,RelV] at h ⊢
  obtain ⟨vs,hv,h⟩:=h
  exact ⟨vs,hv,renL_ok hr cs p vs hN hL hf h⟩
 | .tup cs,p,val,hN,hL,hf,h=>by
  simp only [unV,renV,RelV] at h ⊢
  obtain ⟨vs,hv,h⟩:=h
  exact ⟨vs,hv,renL_ok hr cs p vs hN hL hf h⟩
 | .ifc t v,p,val,hN,hL,hf,h=>by
  simp only [unV,renV,RelV] at h ⊢
  obtain ⟨u,hv,h⟩:=h
  exact ⟨u,hv,renV_ok hr v p u hN hL hf h⟩
 | .may v v2,p,val,hN,hL,hf,h=>by
  simp only [refsOK,bAt] at hf
  simp only [hasSl,Bool.or_eq_true] at hN
  simp only [hasLn,Bool.or_eq_true] at hL
  match (show v.den⊕v2.den from p),h with
  | .inl p,h=>exact renV_ok hr v p val (λh=>hN (.inl h)) (λh=>hL (.inl h)) hf.1 h
  | .inr p,h =>
   have h:RelV w N μ H (unV v2 p) val:=h
   have:=renV_ok hr v2 p val (λh=>hN (.inr h)) (λh=>hL (.inr h)) hf.2 h
   exact this
theorem renL_ok {ln:Bool} (hr:Ren bl ρ μ μ' H H'):∀ (v:VSh) (p:v.den) (vals:List Value),(hasSl v=true->SubL ln w N' N)->(hasLn v=true->ln=true)->refsOK bl v=true->RelVs w N μ H (unL v p) vals->RelVs w N' μ' H' (renL ρ (unL v p)) vals
 | .cons v v2,p,vals,hN,hL,hf,h=>by
  simp only [unL,renL,RelVs] at h ⊢
  simp only [refsOK,bAt] at hf
  simp only [hasSl,Bool.or_eq_true] at hN
  simp only [hasLn,Bool.or_eq_true] at hL
  obtain ⟨val,vr,rfl,h1,h2⟩:=h
  exact ⟨val,vr,rfl,renV_ok hr v p.1 val (λh=>hN (.inl h)) (λh=>hL (.inl h)) hf.1 h1,renL_ok hr v2 p.2 vr (λh=>hN (.inr h)) (λh=>hL (.inr h)) hf.2 h2⟩
 | .nil,p,vals,_,_,_,h=>h
 | .i _,p,vals,_,_,_,h=>h
 | .u,p,vals,_,_,_,h=>h
 | .b,p,vals,_,_,_,h=>h
 | .s,p,vals,_,_,_,h=>h
 | .sl _,p,vals,_,_,_,h=>h
 | .fz _,p,vals,_,_,_,h=>h
 | .ptr _ _,p,vals,_,_,_,h=>h
 | .ifc _ _,p,vals,_,_,_,h=>h
 | .may _ _,p,vals,_,_,_,h=>h
 | .own _,p,vals,_,_,_,h=>h
 | .win _,p,vals,_,_,_,h=>h
 | .mp _,p,vals,_,_,_,h=>h
 | .mptr _ _,p,vals,_,_,_,h=>h
 | .fn _ _,p,vals,_,_,_,h=>h
 | .agg _,p,vals,_,_,_,h=>h
 | .tup _,p,vals,_,_,_,h=>h
 | .nilp,p,vals,_,_,_,h=>h
 | .kb _,p,vals,_,_,_,h=>h
 | .ki _ _,p,vals,_,_,_,h=>h
 | .ks _,p,vals,_,_,_,h=>h
 | .bad,p,vals,_,_,_,h=>h
end
end
theorem kindIn_mem:∀ {bl:List (Nat×BSh)} {j:Nat} {s:BSh},kindIn bl j=some s->(j,s)∈bl
 | [],_,_,h=>by simp [kindIn] at h
 | (k,s0)::bl,j,s,h=>by
  simp only [kindIn] at h
  cases hk:Nat.beq k j with
  | true =>
   simp only [hk,cTt,oSi] at h
   rw [<- nEb hk,<- h]
   simp
  | false =>
   simp only [hk,cFf] at h
   exact List.mem_cons_of_mem _ (kindIn_mem h)
theorem unBlks_some:∀ (bl:List (Nat×BSh)) (q:blksDen bl) (j:Nat) (s:BSh),kindIn bl j=some s->∃ p:s.den,unBlks bl q j=unB s p
 | [],_,_,_,h=>by simp [kindIn] at h
 | (k,s0)::bl,q,j,s,h=>by
  simp only [kindIn] at h
  simp only [unBlks]
  cases hk:Nat.beq k j with
  | true =>
   simp only [hk,cTt,oSi] at h
   subst h
   rw [nEb hk,updH_same]
   exact ⟨_,rfl⟩
  | false =>
   simp only [hk,cFf] at h
   have hne:j≠k:=λe=>by subst e;simp at hk
   rw [updH_other hne]
   exact unBlks_some bl q.2 j s h
theorem putBlks_other {ρ:Nat->Nat}:∀ (bl:List (Nat×BSh)) (q:blksDen bl) (H:Nat->Blk) (b:Nat),(∀ j s,kindIn bl j=some s->ρ j≠b)->putBlks ρ bl q H b=H b
 | [],_,_,_,_=>rfl
 | (k,s)::bl,q,H,b,h=>by
  simp only [putBlks]
  have hk:ρ k≠b:=h k s (by simp [kindIn])
  rw [updH_other (Ne.symm hk)]
  refine putBlks_other bl q.2 H b λj s' hj=>?_
  by_cases hkj:k=j
  ·subst hkj;exact hk
  ·exact h j s' (by simp [kindIn,beq_ne hkj,hj])
theorem putBlks_at {ρ:Nat->Nat}:∀ (bl:List (Nat×BSh)) (q:blksDen bl) (H:Nat->Blk) (j:Nat) (s:BSh),(∀ j s j' s',kindIn bl j=some s->kindIn bl j'=some s'->ρ j=ρ j'->j=j')->nodupN (bl.map (·.1))=true ->
  kindIn bl j=some s->putBlks ρ bl q H (ρ j)=renB ρ (unBlks bl q j)
 | [],_,_,_,_,_,_,h=>by simp [kindIn] at h
 | (k,s0)::bl,q,H,j,s,hi,hn,h=>by
  simp only [putBlks,unBlks]
  by_cases hk:j=k
  ·subst hk;rw [updH_same,updH_same]
  ·have hne:ρ j≠ρ k:=λe=>hk (hi j s k s0 h (by simp [kindIn]) e)
   rw [updH_other hne,updH_other hk]
   have h':kindIn bl j=some s:=by simpa [kindIn,beq_ne (Ne.symm hk)] using h
   have hn':nodupN (bl.map (·.1))=true:=by
    simp only [List.map_cons,nodupN,bAt] at hn;exact hn.2
   have hnk:∀ j' s',kindIn bl j'=some s'->j'≠k:=λj' s' hj' e=>by
    subst e
    simp only [List.map_cons,nodupN,bAt,Bool.not_eq_true'] at hn
    have:(List.any (bl.map (·.1)) λy=>Nat.beq j' y)=true:=List.any_eq_true.2 ⟨j',List.mem_map.2 ⟨_,kindIn_mem hj',rfl⟩,Nat.beq_refl j'⟩
    rw [this] at hn
    exact absurd hn.1 (by simp)
   refine putBlks_at bl q.2 H j s (λj1 s1 j2 s2 h1 h2 he=>?_) hn' h'
   exact hi j1 s1 j2 s2 (by simp [kindIn,beq_ne (Ne.symm (hnk j1 s1 h1)),h1]) (by simp [kindIn,beq_ne (Ne.symm (hnk j2 s2 h2)),h2]) he
theorem mem_dataIds':∀ {bl:List (Nat×BSh)} {j:Nat} {kt vt:Ty} {ag:Bool},(j,BSh.mapd kt vt ag)∈bl->j∈dataIds bl
 | [],_,_,_,_,h=>by cases h
 | (k,s)::bl,j,kt,vt,ag,h=>by
  rcases List.mem_cons.1 h with h | h
  ·cases h;simp [dataIds]
  ·have:=mem_dataIds' h
   cases s <;> simp [dataIds,this]
theorem mem_dataIds:∀ {bl:List (Nat×BSh)} {j:Nat} {t:Ty},(j,BSh.data t)∈bl->j∈dataIds bl
 | [],_,_,h=>by cases h
 | (k,s)::bl,j,t,h=>by
  rcases List.mem_cons.1 h with h | h
  ·cases h;simp [dataIds]
  ·have:=mem_dataIds h
   cases s <;> simp [dataIds,this]
end
end Go.Ev
namespace Go.Ev
open Go
section
variable {P:Program} {F F':Frm (tabsOf P)} {μ μ' μ'':Nat->Option Nat} {S S':St} {w w':World} {α:Type} {r:α} {M:FuncId->Bool} {N N':NN} {H H':Nat->Blk}
theorem renOf_cases (B:Bd) (n nx j:Nat):(j<n/\∃ b,findB B.m j=some (some b)/\renOf B n nx j=b)\/renOf B n nx j=nx+j:=by
 unfold renOf
 cases hb:Nat.ble n j with
 | true=>right;rfl
 | false =>
  have hlt:j<n:=by
   rcases Nat.lt_or_ge j n with h | h
   ·exact h
   ·rw [Nat.ble_eq_true_of_le h] at hb;cases hb
  simp only [cFf]
  cases hf:findB B.m j with
  | none=>right;rfl
  | some x =>
   cases x with
   | none=>right;rfl
   | some b=>left;exact ⟨hlt,b,rfl,rfl⟩
theorem hasSlB_vars:∀ {bl:List (Nat×BSh)} {j:Nat} {cs:VSh},(j,BSh.vars cs)∈bl->hasSl cs=true->hasSlB bl=true
 | [],_,_,h,_=>by cases h
 | (k,s)::bl,j,cs,h,hs=>by
  rcases List.mem_cons.1 h with h | h
  ·cases h;simp [hasSlB,hs]
  ·have:=hasSlB_vars h hs
   cases s <;> simp [hasSlB,this]
theorem hasSlB_data:∀ {bl:List (Nat×BSh)} {j:Nat} {t:Ty},(j,BSh.data t)∈bl->slTy t=true->hasSlB bl=true
 | [],_,_,h,_=>by cases h
 | (k,s)::bl,j,cs,h,hs=>by
  rcases List.mem_cons.1 h with h | h
  ·cases h;simp [hasSlB,hs]
  ·have:=hasSlB_data h hs
   cases s <;> simp [hasSlB,this]
theorem hasSlB_map:∀ {bl:List (Nat×BSh)} {j:Nat} {kt vt:Ty} {ag:Bool},(j,BSh.mapd kt vt ag)∈bl->(slTy kt||slTy vt)=true->hasSlB bl=true
 | [],_,_,_,_,h,_=>by cases h
 | (k,s)::bl,j,kt,vt,ag,h,hs=>by
  rcases List.mem_cons.1 h with h | h
  ·cases h
   simp only [hasSlB,Bool.or_eq_true] at hs ⊢
   exact .inl hs
  ·have:=hasSlB_map h hs
   cases s <;> simp [hasSlB,this]
theorem hasLnB_vars:∀ {bl:List (Nat×BSh)} {j:Nat} {cs:VSh},(j,BSh.vars cs)∈bl->hasLn cs=true->hasLnB bl=true
 | [],_,_,h,_=>by cases h
 | (k,s)::bl,j,cs,h,hs=>by
  rcases List.mem_cons.1 h with h | h
  ·cases h;simp [hasLnB,hs]
  ·have:=hasLnB_vars h hs
   cases s <;> simp [hasLnB,this]
theorem hasLnB_data:∀ {bl:List (Nat×BSh)} {j:Nat} {t:Ty},(j,BSh.data t)∈bl->lnTy t=true->hasLnB bl=true
 | [],_,_,h,_=>by cases h
 | (k,s)::bl,j,cs,h,hs=>by
  rcases List.mem_cons.1 h with h | h
  ·cases h;simp [hasLnB,hs]
  ·have:=hasLnB_data h hs
   cases s <;> simp [hasLnB,this]
theorem hasLnB_map:∀ {bl:List (Nat×BSh)} {j:Nat} {kt vt:Ty} {ag:Bool},(j,BSh.mapd kt vt ag)∈bl->(lnTy kt||lnTy vt)=true->hasLnB bl=true
 | [],_,_,_,_,h,_=>by cases h
 | (k,s)::bl,j,kt,vt,ag,h,hs=>by
  rcases List.mem_cons.1 h with h | h
  ·cases h
   simp only [hasLnB,Bool.or_eq_true] at hs ⊢
   exact .inl hs
  ·have:=hasLnB_map h hs
   cases s <;> simp [hasLnB,this]
theorem room_of_heap' {g n:Nat} (hk:g<w.heap.size->w'.heap[g]?=w.heap[g]?) (h:room w g n):room w' g n:=λk hkn=>by
 obtain ⟨h1,h2⟩:=h k hkn
 obtain ⟨v,hv⟩:=Option.isSome_iff_exists.1 h1
 have hlt:=World.block_lt_of_cell? w _ hv
 exact ⟨by rw [cell?_of_heap (hk hlt)];exact h1,by rw [frozen?_of_heap (hk hlt)];exact h2⟩
theorem kb_kind {kl:List Nat} {b:Blk}:(b=.dead->kb kl b=.dead)/\(b≠.dead->kb kl b≠.dead)/\(∀ cs,kb kl b=.vars cs->∃ cs',b=.vars cs')/\(∀ t l,b=.data t l->kb kl b=.data t l):=by
 cases kl <;> cases b <;> simp [kb,killB]
theorem unVK_eq:∀ (v:VSh) (p:v.den) (K:AV->Option α),unVK v p K=K (unV v p):=λv p K=>by
 cases v
 case may v1 v2=>cases (show v1.den⊕v2.den from p) <;> rfl
 all_goals rfl
theorem EndR.ren {ρ:Nat->Nat} {e:Ending} {v:AV} {val:Value} (h:EndR e v val):EndR e (renV ρ v) val:=by
 cases v <;> exact h
theorem Orc.call_ok {o:Orc} {f:FuncId} (ho:o.OK P f) {args:List AV} {K:AV->St->Option α} (h:o.call args S K=some r) {vals:List Value} (hp:Hp F μ S.H S.nx w) (hargs:RelVs w (Not F μ S.H) μ S.H args vals) :
  Calls P f vals.toArray w (λe w'=>∃ v S' μ' kl val,EndR e v val/\K v S'=some r/\S'.E=killsE kl S.E/\S'.kl=S.kl++kl/\Hp F μ' S'.H S'.nx w' /\
   Pl F μ S.H S.nx w kl μ' S'.H S'.nx w'/\RelV w' (Not F μ' S'.H) μ' S'.H v val/\(o.blks=[]->Keep (λ_=>False) w w')):=by
 unfold Orc.call at h
 obtain ⟨p,B1,hK1,he1,hr1⟩:=packL_ok (pin:=0) (bl:=o.blks) hp o.args args ⟨[],[],[]⟩ _ vals hargs h
 obtain ⟨q,B,hK2,he2,hf2,hk2,hm2,hr2⟩:=packBlks_ok (bl:=o.blks) hp o.blks hK1
 obtain ⟨hB,hK3⟩:=cond_some hK2
 have hfits:=ho.fits
 simp only [Orc.fits,bAt,List.all_eq_true] at hfits
 obtain ⟨⟨⟨⟨⟨fnd,frange⟩,fargs⟩,fout⟩,fblks⟩,foblks⟩:=hfits
 have hlive_lt:∀ b,S.H b≠.dead->b<S.nx:=λb hb=>Nat.lt_of_not_le λhle=>hb (hp.dead b hle)
 have hkey:∀ j,unBlks o.blks q j≠.dead->j<o.blks.length:=λj hj=>by
  obtain ⟨x,hx,rfl⟩:=hm2 j hj
  exact Nat.le_of_ble_eq_true (fblks x hx).1.1.1
 have hsrc:∀ j,j<o.blks.length->∀ b,findB B.m j=some (some b)->∃ s,kindIn o.blks j=some s/\S.H b≠.dead/\(∀ t l,S.H b=.data t l->∃ t' l',unBlks o.blks q j=.data t' l'/\t'.size=t.size/\List.length l'=List.length l)/\((unBlks o.blks q j).tag≠0->(S.H b).tag=(unBlks o.blks q j).tag):=λj hj b hb=>by
  have h1:=frange j (List.mem_range.2 hj)
  obtain ⟨s,hs⟩:=Option.isSome_iff_exists.1 h1
  have h2:=hf2 j (hk2 j s hs).live
  unfold From at h2
  rw [hb] at h2
  exact ⟨s,hs,h2.1,h2.2.1,h2.2.2.2.1⟩
 let F':Frm (tabsOf P):={ out:=λg=>F g\/∃ b,S.H b≠.dead/\μ b=some g/\b∉B.y/\∀ j,j<o.blks.length->findB B.m j≠some (some b),hot:=λg=>F.hot g\/∃ b,S.H b≠.dead/\μ b=some g/\(b∉B.z/\b∉B.y)/\∀ j,j<o.blks.length->findB B.m j≠some (some b),le:=λg h=>h.imp (F.le g) λ⟨b,h1,h2,h3,h4⟩=>⟨b,h1,h2,h3.2,h4⟩,reg:=F.reg,unf:=F.unf }
 have hfin:Fin F F' μ 0 S.H o.blks B (unBlks o.blks q):=by
  refine ⟨hB,hf2,hk2,λg hg=>?_,λg hg=>?_,λb g hb hl hm hg=>?_,λb g hb hl hm hg=>?_,rfl,rfl⟩
  ·rcases hg with hg | ⟨b,h1,h2,_⟩
   ·exact .inl hg
   ·exact .inr ⟨b,h1,h2⟩
  ·rcases hg with hg | ⟨b,h1,h2,_⟩
   ·exact .inl hg
   ·exact .inr ⟨b,h1,h2⟩
  ·rcases hg with hg | ⟨b',h1,h2,h3,_⟩
   ·exact hp.apart b g hl hm (F.le g hg)
   ·have:=hp.inj b b' g hl h1 hm h2
    subst this
    exact h3.1 hb
  ·rcases hg with hg | ⟨b',h1,h2,h3,_⟩
   ·exact hp.apart b g hl hm hg
   ·have:=hp.inj b b' g hl h1 hm h2
    subst this
    exact h3 hb
 have hp1:Hp F' (muB μ B) (unBlks o.blks q) o.blks.length w:=by
  refine hfin.hp hp (λj=>hr2 F' B _ (Ext.refl B) hfin (List.all_eq_true.2 λx hx=>(fblks x hx).1.1.2) j) (λj hj=>?_) (λj b g hlj hb hl hm hg=>?_) (λg hg=>?_)
  ·by_cases hd:unBlks o.blks q j=.dead
   ·exact hd
   ·have:=hkey j hd;omega
  ·rcases hg with hg | ⟨b',h1,h2,_,h4⟩
   ·exact hp.apart b g hl hm hg
   ·have:=hp.inj b b' g hl h1 hm h2
    subst this
    exact h4 j (hkey j hlj) hb
  ·rcases hg with hg | ⟨b',h1,h2,_⟩
   ·exact hp.flt g hg
   ·exact hp.lt b' g h1 h2
 have hargs1:=hr1 F' B _ he2 hfin fargs
 cases hrun:o.run (p,q) with
 | none=>simp [hrun] at hK3
 | some rr =>
  simp only [hrun,oBs] at hK3
  rw [unVK_eq] at hK3
  refine (ho.run (p,q) rr hrun F' (muB μ B) w vals hp1 hargs1).mono λe w' ⟨val,μ2,nx2,hee,hp2,hv2,hchg,hnew,hpin⟩=>?_
  simp only at hp2 hv2 hchg hnew hpin
  generalize hgone:cond (hasSl o.out||hasSlB o.oblks) (cond (hasLn o.out||hasLnB o.oblks) (B.z++B.y) B.y) []=gone at hK3
  generalize hρ:renOf B o.blks.length S.nx=ρ at hK3
  generalize hkl:gone++(dataIds o.blks).map ρ=kl at hK3
  have hρc:∀ j,(j<o.blks.length/\∃ b,findB B.m j=some (some b)/\ρ j=b)\/ρ j=S.nx+j:=λj=>by rw [<- hρ];exact renOf_cases _ _ _ _
  have hbl:∀ j,j<o.blks.length->∀ b,findB B.m j=some (some b)->b<S.nx:=λj hj b hb=>by
   obtain ⟨_,_,h1,_⟩:=hsrc j hj b hb
   exact hlive_lt b h1
  have hinj0:∀ j j',ρ j=ρ j'->j=j':=λj j' he=>by
   rcases hρc j with ⟨h1,b,h2,h3⟩ | h1 <;> rcases hρc j' with ⟨g1,b',g2,g3⟩ | g1
   ·rw [h3,g3] at he;subst he;exact Bd.ok_inj hB h2 g2
   ·have:=hbl j h1 b h2;omega
   ·have:=hbl j' g1 b' g2;omega
   ·omega
  have hat:∀ j s,kindIn o.oblks j=some s->putBlks ρ o.oblks rr.2 (dropBlks kl (killsH kl S.H)) (ρ j)=renB ρ (unBlks o.oblks rr.2 j):=λj s hs =>
   putBlks_at o.oblks rr.2 _ j s (λj _ j' _ _ _=>hinj0 j j') fnd hs
  have hoff:∀ b,(∀ j s,kindIn o.oblks j=some s->ρ j≠b)->putBlks ρ o.oblks rr.2 (dropBlks kl (killsH kl S.H)) b=if b∈kl then .dead else kb kl (S.H b):=λb hb=>by
   rw [putBlks_other _ _ _ _ hb,dropBlks_eq,killsH_eq]
  generalize hH':putBlks ρ o.oblks rr.2 (dropBlks kl (killsH kl S.H))=H' at hK3 hat hoff
  have hex:∃ μ':Nat->Option Nat,(∀ j s,kindIn o.oblks j=some s->μ' (ρ j)=μ2 j)/\∀ b,(∀ j s,kindIn o.oblks j=some s->ρ j≠b)->μ' b=μ b:=by
   classical
   refine ⟨λb=>if hh:∃ j s,kindIn o.oblks j=some s/\ρ j=b then μ2 hh.choose else μ b,λj s hs=>?_,λb hb=>?_⟩
   ·have hh:∃ j' s,kindIn o.oblks j'=some s/\ρ j'=ρ j:=⟨j,s,hs,rfl⟩
    simp only [hh,dite_true]
    obtain ⟨_,_,h3⟩:=hh.choose_spec
    rw [hinj0 _ _ h3]
   ·exact dif_neg λ⟨j,s,h1,h2⟩=>hb j s h1 h2
  obtain ⟨μ3,hm3,hm3'⟩:=hex
  have hlive2:∀ j s,kindIn o.oblks j=some s->unBlks o.oblks rr.2 j≠.dead:=λj s hs=>by
   obtain ⟨x,hx⟩:=unBlks_some o.oblks rr.2 j s hs
   rw [hx];exact (unB_kin s x).live
  have hren:Ren o.oblks ρ μ2 μ3 (unBlks o.oblks rr.2) H':=λj s hs=>⟨hm3 j s hs,hat j s hs,hlive2 j s hs⟩
  have hcase:∀ b,(∃ j s,kindIn o.oblks j=some s/\ρ j=b)\/(∀ j s,kindIn o.oblks j=some s->ρ j≠b):=λb=>by
   by_cases hh:∃ j s,kindIn o.oblks j=some s/\ρ j=b
   ·exact .inl hh
   ·exact .inr λj s h1 h2=>hh ⟨j,s,h1,h2⟩
  have hold:∀ b,(∀ j s,kindIn o.oblks j=some s->ρ j≠b)->H' b≠.dead->b∉kl/\S.H b≠.dead/\H' b=kb kl (S.H b)/\μ3 b=μ b:=λb hb hl=>by
   have h1:=hoff b hb
   by_cases hbk:b∈kl
   ·rw [if_pos hbk] at h1;exact absurd h1 hl
   ·rw [if_neg hbk] at h1
    refine ⟨hbk,λhd=>hl ?_,h1,hm3' b hb⟩
    rw [h1];exact kb_kind.1 hd
  have hunbound:∀ b,(∀ j s,kindIn o.oblks j=some s->ρ j≠b)->b∉kl->∀ j,j<o.blks.length->findB B.m j≠some (some b):=λb hb hbk j hj hf=>by
   obtain ⟨s,hs,_,hdat,_⟩:=hsrc j hj b hf
   have hρj:ρ j=b:=by
    rw [<- hρ]
    unfold renOf
    have:Nat.ble o.blks.length j=false:=by
     cases hh:Nat.ble o.blks.length j with
     | false=>rfl
     | true=>have:=Nat.le_of_ble_eq_true hh;omega
    rw [this,hf];rfl
   have hmem:=kindIn_mem hs
   have hs2:=fblks _ hmem
   cases s with
   | data t =>
    refine hbk ?_
    rw [<- hkl]
    exact List.mem_append_right _ (List.mem_map.2 ⟨j,mem_dataIds hmem,hρj⟩)
   | iter=>have:=hs2.1.2;simp [notIter] at this
   | vars cs =>
    have h4:=hs2.2
    cases hko:kindIn o.oblks j with
    | none=>simp [hko,tagO,BSh.tag] at h4
    | some s'=>exact hb j s' hko hρj
   | mapd kt vt ag =>
    refine hbk ?_
    rw [<- hkl]
    exact List.mem_append_right _ (List.mem_map.2 ⟨j,mem_dataIds' hmem,hρj⟩)
  have htrk:∀ g,Trk μ3 H' g->Trk μ2 (unBlks o.oblks rr.2) g\/∃ b,(∀ j s,kindIn o.oblks j=some s->ρ j≠b)/\b∉kl/\S.H b≠.dead/\μ b=some g:=λg ⟨b,h1,h2⟩=>by
   rcases hcase b with ⟨j,s,hs,rfl⟩ | hb
   ·rw [hm3 j s hs] at h2
    exact .inl ⟨j,hlive2 j s hs,h2⟩
   ·obtain ⟨k1,k2,_,k4⟩:=hold b hb h1
    exact .inr ⟨b,hb,k1,k2,by rw [<- k4];exact h2⟩
  have htrk1:∀ g,Trk (muB μ B) (unBlks o.blks q) g->Trk μ S.H g:=λg=>hfin.trk
  have hk:Keep (Not F μ S.H).trk w w':=⟨hchg.size,λg hg hn=>hchg.keep g hg λht=>hn (.inr (htrk1 g ht))⟩
  have hN:Sub w (Not F μ3 H') (Not F μ S.H):=Sub.ofTrk λg hg hn=>by
   rcases htrk g hn with h1 | ⟨b,_,_,h1,h2⟩
   ·exact htrk1 g ((hnew g h1).resolve_right (by omega))
   ·exact ⟨b,h1,h2⟩
  have hkept:∀ b,(∀ j s,kindIn o.oblks j=some s->ρ j≠b)->b∉kl->S.H b≠.dead->∀ g,μ b=some g->w'.heap[g]?=w.heap[g]?:=λb hb hbk hl g hg=>by
   refine hchg.keep g (hp.lt b g hl hg) λ⟨j,h1,h2⟩=>?_
   have h3:=hf2 j h1
   unfold From at h3
   unfold muB at h2
   cases hf:findB B.m j with
   | none=>simp [hf] at h2
   | some x =>
    cases x with
    | none=>simp [hf] at h2
    | some b' =>
     simp only [hf] at h2 h3
     have:=hp.inj b b' g hl h3.1 hg h2
     subst this
     exact hunbound b hb hbk j (hkey j h1) hf
  have hcompat:∀ b,hasN kl b=false->S.H b≠.dead->Compat w w' μ μ3 S.H H' b:=λb hbk hl=>by
   have hbk':b∉kl:=λhm=>by rw [hasN_mem.2 hm] at hbk;cases hbk
   rcases hcase b with ⟨j,s,hs,hjb⟩ | hb
   ·rcases hρc j with ⟨h1,b',h2,h3⟩ | h1
    ·rw [hjb] at h3
     subst h3
     obtain ⟨s0,hs0,hl0,hd0,hv0⟩:=hsrc j h1 b h2
     have hmem:=kindIn_mem hs0
     have hs2:=fblks _ hmem
     have htag:s0.tag≠0->Compat w w' μ μ3 S.H H' b:=λht=>by
      have h4:=hs2.2
      simp only [hs,tagO] at h4
      have hst:s.tag=s0.tag:=by
       rw [Bool.or_eq_true] at h4
       rcases h4 with h4 | h4
       ·exact absurd (nEb h4) ht
       ·exact nEb h4
      obtain ⟨x,hx⟩:=unBlks_some o.oblks rr.2 j _ hs
      obtain ⟨y,hy⟩:=unBlks_some o.blks q j _ hs0
      have hxt:(unBlks o.oblks rr.2 j).tag=s.tag:=by rw [hx];exact (unB_kin s x).tag
      have hyt:(unBlks o.blks q j).tag=s0.tag:=by rw [hy];exact (unB_kin s0 y).tag
      obtain ⟨_,hpj⟩:=hpin j h1 (by rw [hxt,hst];exact ht)
      have hbt:(S.H b).tag=s0.tag:=(hv0 (by rw [hyt];exact ht)).trans hyt
      refine ⟨?_,?_⟩
      ·rw [<- hjb,hm3 j _ hs,hpj]
       unfold muB
       rw [h2,hjb]
      ·have hd:H' b≠.dead:=by
        rw [<- hjb,hat j _ hs]
        exact renB_live (hlive2 j _ hs)
       cases hSb:S.H b <;> simp only <;> first | exact hd | (rw [hSb] at hbt;exact absurd hbt.symm ht)
     cases s0 with
     | data t=>exact absurd (by rw [<- hkl];exact List.mem_append_right _ (List.mem_map.2 ⟨j,mem_dataIds hmem,hjb⟩)) hbk'
     | iter=>have:=hs2.1.2;simp [notIter] at this
     | vars cs=>exact htag (by simp [BSh.tag])
     | mapd kt vt ag=>exact absurd (by rw [<- hkl];exact List.mem_append_right _ (List.mem_map.2 ⟨j,mem_dataIds' hmem,hjb⟩)) hbk'
    ·have:=hlive_lt b hl;omega
   ·have hH:H' b=kb kl (S.H b):=by rw [hoff b hb,if_neg hbk']
    refine ⟨hm3' b hb,?_⟩
    cases hSb:S.H b with
    | dead=>exact absurd hSb hl
    | data t l =>
     refine ⟨⟨l,by rw [hH];exact kb_kind.2.2.2 t l hSb,rfl⟩,λg n hg hrm=>?_⟩
     exact room_of_heap' (λ_=>hkept b hb hbk' hl g hg) hrm
    | vars cs=>simp only;rw [hH];exact kb_kind.2.1 hl
    | iter s k=>simp only;rw [hH];exact kb_kind.2.1 hl
    | mapd kt vt ag l=>simp only;rw [hH];exact kb_kind.2.1 hl
  have hsl:(hasSl o.out||hasSlB o.oblks)=true->SubL (hasLn o.out||hasLnB o.oblks) w' (Not F μ3 H') (Not F' μ2 (unBlks o.oblks rr.2)):=λhh=>by
   have key:∀ b,b∉kl->b∉B.y:=λb hbk hy=>hbk (by
    rw [<- hkl,<- hgone,hh]
    refine List.mem_append_left _ ?_
    cases (hasLn o.out||hasLnB o.oblks)
    ·exact hy
    ·exact List.mem_append_right _ hy)
   refine ⟨λg _ hn=>?_,λ_ _ h=>h,λhln=>⟨λg _ hn=>?_,λg _ hn=>?_,λ_ _ h=>h,λ_ _ h=>h⟩⟩
   ·rcases hn with hn | hn
    ·exact .inl (.inl hn)
    ·rcases htrk g hn with h1 | ⟨b,hb,hbk,h1,h2⟩
     ·exact .inr h1
     ·exact .inl (.inr ⟨b,h1,h2,key b hbk,hunbound b hb hbk⟩)
   ·rcases hn with hn | hn
    ·exact .inl (.inl hn)
    ·rcases htrk g hn with h1 | ⟨b,hb,hbk,h1,h2⟩
     ·exact .inr h1
     ·exact .inl (.inr ⟨b,h1,h2,key b hbk,hunbound b hb hbk⟩)
   ·rcases hn with hn | hn
    ·exact .inl (.inl hn)
    ·rcases htrk g hn with h1 | ⟨b,hb,hbk,h1,h2⟩
     ·exact .inr h1
     ·refine .inl (.inr ⟨b,h1,h2,⟨λhz=>hbk ?_,key b hbk⟩,hunbound b hb hbk⟩)
      rw [<- hkl,<- hgone,hh,hln]
      exact List.mem_append_left _ (List.mem_append_left _ hz)
  have hapart:∀ b g,H' b≠.dead->μ3 b=some g->¬ F g:=λb g hl hg hF=>by
   rcases hcase b with ⟨j,s,hs,rfl⟩ | hb
   ·rw [hm3 j s hs] at hg
    exact hp2.apart j g (hlive2 j s hs) hg (.inl hF)
   ·obtain ⟨_,k2,_,k4⟩:=hold b hb hl
    exact hp.apart b g k2 (by rw [<- k4];exact hg) hF
  have hapart2:∀ b g,H' b≠.dead->μ3 b=some g->¬ (tabsOf P).out g:=λb g hl hg hF=>by
   rcases hcase b with ⟨j,s,hs,rfl⟩ | hb
   ·rw [hm3 j s hs] at hg
    exact hp2.tapart j g (hlive2 j s hs) hg hF
   ·obtain ⟨_,k2,_,k4⟩:=hold b hb hl
    exact hp.tapart b g k2 (by rw [<- k4];exact hg) hF
  have hmark2:∀ b g,unm (H' b)=true->μ3 b=some g->NoMark w' g:=λb g hl hg=>by
   rcases hcase b with ⟨j,s,hs,rfl⟩ | hb
   ·rw [hm3 j s hs] at hg
    refine hp2.mark j g ?_ hg
    rw [hat j s hs] at hl
    revert hl
    cases unBlks o.oblks rr.2 j <;> exact id
   ·obtain ⟨k1,k2,k3,k4⟩:=hold b hb (λh=>by (rw [h] at hl;cases hl))
    rw [k3,unm_kb] at hl
    rw [k4] at hg
    exact (hp.mark b g hl hg).of_heap (hkept b hb k1 k2 g hg)
  have hwfm2:∀ b g,H' b≠.dead->μ3 b=some g->Wfm w' g:=λb g hl hg=>by
   rcases hcase b with ⟨j,s,hs,rfl⟩ | hb
   ·rw [hm3 j s hs] at hg
    exact hp2.wfm j g (hlive2 j s hs) hg
   ·obtain ⟨k1,k2,k3,k4⟩:=hold b hb hl
    rw [k4] at hg
    exact (hp.wfm b g k2 hg).of_heap (hkept b hb k1 k2 g hg)
  have himold:∀ j s b g,kindIn o.oblks j=some s->μ2 j=some g->(∀ j s,kindIn o.oblks j=some s->ρ j≠b)->b∉kl->S.H b≠.dead->μ b=some g->False:=λj s b g hs hg hb hbk hl hg'=>by
   have hlt:=hp.lt b g hl hg'
   rcases hnew g ⟨j,hlive2 j s hs,hg⟩ with ⟨j1,h1,h2⟩ | h1
   ·have h3:=hf2 j1 h1
    unfold From at h3
    unfold muB at h2
    cases hf:findB B.m j1 with
    | none=>simp [hf] at h2
    | some x =>
     cases x with
     | none=>simp [hf] at h2
     | some b' =>
      simp only [hf] at h2 h3
      have:=hp.inj b b' g hl h3.1 hg' h2
      subst this
      exact hunbound b hb hbk j1 (hkey j1 h1) hf
   ·omega
  have hhp:Hp F μ3 H' (S.nx+(o.blks.length+o.oblks.length)) w':=by
   refine ⟨λb=>?_,λb g hl hg=>?_,λb b' g hl hl' hg hg'=>?_,λb hb=>?_,hapart,λg hg=>Nat.lt_of_lt_of_le (hp.flt g hg) hchg.size,hp2.tab,hapart2,hmark2,hwfm2⟩
   ·rcases hcase b with ⟨j,s,hs,rfl⟩ | hb
    ·have hB2:=hp2.blk j
     obtain ⟨x,hx⟩:=unBlks_some o.oblks rr.2 j s hs
     rw [hat j s hs]
     rw [hx] at hB2 ⊢
     have hmem:=kindIn_mem hs
     have hs2:=foblks _ hmem
     cases s with
     | vars cs =>
      simp only [unB,RelB,renB] at hB2 ⊢
      rw [hm3 j _ hs]
      rcases hB2 with hB2 | ⟨g,vs,h1,h2,h3,h4⟩
      ·exact .inl hB2
      refine .inr ⟨g,vs,h1,?_,h3,h4⟩
      exact renL_ok hren cs x vs (λhh=>hsl (by rw [hasSlB_vars hmem hh];simp)) (λhh=>by rw [hasLnB_vars hmem hh];simp) (by simpa [bshOK] using hs2.1.2) h2
     | data t =>
      simp only [unB,RelB,renB] at hB2 ⊢
      rw [hm3 j _ hs]
      rcases hB2 with h1 | ⟨g,h1,h2,h3⟩
      ·exact .inl h1
      ·refine .inr ⟨g,h1,h2,λi hi=>?_⟩
       obtain ⟨es,e1,e2,e3⟩:=h3 i hi
       exact ⟨es,e1,e2,RelD_to (λhh=>hsl (by rw [hasSlB_data hmem hh];simp)) (λhh=>by rw [hasLnB_data hmem hh];simp) e3⟩
     | iter =>
      simp only [unB,RelB,renB] at hB2 ⊢
      rw [hm3 j _ hs]
      exact hB2
     | mapd kt vt ag =>
      simp only [unB,RelB,renB] at hB2 ⊢
      rw [hm3 j _ hs]
      rcases hB2 with hB2 | ⟨g,es,c,h1,h2,h3,h4⟩
      ·exact .inl hB2
      refine .inr ⟨g,es,c,h1,h2,h3,h4.1,λi a b=>?_⟩
      obtain ⟨r1,cs,r2,r3⟩:=h4.2 i a b
      exact ⟨RelD_to (λhh=>hsl (by rw [hasSlB_map hmem (by rw [hh];simp)];simp)) (λhh=>by rw [hasLnB_map hmem (by rw [hh];simp)];simp) r1,cs,RelD_to (λhh=>hsl (by rw [hasSlB_map hmem (by rw [hh];simp)];simp)) (λhh=>by rw [hasLnB_map hmem (by rw [hh];simp)];simp) r2,r3⟩
    ·by_cases hbk:b∈kl
     ·rw [hoff b hb,if_pos hbk];simp [RelB]
     ·have hH:H' b=kb kl (S.H b):=by rw [hoff b hb,if_neg hbk]
      rw [hH]
      have hB:=hp.blk b
      cases hSb:S.H b with
      | dead=>rw [kb_kind.1 rfl];simp [RelB]
      | vars cs =>
       have hlb:S.H b≠.dead:=by simp [hSb]
       simp only [hSb,RelB] at hB
       have hkb:kb kl (.vars cs)=.vars (kL kl cs):=by cases kl <;> rfl
       rw [hkb]
       simp only [RelB]
       rw [hm3' b hb]
       rcases hB with hB | ⟨g,vs,h1,h2,h3,h4⟩
       ·exact .inl hB
       have hsame:=hkept b hb hbk hlb g h1
       exact .inr ⟨g,vs,h1,RelVs_kL hk hN hcompat _ _ h2,rowAt_of_heap hsame h3,room_of_heap' (λ_=>hsame) h4⟩
      | data t l =>
       have hlb:S.H b≠.dead:=by simp [hSb]
       simp only [hSb,RelB] at hB
       rw [kb_kind.2.2.2 t l rfl]
       simp only [RelB]
       rw [hm3' b hb]
       rcases hB with h1 | ⟨g,h1,h2,h3⟩
       ·exact .inl h1
       ·have hsame:=hkept b hb hbk hlb g h1
        refine .inr ⟨g,h1,room_of_heap' (λ_=>hsame) h2,λi hi=>?_⟩
        obtain ⟨es,e1,e2,e3⟩:=h3 i hi
        exact ⟨es,e1,rowAt_of_heap hsame e2,e3.keep hk hN⟩
      | iter s k =>
       have hlb:S.H b≠.dead:=by simp [hSb]
       simp only [hSb,RelB] at hB
       obtain ⟨g,h1,h2⟩:=hB
       have hsame:=hkept b hb hbk hlb g h1
       have hkb:kb kl (.iter s k)=.iter s k:=by cases kl <;> rfl
       rw [hkb]
       simp only [RelB]
       exact ⟨g,by rw [hm3' b hb];exact h1,by rw [hsame];exact h2⟩
      | mapd kt vt ag l =>
       have hlb:S.H b≠.dead:=by simp [hSb]
       simp only [hSb,RelB] at hB
       have hkb:kb kl (.mapd kt vt ag l)=.mapd kt vt ag l:=by cases kl <;> rfl
       rw [hkb]
       simp only [RelB]
       rw [hm3' b hb]
       rcases hB with hB | ⟨g,es,c,h1,h2,h3,h4⟩
       ·exact .inl hB
       have hsame:=hkept b hb hbk hlb g h1
       exact .inr ⟨g,es,c,h1,by rw [hsame];exact h2,h3,h4.keep hk hN⟩
   ·rcases hcase b with ⟨j,s,hs,rfl⟩ | hb
    ·rw [hm3 j s hs] at hg
     exact hp2.lt j g (hlive2 j s hs) hg
    ·obtain ⟨_,k2,_,k4⟩:=hold b hb hl
     exact Nat.lt_of_lt_of_le (hp.lt b g k2 (by rw [<- k4];exact hg)) hchg.size
   ·rcases hcase b with ⟨j,s,hs,rfl⟩ | hb <;> rcases hcase b' with ⟨j',s',hs',rfl⟩ | hb'
    ·rw [hm3 j s hs] at hg
     rw [hm3 j' s' hs'] at hg'
     rw [hp2.inj j j' g (hlive2 j s hs) (hlive2 j' s' hs') hg hg']
    ·rw [hm3 j s hs] at hg
     obtain ⟨k1,k2,_,k4⟩:=hold b' hb' hl'
     exact (himold j s b' g hs hg hb' k1 k2 (by rw [<- k4];exact hg')).elim
    ·rw [hm3 j' s' hs'] at hg'
     obtain ⟨k1,k2,_,k4⟩:=hold b hb hl
     exact (himold j' s' b g hs' hg' hb k1 k2 (by rw [<- k4];exact hg)).elim
    ·obtain ⟨_,k2,_,k4⟩:=hold b hb hl
     obtain ⟨_,l2,_,l4⟩:=hold b' hb' hl'
     exact hp.inj b b' g k2 l2 (by rw [<- k4];exact hg) (by rw [<- l4];exact hg')
   ·have hb':∀ j s,kindIn o.oblks j=some s->ρ j≠b:=λj s hs he=>by
     have h1:j<o.blks.length+o.oblks.length:=Nat.le_of_ble_eq_true (foblks _ (kindIn_mem hs)).1.1
     rcases hρc j with ⟨h2,b',h3,h4⟩ | h2
     ·have:=hbl j h2 b' h3;omega
     ·omega
    rw [hoff b hb']
    split
    ·rfl
    ·exact kb_kind.1 (hp.dead b (by omega))
  have hpl:Pl F μ S.H S.nx w kl μ3 H' (S.nx+(o.blks.length+o.oblks.length)) w':=by
   refine ⟨⟨⟨hchg.size,λg hg hn=>hchg.keep g hg λht=>hn (htrk1 g ht)⟩,hchg.os,hchg.tape,hchg.output⟩,λg hg=>?_,by omega,λx v hx=>RelV_kv hk hN hcompat x v hx,λb hb ht=>?_⟩
   ·rcases htrk g hg with h1 | ⟨b,_,_,h1,h2⟩
    ·exact (hnew g h1).imp (htrk1 g) id
    ·exact .inl ⟨b,h1,h2⟩
   ·rcases hcase b with ⟨j,s,hs,hjb⟩ | hb'
    ·rcases hρc j with ⟨h1,b',h2,h3⟩ | h1
     ·rw [hjb] at h3
      subst h3
      rw [<- hjb,hat j s hs,tag_renB] at ht
      obtain ⟨h4,h5⟩:=hpin j h1 ht
      obtain ⟨_,_,_,_,hv0⟩:=hsrc j h1 b h2
      refine ⟨?_,?_⟩
      ·rw [<- hjb,hat j s hs,tag_renB,hjb,hv0 (by rw [h4];exact ht),h4]
      ·rw [<- hjb,hm3 j _ hs,h5]
       unfold muB
       rw [h2,hjb]
     ·omega
    ·obtain ⟨_,_,k3,k4⟩:=hold b hb' (λh=>ht (by rw [h];rfl))
     rw [k3,tag_kb]
     exact ⟨rfl,k4⟩
  refine ⟨_,_,μ3,kl,val,hee.ren,hK3,rfl,rfl,hhp,hpl,?_,λhnil=>?_⟩
  ·exact renV_ok hren o.out rr.1 val (λhh=>hsl (by rw [hh];rfl)) (λhh=>by rw [hh];rfl) fout hv2
  ·refine ⟨hchg.size,λg hg _=>hchg.keep g hg λ⟨j,h1,_⟩=>?_⟩
   have:=hkey j h1
   rw [hnil] at this
   simp at this
end
end Go.Ev
