/- Texts that the last one leans on, 5. -/
import Derived.Test.YtbnmcdcpendjjaaOD
import Derived.ProofKit
import Derived.DataReads
import Derived.ChangeOld
import Derived.Lib.Bytealg
import Derived.Shelf.Unicode.DecodeAny
import Derived.Lib.IndexMore
import Derived.Shelf.SlSortCmp.WholeK
import Derived.Shelf.Small.Bits
import Derived.Shelf.Small.Wraps
import Derived.Shelf.Strconv.Itoa0
import Derived.Shelf.Strings.Search1
import Derived.Shelf.Strings.Search2
import Derived.Shelf.Strings.Search3
import Derived.Shelf.LaysM
import Derived.Shelf.Strings.Shaped
import Derived.Ground.Names2Prog
import Derived.Shelf.Slices.SearchI
import Derived.Ground.SlsfProg
import Derived.Shelf.SlSortCmp.InsertionK
import Derived.Shelf.SlSortCmp.SiftDownK
import Derived.Shelf.SlSortCmp.HeapSortK
import Derived.Shelf.SlSortCmp.MedianK
import Derived.Shelf.SlSortCmp.PivotK
import Derived.Shelf.SlSortCmp.ReverseRangeK
import Derived.Shelf.SlSortCmp.PartialInsertionK
import Derived.Shelf.SlSortCmp.PartitionEqualK
import Derived.Shelf.SlSortCmp.PartitionK
import Derived.Shelf.SlSortCmp.PdqK
import Derived.Test.YtbnmcdcpendjjaaProg
import Derived.KernelRfl
namespace Go.Ev
open Go
section
variable {P:Program} {F:Frm (tabsOf P)} {μ:Nat->Option Nat} {w w':World} {α:Type} {r:α} {M:FuncId->Bool}
theorem strip_leaf:strip HT.leaf=.leaf:=rfl
theorem loopsIn_leaf:∀ (c:Code),loopsIn c .leaf=[]
 | .seq a b=>by simp [loopsIn,HT.fst,HT.snd,strip_leaf,loopsIn_leaf a,loopsIn_leaf b]
 | .cond _ a b=>by simp [loopsIn,HT.fst,HT.snd,strip_leaf,loopsIn_leaf a,loopsIn_leaf b]
 | .block _ a=>by simp [loopsIn,HT.fst,strip_leaf,loopsIn_leaf a]
 | .loop _=>rfl
 | .skip=>rfl
 | .exit _=>rfl
 | .ret=>rfl
 | .region _ _ _=>rfl
 | .label _=>rfl
 | .goto _=>rfl
 | .scope a=>by simp [loopsIn,HT.fst,strip_leaf,loopsIn_leaf a]
 | .rangeFunc _ _ _ _=>rfl
 | .refuse _=>rfl
def NvOK (P:Program) (f:FuncId) (g:List AV->Option AV):Prop :=
 ∀ args v,g args=some v->∀ w N μ H vals,RelVs w N μ H args vals->∃ val,RelV w N μ H v val/\∀ w1,(callFunc f vals.toArray).run P w1=.ok (.value val) w1
def PvOK (P:Program) (f:FuncId) (g:List AV->Option AV):Prop :=
 Enters P f/\∀ args v,g args=some v->∀ w N μ H vals,(tabsOf P).tab w->RelVs w N μ H args vals ->
  Calls P f vals.toArray w λe w'=>∃ val,e=.returned val/\(∀ w1 N1 μ1 H1,RelV w1 N1 μ1 H1 v val)/\RowKit.Below w.heap.size w w'
def YOK (P:Program) (f:FuncId) (g:List AV->Option AV):Prop:=NvOK P f g\/PvOK P f g
def ZOK (P:Program) (f:FuncId) (z:Deed):Prop :=
 Enters P f/\∀ (args:List AV) (S:St) (v:AV) (S':St),z args S=some (true,v,S')->∀ (F:Frm (tabsOf P)) μ w vals,Hp F μ S.H S.nx w->RelVs w (Not F μ S.H) μ S.H args vals ->
  Calls P f vals.toArray w λe w'=>∃ μ' kl val,e=.returned val/\S'.E=killsE kl S.E/\S'.kl=S.kl++kl/\Hp F μ' S'.H S'.nx w'/\Pl F μ S.H S.nx w kl μ' S'.H S'.nx w'/\RelV w' (Not F μ' S'.H) μ' S'.H v val
theorem callX_ok (hm:P.follows .mixedOrders=true) {X:FuncId->List AV->Option Orc} {B:FuncId->Option Bool} {Y:FuncId->Option (List AV->Option AV)} {Z:FuncId->Option Deed} {I:FuncId->Bool} (hX:∀ f args o,X f args=some o->o.OK P f) (hB:∀ f args o,X f args=some o->∃ b,B f=some b/\(b=true->o.blks=[]))
  (hBY:∀ f b,B f=none->b∈Y f->YOK P f b) (hY:∀ f g,Y f=some g->B f=none) (hZ:∀ f z,Z f=some z->ZOK P f z/\B f=none/\Y f=none) (hI:∀ f,I f=true->Enters P f/\B f=none/\Y f=none):∀ d,CallOK P (callX P X B Y Z I d) (mild B Y)
 | 0=>λf args S α K r h=>by cases h
 | d+1=>λf args S α K r h F μ w vals hp hargs=>by
  simp only [callX] at h
  cases hXf:X f args with
  | some o =>
   simp only [hXf] at h
   have ho:=hX f args o hXf
   refine .inl ⟨λw1=>ho.enters _ _,(o.call_ok ho h hp hargs).mono λe w' ⟨v,S',μ',kl,val,h1,h2,h3,h4,h5,h6,h7,h8⟩=>⟨v,S',μ',kl,val,h1,h2,h3,h4,h5,h6,h7,λhM=>h8 ?_⟩⟩
   obtain ⟨b,hb1,hb2⟩:=hB f args o hXf
   simp only [mild,hb1] at hM
   exact hb2 hM
  | none =>
   simp only [hXf] at h
   cases hYf:Y f with
   | some g =>
    simp only [hYf] at h
    cases hg:g args with
    | none=>simp [hg] at h
    | some v =>
     simp only [hg] at h
     obtain ⟨hnp,h⟩:=cond_some h
     rcases hBY f g (hY f g hYf) hYf with hY | ⟨hen,hpv⟩
     ·obtain ⟨val,h1,h2⟩:=hY args v hg w _ _ _ vals hargs
      exact .inr ⟨v,val,hnp,h,h1,h2⟩
     ·refine .inl ⟨λw1=>hen _ _,(hpv args v hg w _ _ _ vals hp.tab hargs).mono λe w' ⟨val,h1,h2,bel⟩=>?_⟩
      exact ⟨v,S,μ,[],val,(EndR.ret hnp).2 h1,h,rfl,by simp,hp.keep ⟨bel.size,λg hg _=>bel.block g hg⟩ λg ⟨b,hb,hg⟩=>bel.block g (hp.lt b g hb hg),
       Pl.keep hp ⟨⟨bel.size,λg hg _=>bel.block g hg⟩,bel.os,bel.tape,bel.output⟩,h2 _ _ _ _,λ_=>⟨bel.size,λg hg _=>bel.block g hg⟩⟩
   | none =>
    simp only [hYf] at h
    cases hZf:Z f with
    | some z =>
     simp only [hZf] at h
     obtain ⟨⟨hen,hz⟩,hb1,hb2⟩:=hZ f z hZf
     cases hza:z args S with
     | none=>simp [hza] at h
     | some q =>
      obtain ⟨side,v,S'⟩:=q
      simp only [hza] at h
      obtain ⟨hs,hK⟩:=need_some h
      subst hs
      obtain ⟨hnp,hK⟩:=cond_some hK
      refine .inl ⟨λw1=>hen _ _,(hz args S v S' hza F μ w vals hp hargs).mono λe w' ⟨μ',kl,val,h1,h2,h3,h4,h5,h6⟩=>⟨v,S',μ',kl,val,(EndR.ret hnp).2 h1,hK,h2,h3,h4,h5,h6,λhM=>?_⟩⟩
      simp [mild,hb1,hb2] at hM
    | none =>
    simp only [hZf] at h
    cases hIf:I f with
    | false=>simp [hIf] at h
    | true =>
     cases hfn:P.funcs[f]? with
     | none=>simp [hIf,hfn] at h
     | some fn =>
      simp only [hIf,hfn] at h
      obtain ⟨hI1,hI2,hI3⟩:=hI f hIf
      refine .inl ⟨λw1=>hI1 _ _,?_⟩
      refine (evFn_ok hm (callX_ok hm hX hB hBY hY hZ hI d) hfn (h:=.leaf) (λc _ x hx=>by rw [strip_leaf,loopsIn_leaf] at hx;cases hx) h hp hargs (Nat.zero_le _)).mono ?_
      intro e w' ⟨v,S',μ',a,a',val,h1,h2,h3,h4⟩
      obtain ⟨kl,k1,k2⟩:=h4.pl rfl
      have k3:S'.kl=kl:=by simpa [inSt] using k1
      refine ⟨v,_,μ',kl,val,h1,h2,by simp only;rw [k3],by simp only;rw [k3],h4.rg.hp,k2,h3,λhM=>?_⟩
      simp [mild,hI2,hI3] at hM
theorem packV_np {H:Nat->Blk}:∀ (v:VSh) (x:AV) (B:Bd) (K:v.den->Bd->Option α),noPan x=true->packV H v x B K=some r->∀ p:v.den,noPan (unV v p)=true:=λv x B K _ h p=>by
 cases v
 case may v1 v2=>cases x <;> simp [packV] at h
 all_goals rfl
theorem packR_ok {pin:Nat} {bl:List (Nat×BSh)} {H:Nat->Blk} {nx:Nat} (hp:Hp F μ H nx w) (v:VSh) (x:AV) (B:Bd) (K:v.den->Bd->Option α) (val:Value) (e:Ending) (he:EndR e x val) (hx:RelV w (Not F μ H) μ H x val) (h:packR H v x B K=some r) :
  ∃ p B',K p B'=some r/\Ext B B'/\EndR e (unV v p) val/\∀ (F':Frm (tabsOf P)) Bf H',Ext B' Bf->Fin F F' μ pin H bl Bf H'->refsOK bl v=true->RelV w (Not F' (muB μ Bf) H') (muB μ Bf) H' (unV v p) val:=by
 have plain:noPan x=true->∀ (v:VSh) (K:v.den->Bd->Option α),packV H v x B K=some r->∃ p B',K p B'=some r/\Ext B B'/\EndR e (unV v p) val/\∀ (F':Frm (tabsOf P)) Bf H',Ext B' Bf->Fin F F' μ pin H bl Bf H'->refsOK bl v=true->RelV w (Not F' (muB μ Bf) H') (muB μ Bf) H' (unV v p) val:=λhn v K h=>by
  obtain ⟨p,B',h1,h2,h3⟩:=packV_ok (pin:=pin) (bl:=bl) hp v x B K val hx h
  exact ⟨p,B',h1,h2,(EndR.ret (packV_np v x B K hn h p)).2 ((EndR.ret hn).1 he),h3⟩
 cases hn:noPan x with
 | true =>
  cases v
  case may v1 v2 =>
   have h':packV H v1 x B (λp B=>K (Sum.inl p) B)=some r:=by
    cases x <;> first | exact h | (simp [noPan] at hn)
   obtain ⟨p,B',h1,h2,h3,h4⟩:=plain hn v1 _ h'
   refine ⟨Sum.inl p,B',h1,h2,h3,λF' Bf H' g1 g2 g3=>?_⟩
   simp only [refsOK,bAt] at g3
   exact h4 F' Bf H' g1 g2 g3.1
  all_goals
   refine plain hn _ K ?_
   cases x <;> first | exact h | (simp [noPan] at hn)
 | false =>
  cases x <;> simp only [noPan,Bool.true_eq_false] at hn
  rename_i y
  cases v
  case may v1 v2 =>
   have h':packV H v2 y B (λq B=>K (Sum.inr q) B)=some r:=h
   simp only [RelV] at hx
   obtain ⟨p,B',h1,h2,h3⟩:=packV_ok (pin:=pin) (bl:=bl) hp v2 y B _ val hx h'
   refine ⟨Sum.inr p,B',h1,h2,he,λF' Bf H' g1 g2 g3=>?_⟩
   simp only [refsOK,bAt] at g3
   have:=h3 F' Bf H' g1 g2 g3.2
   exact this
  all_goals simp [packR] at h
theorem evTop_ok (hm:P.follows .mixedOrders=true) {C:Calling} (hC:CallOK P C M) {f:FuncId} {fn:Func} (hf:P.funcs[f]?=some fn) (hen:Enters P f) {h:HT} {o:Orc} (hfit:o.fits=true)
  (hl:∀ c,fn.body=some c->∀ x∈loopsIn c (strip h),x.OK P C M o.blks.length fn.ntmps) (hrun:∀ p r,o.run p=some r->evTop P C M fn h o p=some r):o.OK P f:=by
 refine ⟨hen,hfit,λp r hr F μ w vals hp hargs=>?_⟩
 have he:=hrun p r hr
 unfold evTop at he
 refine (evFn_ok hm hC hf hl he hp hargs (Nat.le_refl _)).mono λe w' ⟨v,S',μ',a,a',val,h1,h2,h3,h4⟩=>?_
 have hfits:=hfit
 simp only [Orc.fits,bAt,List.all_eq_true] at hfits
 obtain ⟨⟨⟨⟨⟨fnd,frange⟩,fargs⟩,fout⟩,fblks⟩,foblks⟩:=hfits
 have hp':=h4.rg.hp
 obtain ⟨x,B1,k1,k2,hend,k3⟩:=packR_ok (pin:=o.blks.length) (bl:=o.oblks) hp' o.out v _ _ val e h1 h3 h2
 obtain ⟨y,B,k4,k5,k6,k7,k8,k9⟩:=packBlks_ok (bl:=o.oblks) hp' o.oblks k1
 obtain ⟨hB,k10⟩:=cond_some k4
 simp only [oSi] at k10
 have hfin:Fin F F μ' o.blks.length S'.H o.oblks B (unBlks o.oblks y):=⟨hB,k6,k7,λ_ h=>.inl h,λ_ h=>.inl h,λb g _ hl hm hh=>hp'.apart b g hl hm (F.le g hh),λb g _ hl hm=>hp'.apart b g hl hm,rfl,rfl⟩
 have hhp:Hp F (muB μ' B) (unBlks o.oblks y) (o.blks.length+o.oblks.length) w':=by
  refine hfin.hp hp' (λj=>k9 F B _ (Ext.refl B) hfin (List.all_eq_true.2 λx hx=>(foblks x hx).1.2) j) (λj hj=>?_) (λ_ b g _ _ hl hm=>hp'.apart b g hl hm) hp'.flt
  by_cases hd:unBlks o.oblks y j=.dead
  ·exact hd
  ·obtain ⟨x,hx,rfl⟩:=k8 j hd
   have:=Nat.le_of_ble_eq_true (foblks x hx).1.1
   omega
 have hv:=k3 F B _ k5 hfin fout
 subst k10
 refine ⟨val,muB μ' B,_,hend,hhp,hv,h4.chg,λg hg=>h4.new g (hfin.trk hg),λj hj=>(hfin.pinned j hj).trans (h4.pinned j hj)⟩
def noF {T:Tb}:Frm T:={ out:=λ_=>False }
theorem told {f:FuncId} {A:VSh} {run:A.den×blksDen []->Option (VSh.den .b×blksDen [])} (ho:Orc.OK P f ⟨A,[],.b,[],run⟩) {p:A.den} (hrun:run (p,())=some (true,())) {vals:List Value} (ht:(tabsOf P).tab w)
  (hargs:RelVs w (Not (noF:Frm (tabsOf P)) (λ_=>none) λ_=>.dead) (λ_=>none) (λ_=>.dead) (unL A p) vals) :
  Calls P f vals.toArray w λe w'=>e=.returned (.bool true)/\RowKit.Below w.heap.size w w':=by
 have hp:Hp (noF:Frm (tabsOf P)) (λ_=>none) (unBlks [] ()) 0 w:=⟨λb=>by simp [unBlks,RelB],λb g h=>absurd rfl h,λb b' g h=>absurd rfl h,λ_ _=>rfl,λb g h=>absurd rfl h,λg h=>h.elim,ht,λb g h=>absurd rfl h,λb g h=>(by cases h),λb g h=>absurd rfl h⟩
 refine (ho.run (p,()) _ hrun noF (λ_=>none) w vals hp hargs).mono λe w' ⟨val,μ',nx',h1,h2,h3,h4,_⟩=>⟨?_,h4.os,h4.tape,h4.output,h4.size,λk hk=>h4.keep k hk λ⟨j,h,_⟩=>h rfl⟩
 have h1:e=.returned val:=h1
 simp only [unV,RelV] at h3
 rw [h1,h3]
def FUEL:Nat:=9223372036854775808
def loopOf {σ τ:Type} (body:σ->Option (σ⊕τ)) (p:σ):Option τ:=iter body FUEL p
theorem LoopRec.of {C:Calling} {pin n:Nat} {c:Code} {h:HT} {sh:Shape} {o:Outs} {run:sh.den->Option (outsDen o)} {body:sh.den->Option (sh.den⊕outsDen o)} (hrun:run=loopOf body)
  (hb:∀ p,round P C M pin n c h sh o p=body p) (hn:isLoopH h=false:=by rfl):LoopRec.OK P C M pin n ⟨c,h,sh,o,run⟩:=by
 have:∀ p r,run p=some r->∃ m,iter (round P C M pin n c h sh o) m p=some r:=λp r hr=>by
  have:round P C M pin n c h sh o=body:=funext hb
  simp only [hrun,loopOf] at hr
  exact ⟨FUEL,by rw [this];exact hr⟩
 unfold LoopRec.OK
 cases h <;> first | exact this | cases hn
end
def lookX:List (FuncId×Orc)->FuncId->List AV->Option Orc
 | [],_,_=>none
 | (g,o)::r,f,args=>cond (Nat.beq g f&&fitsFn o.args args) (some o) (lookX r f args)
def lookM:List (FuncId×Orc)->FuncId->Option Bool
 | [],_=>none
 | (g,o)::r,f=>cond (Nat.beq g f) (some ((match o.blks with
  | []=>true
  | _=>false)&&(match lookM r f with
  | some b=>b
  | none=>true))) (lookM r f)
def AllX (P:Program):List (FuncId×Orc)->Prop
 | []=>True
 | (g,o)::r=>o.OK P g/\AllX P r
theorem lookX_ok {P:Program}:∀ {l:List (FuncId×Orc)},AllX P l->∀ f args o,lookX l f args=some o->o.OK P f
 | [],_,f,args,o,h=>by cases h
 | (g,o')::r,h,f,args,o,ho=>by
  simp only [lookX] at ho
  cases hb:Nat.beq g f&&fitsFn o'.args args with
  | true =>
   simp only [hb,cTt,oSi] at ho
   subst ho
   simp only [bAt] at hb
   rw [<- nEb hb.1]
   exact h.1
  | false =>
   simp only [hb,cFf] at ho
   exact lookX_ok h.2 f args o ho
theorem lookM_ok:∀ {l:List (FuncId×Orc)} {f:FuncId} {args:List AV} {o:Orc},lookX l f args=some o->∃ b,lookM l f=some b/\(b=true->o.blks=[])
 | [],f,args,o,h=>by cases h
 | (g,o')::r,f,args,o,h=>by
  simp only [lookX] at h
  simp only [lookM]
  cases hg:Nat.beq g f with
  | false =>
   simp only [hg,Bool.false_and,cFf] at h ⊢
   exact lookM_ok h
  | true =>
   refine ⟨_,rfl,λhb=>?_⟩
   simp only [bAt] at hb
   cases hf:fitsFn o'.args args with
   | true =>
    simp only [hg,hf,bAs,cTt,oSi] at h
    subst h
    cases hbl:o'.blks with
    | nil=>rfl
    | cons _ _=>rw [hbl] at hb;simp at hb
   | false =>
    simp only [hg,hf,Bool.and_false,cFf] at h
    obtain ⟨b,h1,h2⟩:=lookM_ok h
    rw [h1] at hb
    exact h2 hb.2
def lookY:List (FuncId×(List AV->Option AV))->FuncId->Option (List AV->Option AV)
 | [],_=>none
 | (g,o)::r,f=>cond (Nat.beq g f) (some o) (lookY r f)
def AllY (P:Program):List (FuncId×(List AV->Option AV))->Prop
 | []=>True
 | (g,o)::r=>YOK P g o/\AllY P r
theorem lookY_ok {P:Program}:∀ {l:List (FuncId×(List AV->Option AV))},AllY P l->∀ f o,lookY l f=some o->YOK P f o
 | [],_,f,o,h=>by cases h
 | (g,o')::r,h,f,o,ho=>by
  simp only [lookY] at ho
  cases hb:Nat.beq g f with
  | true =>
   simp only [hb,cTt,oSi] at ho
   subst ho
   rw [<- nEb hb]
   exact h.1
  | false =>
   simp only [hb,cFf] at ho
   exact lookY_ok h.2 f o ho
theorem lookY_mem:∀ {l:List (FuncId×(List AV->Option AV))} {f:FuncId} {o},lookY l f=some o->f∈l.map (·.1)
 | [],f,o,h=>by cases h
 | (g,o')::r,f,o,ho=>by
  simp only [lookY] at ho
  cases hb:Nat.beq g f with
  | true=>rw [nEb hb];simp
  | false =>
   simp only [hb,cFf] at ho
   exact List.mem_cons_of_mem _ (lookY_mem ho)
def lookZ:List (FuncId×Deed)->FuncId->Option Deed
 | [],_=>none
 | (g,o)::r,f=>cond (Nat.beq g f) (some o) (lookZ r f)
def AllZ (P:Program):List (FuncId×Deed)->Prop
 | []=>True
 | (g,o)::r=>ZOK P g o/\AllZ P r
theorem lookZ_ok {P:Program}:∀ {l:List (FuncId×Deed)},AllZ P l->∀ f o,lookZ l f=some o->ZOK P f o/\f∈l.map (·.1)
 | [],_,f,o,h=>by cases h
 | (g,o')::r,h,f,o,ho=>by
  simp only [lookZ] at ho
  cases hb:Nat.beq g f with
  | true =>
   simp only [hb,cTt,oSi] at ho
   subst ho
   rw [<- nEb hb]
   exact ⟨h.1,by simp⟩
  | false =>
   simp only [hb,cFf] at ho
   exact ⟨(lookZ_ok h.2 f o ho).1,List.mem_cons_of_mem _ (lookZ_ok h.2 f o ho).2⟩
def AllI (P:Program):List FuncId->Prop
 | []=>True
 | g::r=>Enters P g/\AllI P r
theorem inL_ok {P:Program}:∀ {l:List FuncId},AllI P l->∀ f,hasN l f=true->Enters P f:=by
 intro l
 induction l with
 | nil=>intro _ f h;cases h
 | cons g r ih =>
  intro h f hf
  have hm:=hasN_mem.1 hf
  rcases List.mem_cons.1 hm with rfl | hm
  ·exact h.1
  ·exact ih h.2 f (hasN_mem.2 hm)
def isNn {β:Type}:Option β->Bool
 | none=>true
 | some _=>false
theorem isNn_eq {β:Type} {x:Option β} (h:isNn x=true):x=none:=by
 cases x with
 | none=>rfl
 | some _=>cases h
def apartL (X:List (FuncId×Orc)) (Y:List (FuncId×(List AV->Option AV))) (Z:List (FuncId×Deed)) (I:List FuncId):Bool :=
 (Y.all λy=>isNn (lookM X y.1))&&(Z.all λz=>isNn (lookM X z.1)&&isNn (lookY Y z.1))&&(I.all λi=>isNn (lookM X i)&&isNn (lookY Y i))
def bodyOf (fn:Func):Code :=
 match fn.body with
 | some c=>c
 | none=>.skip
def subc:Code->List Bool->Code
 | .seq a b,x::r=>subc (cond x b a) r
 | .cond _ a b,x::r=>subc (cond x b a) r
 | .block _ c,_::r=>subc c r
 | .scope c,_::r=>subc c r
 | .loop c,_::r=>subc c r
 | c,_=>c
def AllL (P:Program) (C:Calling) (M:FuncId->Bool) (pin n:Nat):List LoopRec->Prop
 | []=>True
 | l::r=>l.OK P C M pin n/\AllL P C M pin n r
theorem AllL.mem {P:Program} {C:Calling} {M:FuncId->Bool} {pin n:Nat}:∀ {l:List LoopRec},AllL P C M pin n l->∀ x∈l,x.OK P C M pin n
 | _::_,h,x,hx=>by
  rcases List.mem_cons.1 hx with rfl | hx
  ·exact h.1
  ·exact AllL.mem h.2 x hx
theorem ok_of {P:Program} (hm:P.follows .mixedOrders=true) {X:List (FuncId×Orc)} {Y:List (FuncId×(List AV->Option AV))} {Z:List (FuncId×Deed)} {I:List FuncId} {d:Nat} (hX:AllX P X) (hY:AllY P Y) (hZ:AllZ P Z) (hI:AllI P I) (hap:apartL X Y Z I=true) {f:FuncId} {fn:Func} (hf:P.funcs[f]?=some fn) (hen:Enters P f)
  {c:Code} (hc:fn.body=some c) {h:HT} {o:Orc} (hfit:o.fits=true) {ls:List LoopRec} (hls:loopsIn c (strip h)=ls) (hl:AllL P (callX P (lookX X) (lookM X) (lookY Y) (lookZ Z) (hasN I) d) (mild (lookM X) (lookY Y)) o.blks.length fn.ntmps ls)
  (hrun:∀ p,evTop P (callX P (lookX X) (lookM X) (lookY Y) (lookZ Z) (hasN I) d) (mild (lookM X) (lookY Y)) fn h o p=o.run p):o.OK P f:=by
 simp only [apartL,bAt,List.all_eq_true] at hap
 obtain ⟨⟨a1,a2⟩,a3⟩:=hap
 exact evTop_ok hm (callX_ok hm (lookX_ok hX) (λf args o h=>lookM_ok h) (λf b _ hb=>lookY_ok hY f b hb) (λf g h=>by
   obtain ⟨y,hy,rfl⟩:=List.mem_map.1 (lookY_mem h)
   exact isNn_eq (a1 y hy)) (λf z h=>by
   obtain ⟨h1,h2⟩:=lookZ_ok hZ f z h
   obtain ⟨y,hy,rfl⟩:=List.mem_map.1 h2
   exact ⟨h1,isNn_eq (a2 y hy).1,isNn_eq (a2 y hy).2⟩) (λf h=>⟨inL_ok hI f h,isNn_eq (a3 f (hasN_mem.1 h)).1,isNn_eq (a3 f (hasN_mem.1 h)).2⟩) d) hf hen hfit (λc' hc' x hx=>by
  rw [hc] at hc'
  cases hc'
  rw [hls] at hx
  exact hl.mem x hx) λp r h=>(hrun p).trans h
end Go.Ev
namespace Go.Ev
open Go
theorem iter_ind {σ τ:Type} {f:σ->Option (σ⊕τ)} {I:σ->Prop} {μ:σ->Nat} {Q:τ->Prop}
  (step:∀ p,I p->(∃ q,f p=some (.inl q)/\I q/\μ q<μ p)\/∃ r,f p=some (.inr r)/\Q r):∀ (n:Nat) (p:σ),I p->μ p<n->∃ r,iter f n p=some r/\Q r
 | 0,_,_,h=>absurd h (Nat.not_lt_zero _)
 | n+1,p,hI,h=>by
  simp only [iter]
  rcases step p hI with ⟨q,h1,h2,h3⟩ | ⟨r,h1,h2⟩
  ·rw [h1]
   exact iter_ind step n q h2 (by omega)
  ·rw [h1]
   exact ⟨r,rfl,h2⟩
theorem loop_ind {σ τ:Type} {f:σ->Option (σ⊕τ)} (I:σ->Prop) (μ:σ->Nat) (Q:τ->Prop)
  (step:∀ p,I p->(∃ q,f p=some (.inl q)/\I q/\μ q<μ p)\/∃ r,f p=some (.inr r)/\Q r) {p:σ} (hI:I p) (hμ:μ p<FUEL):∃ r,loopOf f p=some r/\Q r :=
 iter_ind step FUEL p hI hμ
theorem FUEL_big:(9223372036854775807:Nat)/2<FUEL:=by unfold FUEL;omega
end Go.Ev
namespace Go.Ev
open Go Go.WideShapes
def fitD:(t:Ty)->t.den->Prop
 | .int k,n=>(Lit.int k n).wf=true
 | .u8,_=>True
 | .bool,_=>True
 | .str,l=>List.length l<=maxLen
 | .sl t,l=>List.length l<=maxLen/\∀ x∈l,fitD t x
 | .unit,_=>True
 | .pair a b,p=>fitD a p.1/\fitD b p.2
 | .ln t,x=>fitD t x
 | .rg t,x=>fitD t x
 | .pt _,_=>True
 | .mp _ _ _,_=>True
 | .mx _,_=>True
def noNN:NN:=⟨λ_=>False,λ_=>False,λ_ h=>h,λ_=>False,λ_=>False⟩
theorem rep_rg (t:Ty) (n:Nat):notRg (t.rep n)=true:=by cases n <;> rfl
theorem tyOf_rg {P:Program}:∀ {d:Nat} {t:TypeId} {y:Ty},tyOf P d t=some y->notRg y=true
 | 0,_,_,h=>by cases h
 | d+1,t,y,h=>by
  unfold tyOf at h
  split at h
  ·cases h;rfl
  ·cases h;rfl
  ·cases h;rfl
  ·cases h;rfl
  ·obtain ⟨z,_,hz⟩:=Option.map_eq_some_iff.1 h
   rw [<- hz];rfl
  ·obtain ⟨z,_,hz⟩:=Option.map_eq_some_iff.1 h
   rw [<- hz];exact rep_rg _ _
  ·rename_i fs _
   cases hl:fs.toList with
   | nil=>rw [hl] at h;cases h;rfl
   | cons f r =>
    rw [hl] at h
    simp only [List.foldr_cons] at h
    split at h
    ·cases h;rfl
    ·cases h
  ·cases h
def layF (P:Program) (q:TypeId->Bool):List Field->Nat->Nat->Bool
 | [],off,n=>Nat.beq off n
 | f::r,off,n=>Nat.beq f.offset off&&q f.type&&layF P q r (off+P.cellsOf f.type) n
def layB (P:Program):Nat->TypeId->Bool
 | 0,_=>false
 | d+1,t=>match P.underlying t with
  | some (.int _)=>true
  | some .bool=>true
  | some .string=>true
  | some (.slice e)=>layB P d e&&(match tyOf P d e with
    | some y=>Nat.beq (P.cellsOf e) y.size&&Nat.ble 1 y.size
    | none=>false)
  | some (.struct fs)=>layF P (layB P d) fs.toList 0 (P.cellsOf t)
  | _=>false
section
variable {P:Program} {w:World} {H:Type} {enc:TypeId×Value->H} {base:Nat} {spare:Nat->Bool} {held:Bool}
theorem pick_list {β:Type} {Q:Nat->β->Prop}:∀ (n:Nat),(∀ i,i<n->∃ x,Q i x)->∃ l:List β,l.length=n/\∀ i,(h:i<l.length)->Q i l[i]
 | 0,_=>⟨[],rfl,λi h=>by simp at h⟩
 | n+1,h=>by
  obtain ⟨l,h1,h2⟩:=pick_list n λi hi=>h i (by omega)
  obtain ⟨x,hx⟩:=h n (by omega)
  refine ⟨l++[x],by simp [h1],λi hi=>?_⟩
  simp only [lAp,List.length_cons,List.length_nil] at hi
  rcases Nat.lt_or_ge i l.length with hlt | hge
  ·rw [List.getElem_append_left hlt];exact h2 i hlt
  ·have:i=n:=by omega
   subst this
   rw [List.getElem_append_right hge]
   simpa [h1] using hx
theorem cells_row {a:Addr} {n:Nat} {es:List Value} (hs:a.spot=none) (h:w.cells? base a n=some es):es.length=n/\rowAt w a.block a.off es:=by
 obtain ⟨_,h1,h2⟩:=World.cells?_some h
 refine ⟨h1,λi hi=>?_⟩
 have:=h2 i (by omega)
 obtain ⟨b,o,s⟩:=a
 simp only at hs
 subst hs
 rw [add_none] at this
 rw [this]
 simp [hi]
theorem noN {T:Tb} (g:Nat):¬ Not (noF:Frm T) (λ_=>none) (λ_=>.dead) g:=λh=>h.elim id λ⟨_,h,_⟩=>h rfl
theorem arg_one {t:TypeId} {r:Reach} {b:Nat} {v:Value} {x:AV} {N:NN} {μ:Nat->Option Nat} {Hh:Nat->Blk} (hs:∀ fs,P.underlying t≠some (.struct fs)) (ha:∀ n e,P.underlying t≠some (.array n e)) (hv:Value.okWide P w r b t v)
  (h:RelVs w N μ Hh [x] v.cells.toList):RelV w N μ Hh x v:=by
 simp only [RelVs] at h
 obtain ⟨v1,vr,h1,h2,rfl⟩:=h
 have hne:∀ cs,v≠.agg cs:=λcs hc=>by
  subst hc
  unfold Value.okWide at hv
  cases hu:P.underlying t with
  | none=>simp [hu,Cell.okWide,Cell.ok] at hv
  | some u=>cases u <;> simp_all [Cell.okWide,Cell.ok]
 have hcells:v.cells.toList=[v]:=by cases v <;> first | rfl | exact absurd rfl (hne _)
 rw [hcells] at h1
 simp only [List.cons.injEq,and_true] at h1
 rw [h1]
 exact h2
theorem arg_struct {t:TypeId} {fs:Array Field} {r:Reach} {b:Nat} {v:Value} {cs:List AV} {N:NN} {μ:Nat->Option Nat} {Hh:Nat->Blk} (ht:P.underlying t=some (.struct fs)) (hv:Value.okWide P w r b t v)
  (h:RelVs w N μ Hh cs v.cells.toList):RelV w N μ Hh (.agg cs) v:=by
 obtain ⟨vs,rfl,_⟩:=okWide_struct ht hv
 simp only [RelV]
 exact ⟨vs.toList,by simp,h⟩
end
end Go.Ev
namespace Go.Ev
open Go
section
variable {P:Program} {f:FuncId} {fn:Func}
end
end Go.Ev
namespace Go.Ev
open Go
end Go.Ev
namespace Go.Ev
open Go Go.Proofs
def zContains:Deed:=λargs S=>match args with
 | [.s a,.s b]=>some (decide (a.length<4294967281),.b (Lib.contains a b),S)
 | _=>none
theorem zContains_ok {P:Program} {f:FuncId} {g:Nat} (hen:Enters P f) (hg:globAt P "internal/bytealg.MaxLen"=some g)
  (hc:∀ (s sub:ByteArray) (m:Int) (w:World),s.size<4294967281->w.cell? ⟨g,0,none⟩=some (.int .i64 m)->Calls P f #[.string s,.string sub] w λe w'=>e=.returned (.bool (Lib.contains s.data.toList sub.data.toList))/\w'=w):ZOK P f zContains:=by
 refine ⟨hen,λargs S v S' h F μ w vals hp hr=>?_⟩
 unfold zContains at h
 split at h
 ·rename_i a b
  simp only [oSi,Prod.mk.injEq,dTe] at h
  obtain ⟨h1,rfl,rfl⟩:=h
  simp only [RelVs,RelV] at hr
  obtain ⟨_,_,rfl,rfl,_,_,rfl,rfl,rfl⟩:=hr
  obtain ⟨m,hm⟩:=hp.tab.2 g hg
  refine (hc ⟨a.toArray⟩ ⟨b.toArray⟩ m w (by simpa [ByteArray.size] using h1) hm).mono λe w' ⟨he,hw⟩=>?_
  subst hw
  exact ⟨μ,[],_,he,rfl,by simp,hp,Pl.keep hp (Chg.refl _),by simp [RelV]⟩
 ·cases h
end Go.Ev
namespace Go.Ev
open Go Go.Proofs Go.Sort
@[reducible] def P2:Ty:=.pair (.int .i64) (.pair (.int .i64) .unit)
def srt (cf:Int×Int×Unit->Int×Int×Unit->Int) (l:List (Int×Int×Unit)):List (Int×Int×Unit):=(pdq (ltOf cf) l.toArray 0 l.length (Lib.bitLen l.length) true true).toList
def zSort (g:FuncId) (cf:Int×Int×Unit->Int×Int×Unit->Int):Deed:=λargs S=>match args with
 | [.wh b,.fn g' []]=>match S.H b with
  | .data t l=>if h:t=P2 then cond (Nat.beq g' g) (some (decide (List.length l<4611686018427387904)&&!l.isEmpty,.tup [],⟨S.E,updH S.H b (.data P2 (srt cf (h ▸ l:List P2.den))),S.nx,S.kl⟩)) none else none
  | _=>none
 | _=>none
def enc2 (p:Int×Int×Unit):List Value:=[.int .i64 p.1,.int .i64 p.2.1]
theorem heap_putRow_other (enc:Value->Value) (w:World) (blk off:Nat) (d:Array Value) {k:Nat} (h:k≠blk):(putRow enc w blk off d).heap[k]?=w.heap[k]?:=by
 simp only [putRow,mapBlock,Array.getElem?_modify]
 rw [if_neg (λe=>h e.symm)]
theorem sort_core {P:Program} {f g:FuncId} {cf:Int×Int×Unit->Int×Int×Unit->Int} (hO:SWO (ltOf cf))
    (hg:∀ w x y,Calls P g #[.agg (enc2 x).toArray,.agg (enc2 y).toArray] w λe w'=>e=.returned (.int .i64 (cf x y))/\∃ q os',w'=grow (w.drewN q) os')
    (hc:∀ (blk cap:Nat) (d:Array (Int×Int×Unit)) (w:World),CmpLays P g #[] enc2 2 cf blk 0 d.size w->HoldsK enc2 2 w blk 0 d->blk<w.heap.size->d.size<4611686018427387904 ->
      Calls P f #[.slice (some ⟨blk,0,none⟩) d.size cap,.func (.func g) #[] #[]] w λe w'=>e=.returned (.tuple #[])/\∃ n os,w'=sortWorldK enc2 2 w blk 0 n (pdq (ltOf cf) d 0 d.size (Lib.bitLen d.size) true true) os)
    {S:St} {F:Frm (tabsOf P)} {μ:Nat->Option Nat} {w:World} (hp:Hp F μ S.H S.nx w) {b gb c:Nat} {l:List (Int×Int×Unit)} (hb:S.H b=.data P2 l) (hlt:l.length<4611686018427387904) (hm:μ b=some gb) (hcl:l.length<=c) (hroom:room w gb (c*2)) :
    Calls P f #[.slice (some ⟨gb,0,none⟩) l.length c,.func (.func g) #[] #[]] w λe w'=>∃ μ' kl val,e=.returned val/\S.E=killsE kl S.E/\S.kl=S.kl++kl/\Hp F μ' (updH S.H b (.data P2 (srt cf l))) S.nx w' /\
      Pl F μ S.H S.nx w kl μ' (updH S.H b (.data P2 (srt cf l))) S.nx w'/\RelV w' (Not F μ' (updH S.H b (.data P2 (srt cf l)))) μ' (updH S.H b (.data P2 (srt cf l))) (.tup []) val:=by
  have hlive:S.H b≠.dead:=by rw [hb];simp
  have hlt':=hp.lt b gb hlive hm
  have hrow:=hp.blk b
  simp only [hb,RelB] at hrow
  rcases hrow with ⟨hn,_⟩ | ⟨gb',hm',_,hrows⟩
  . rw [hm] at hn;cases hn
  . rw [hm] at hm'
    cases hm'
    have hsz2:P2.size=2:=rfl
    have lk:∀ x,(enc2 x).length=2:=λ_=>rfl
    have hH:HoldsK enc2 2 w gb 0 l.toArray:=λj hj=>by
      rw [size_flatK] at hj
      have hj':j<l.length*2:=by simpa using hj
      have hd:j/2<l.length:=by omega
      obtain ⟨es,e1,e2,e3⟩:=hrows (j/2) hd
      have hrm:=hroom j (by have:=nMr 2 hcl;omega)
      refine ⟨?_,by rw [Nat.zero_add];exact hrm.2⟩
      rw [get_flatK _ _ _ _ hj,Nat.zero_add]
      have hl:l.toArray[j/2]! = l[j/2]:=by simp [hd]
      rw [hl]
      have hes:es=enc2 l[j/2]:=by
        simp only [P2,RelD] at e3
        obtain ⟨xs,ys,rfl,rfl,zs,us,rfl,rfl,rfl⟩:=e3
        rfl
      subst hes
      have:=e2 (j % 2) (by rw [lk];omega)
      rw [hsz2,show j/2*2+j % 2=j by omega] at this
      rw [this]
      congr 1
      rw [getElem!_pos _ _ (by rw [lk];omega)]
      rfl
    have hlen:l.toArray.size=l.length:=by simp
    have:=hc gb c l.toArray w (λm os dk _ x y=>hg _ x y) hH hlt' (by rw [hlen];exact hlt)
    rw [hlen] at this
    refine this.mono λe w' ⟨he,n,os,hw⟩=>?_
    generalize hd':pdq (ltOf cf) l.toArray 0 l.length (Lib.bitLen l.length) true true=d' at hw
    have hsrt:srt cf l=d'.toList:=by unfold srt;rw [hd']
    have hperm:=(pdq_sorts (ltOf cf) hO l.toArray 0 l.length (Lib.bitLen l.length) true true (Nat.zero_le _) (by simp) (Or.inl rfl)).1
    rw [hd'] at hperm
    have hds:d'.size=l.length:=by have:=hperm.1;simpa using this
    have hl2:d'.toList.length=l.length:=by simpa using hds
    have hsize:(putRowK enc2 2 (Go.Sort.ahead w n) gb 0 d').heap.size=w.heap.size:=by simp [putRowK,putRow,mapBlock,Go.Sort.ahead]
    have hold:∀ k,k<w.heap.size->k≠gb->w'.heap[k]?=w.heap[k]?:=λk hk hne=>by
      rw [hw]
      unfold sortWorldK
      have:(grow (putRowK enc2 2 (Go.Sort.ahead w n) gb 0 d') os).heap[k]?=(putRowK enc2 2 (Go.Sort.ahead w n) gb 0 d').heap[k]?:=by
        simp only [grow]
        rw [Array.getElem?_append_left (by rw [hsize];exact hk)]
      rw [this]
      exact heap_putRow_other _ _ _ _ _ hne
    have hsz':w.heap.size<=w'.heap.size:=by rw [hw];unfold sortWorldK;rw [Go.Sort.size_grow,hsize];omega
    have hH':HoldsK enc2 2 w' gb 0 d':=by
      rw [hw]
      unfold sortWorldK
      exact holdsK_grow enc2 2 _ os gb 0 d' (by rw [hsize];exact hlt') (holdsK_putRowK enc2 2 _ gb 0 l.toArray d' (holdsK_ahead enc2 2 w n gb 0 _ hH) (by rw [hds];simp))
    have hroom':∀ m,room w gb m->room w' gb m:=λm hr k hk=>by
      obtain ⟨r1,r2⟩:=hr k hk
      have hcell:w'.frozen? ⟨gb,k,none⟩=w.frozen? ⟨gb,k,none⟩:=by
        rw [hw]
        unfold sortWorldK
        rw [Go.Sort.frozen?_grow _ _ _ (by rw [hsize];exact hlt')]
        exact frozen?_putRow _ _ _ _ _ _
      refine ⟨?_,by rw [hcell];exact r2⟩
      by_cases hkk:k<l.length*2
      . have:=hH' k (by rw [size_flatK,hds];exact hkk)
        rw [Nat.zero_add] at this
        rw [this.1];rfl
      . have:w'.cell? ⟨gb,k,none⟩=w.cell? ⟨gb,k,none⟩:=by
          rw [hw]
          unfold sortWorldK
          rw [Go.Sort.cell?_grow _ _ _ (by rw [hsize];exact hlt')]
          exact cell?_putRow_other _ _ _ _ _ _ (.inr (.inr (by rw [size_flatK,hds];simpa using hkk)))
        rw [this];exact r1
    have hmk:∀ k,some gb=some k->NoMark w' k:=λk hk c e m hc=>by
        cases hk
        have hg0:w.heap[gb]?≠none:=by rw [Array.getElem?_eq_getElem hlt'];simp
        rw [hw] at hc
        have hc2:(putRowK enc2 2 (Go.Sort.ahead w n) gb 0 d').heap[gb]?=some (.cells c e m):=by
          rw [<- hc]
          simp only [sortWorldK,grow]
          rw [Array.getElem?_append_left (by rw [hsize];exact hlt')]
        simp only [putRowK,putRow,mapBlock,Array.getElem?_modify,if_true] at hc2
        cases hh:w.heap[gb]? with
        | none=>exact absurd hh hg0
        | some ob =>
          have hh':(Go.Sort.ahead w n).heap[gb]?=some ob:=hh
          rw [hh'] at hc2
          cases ob with
          | cells c0 e0 m0 =>
            have:=hp.mark b gb (by rw [hb];rfl) hm c0 e0 m0 hh
            simp only [Option.map_some,oSi] at hc2
            injection hc2 with h1 h2 h3
            rw [<- h1,<- h3]
            simpa [putCells] using this
          | _=>simp [onCells] at hc2
    have T:Turned F μ S.H S.nx w [] b (some gb) (.data P2 (srt cf l)) S.nx w':={
      hp:=hp
      os:=by rw [hw];rfl
      tape:=by rw [hw];rfl
      output:=by rw [hw];rfl
      size:=hsz'
      keep:=λk hk hne=>hold k hk λe=>hne hlive (by rw [e];exact hm)
      at_:=λk hk=>by cases hk;exact .inl ⟨hlive,hm⟩
      mono:=Nat.le_refl _
      lt:=by
        rcases Nat.lt_or_ge b S.nx with h | h
        . exact h
        . exact absurd (hp.dead b h) hlive
      live:=by simp
      kind:=λ_=>Pin.zero rfl
      mark:=λ_ k hk=>hmk k hk
      wfm:=λk hk=>(hmk k hk).wfm
      self:=λ_ _=>by
        refine ⟨by rw [updM_same,hm],?_⟩
        rw [hb]
        simp only [updH_same]
        exact ⟨⟨_,rfl,by rw [hsrt];exact hl2⟩,λk m hk hr=>by rw [hm] at hk;cases hk;exact hroom' m hr⟩ }
    refine ⟨updM μ b (some gb),[],.tuple #[],he,rfl,by simp,T.hp' ?_,T.pl,by simp [RelV,RelVs]⟩
    simp only [RelB]
    refine .inr ⟨gb,updM_same _ _ _,?_,λi hi=>?_⟩
    . rw [hsrt,hl2]
      exact hroom' _ λk hk=>hroom k (Nat.lt_of_lt_of_le hk (nMr _ hcl))
    . have hi':i<d'.size:=by rw [hsrt] at hi;simpa using hi
      have hgi:(srt cf l)[i]=d'[i]! := by simp only [hsrt];simp [hi']
      refine ⟨enc2 (d'[i]!),rfl,λk hk=>?_,?_⟩
      . have hk2:k<2:=hk
        have:=HoldsK.cell hH' (i:=i) (c:=k) hi' hk2
        rw [Nat.zero_add] at this
        have hkk:k<(enc2 d'[i]!).length:=hk
        rw [hsz2,this.1,getElem!_pos (enc2 d'[i]!) k hkk]
      . rw [hgi]
        simp only [RelD]
        exact ⟨[_],[_],rfl,rfl,[_],[],rfl,rfl,rfl⟩
theorem zSort_ok {P:Program} {f g:FuncId} {cf:Int×Int×Unit->Int×Int×Unit->Int} (hen:Enters P f) (hO:SWO (ltOf cf))
  (hg:∀ w x y,Calls P g #[.agg (enc2 x).toArray,.agg (enc2 y).toArray] w λe w'=>e=.returned (.int .i64 (cf x y))/\∃ q os',w'=grow (w.drewN q) os')
  (hc:∀ (blk cap:Nat) (d:Array (Int×Int×Unit)) (w:World),CmpLays P g #[] enc2 2 cf blk 0 d.size w->HoldsK enc2 2 w blk 0 d->blk<w.heap.size->d.size<4611686018427387904 ->
   Calls P f #[.slice (some ⟨blk,0,none⟩) d.size cap,.func (.func g) #[] #[]] w λe w'=>e=.returned (.tuple #[])/\∃ n os,w'=sortWorldK enc2 2 w blk 0 n (pdq (ltOf cf) d 0 d.size (Lib.bitLen d.size) true true) os):ZOK P f (zSort g cf):=by
 refine ⟨hen,λargs S v S' h F μ w vals hp hr=>?_⟩
 unfold zSort at h
 split at h
 ·rename_i b g'
  split at h
  ·rename_i t l hb
   split at h
   ·rename_i ht
    subst ht
    have hh:=cond_some h
    clear h
    obtain ⟨hgg,h⟩:=hh
    have hgg:=nEb hgg
    subst hgg
    rw [oSi,Prod.mk.injEq,Prod.mk.injEq,bAt,dTe,Bool.not_eq_true',List.isEmpty_eq_false_iff] at h
    obtain ⟨⟨hlt,hne⟩,hv,hS⟩:=h
    subst hv
    subst hS
    simp only [RelVs,RelV] at hr
    obtain ⟨v1,_,rfl,h1,v2,_,rfl,⟨_,rfl,rfl⟩,rfl⟩:=hr
    obtain ⟨t',l',hB,h1⟩:=h1
    rw [hb] at hB
    cases hB
    rcases h1 with ⟨gb,c,hm,rfl,hcl,hroom⟩ | ⟨_,h0,_⟩
    ·exact sort_core hO hg hc hp hb hlt hm hcl hroom
    ·exact absurd h0 hne
   ·cases h
  ·cases h
 ·cases h
end Go.Ev
namespace Go.Proofs
open Go.Shelf
def Try.lays122_ren:Go.Shelf.Ren:=⟨fun | 122=>47 | 215=>53 | n=>n,fun | 3=>3 | 4=>4 | n=>n,fun | n=>n⟩
theorem Try.lays122:Go.Proofs.Lays.n122 Try.prog Try.lays122_ren:={
  mixed:=by kernel_rfl
  f122:=Try.func47.trans (congrArg some (by kernel_rfl))
  f215:=Try.func53.trans (congrArg some (by kernel_rfl))
  t3:=Try.underlying3
  a3:=Try.isAgg3
  z3:=Try.sizeOf3
  v3:=Try.zeroValue3
  t4:=Try.underlying4
  a4:=Try.isAgg4
  z4:=Try.sizeOf4
  v4:=Try.zeroValue4 }
open Go.RowKit in
theorem Try.cmp_Compare_int (x y:Int) (w:World) :
  Calls Try.prog 47 #[.int .i64 x,.int .i64 y] w λe w'=>e=.returned (.int .i64 (Lib.compareInt x y))/\w'=w:=Any.cmp_Compare_int Try.lays122 x y w
def Try.lays144_ren:Go.Shelf.Ren:=⟨fun | 144=>43 | 143=>52 | 219=>56 | 217=>67 | 225=>68 | 224=>69 | 267=>70 | 266=>76 | 314=>77 | n=>n,fun | 9=>9 | 4=>4 | 3=>3 | 5=>5 | 46=>87 | 146=>109 | 51=>98 | n=>n,fun | 1=>0 | n=>n⟩
theorem Try.lays144:Go.Proofs.Lays.n144 Try.prog Try.lays144_ren:={
  mixed:=by kernel_rfl
  f143:=Try.func52.trans (congrArg some (by kernel_rfl))
  f144:=Try.func43.trans (congrArg some (by kernel_rfl))
  f217:=Try.func67.trans (congrArg some (by kernel_rfl))
  f219:=Try.func56.trans (congrArg some (by kernel_rfl))
  f224:=Try.func69.trans (congrArg some (by kernel_rfl))
  f225:=Try.func68.trans (congrArg some (by kernel_rfl))
  f266:=Try.func76.trans (congrArg some (by kernel_rfl))
  f267:=Try.func70.trans (congrArg some (by kernel_rfl))
  f314:=Try.func77.trans (congrArg some (by kernel_rfl))
  t3:=Try.underlying3
  a3:=Try.isAgg3
  z3:=Try.sizeOf3
  v3:=Try.zeroValue3
  t4:=Try.underlying4
  a4:=Try.isAgg4
  z4:=Try.sizeOf4
  v4:=Try.zeroValue4
  t5:=Try.underlying5
  a5:=Try.isAgg5
  z5:=Try.sizeOf5
  v5:=Try.zeroValue5
  t9:=Try.underlying9
  a9:=Try.isAgg9
  z9:=Try.sizeOf9
  v9:=Try.zeroValue9
  t46:=Try.underlying87
  a46:=Try.isAgg87
  z46:=Try.sizeOf87
  v46:=Try.zeroValue87
  t51:=Try.underlying98
  a51:=Try.isAgg98
  z51:=Try.sizeOf98
  v51:=Try.zeroValue98
  t146:=Try.underlying109
  a146:=Try.isAgg109
  z146:=Try.sizeOf109
  v146:=Try.zeroValue109
  g1:=by kernel_rfl }
open Go.RowKit Go.Lib in
theorem Try.strings_Contains (s sub:ByteArray) (m:Int) (w:World) (hs:s.size<4294967281) (hm:w.cell? ⟨0,0,none⟩=some (.int .i64 m)) :
  Calls Try.prog 43 #[.string s,.string sub] w λe w'=>e=.returned (.bool (Lib.contains s.data.toList sub.data.toList))/\w'=w:=Any.strings_Contains Try.lays144 s sub m w hs hm
def Try.laysM144_ren:Go.Shelf.Ren:=⟨fun | 144=>43 | 143=>52 | 219=>56 | 217=>67 | 225=>68 | 224=>69 | 267=>70 | 266=>76 | 314=>77 | n=>n,fun | 9=>9 | 4=>4 | 3=>3 | 5=>5 | 46=>87 | 146=>109 | 51=>98 | n=>n,fun | 1=>0 | n=>n⟩
theorem Try.laysM144:Go.Proofs.LaysM.n144 Try.prog Try.laysM144_ren:={
  mixed:=by kernel_rfl
  f143:=Try.func52.trans (congrArg some (by kernel_rfl))
  f144:=Try.func43.trans (congrArg some (by kernel_rfl))
  f217:=Try.func67.trans (congrArg some (by kernel_rfl))
  f219:=Try.func56.trans (congrArg some (by kernel_rfl))
  f224:=Try.func69.trans (congrArg some (by kernel_rfl))
  f225:=Try.func68.trans (congrArg some (by kernel_rfl))
  f266:=Try.func76.trans (congrArg some (by kernel_rfl))
  f267:=Try.func70.trans (congrArg some (by kernel_rfl))
  f314:=Try.func77.trans (congrArg some (by kernel_rfl))
  t3:=Try.underlying3
  a3:=Try.isAgg3
  z3:=Try.sizeOf3
  v3:=Try.zeroValue3
  t4:=Try.underlying4
  a4:=Try.isAgg4
  z4:=Try.sizeOf4
  v4:=Try.zeroValue4
  t5:=Try.underlying5
  a5:=Try.isAgg5
  z5:=Try.sizeOf5
  v5:=Try.zeroValue5
  t9:=Try.underlying9
  a9:=Try.isAgg9
  z9:=Try.sizeOf9
  v9:=Try.zeroValue9
  t46:=Try.underlying87
  a46:=Try.isAgg87
  z46:=Try.sizeOf87
  v46:=Try.zeroValue87
  t51:=Try.underlying98
  a51:=Try.isAgg98
  z51:=Try.sizeOf98
  v51:=Try.zeroValue98
  t146:=Try.underlying109
  a146:=Try.isAgg109
  z146:=Try.sizeOf109
  v146:=Try.zeroValue109
  g1:=by kernel_rfl
  i3:=by kernel_rfl
  i4:=by kernel_rfl
  i5:=by kernel_rfl
  i9:=by kernel_rfl
  i46:=by kernel_rfl
  i51:=by kernel_rfl
  i146:=by kernel_rfl
  m1:=by kernel_rfl
  s1_3:=λw h=>Go.Proofs.cell_of_shapedOpen_int (zero:=#[.int .i64 0]) (t:=3) h (of_decide_eq_true (by kernel_rfl)) (by kernel_rfl) rfl (by kernel_rfl) (by kernel_rfl) Try.underlying3 }
def Try.laysSlF06_f50_ren:Go.Shelf.Ren:=⟨fun | 6=>50 | 15=>55 | 14=>54 | 28=>65 | 29=>66 | 20=>57 | 21=>58 | 22=>59 | 23=>60 | 24=>61 | 25=>62 | 26=>63 | 27=>64 | 46=>71 | 47=>72 | 48=>73 | 49=>74 | 50=>75 | 57=>78 | n=>n,fun | 22=>56 | 24=>59 | 25=>85 | 3=>3 | 39=>87 | 0=>0 | 53=>98 | 55=>100 | 4=>4 | 46=>92 | 45=>91 | 50=>66 | 5=>5 | 9=>9 | 66=>103 | 70=>107 | 76=>111 | 77=>112 | n=>n,fun | n=>n⟩
theorem Try.laysSlF06_f50:Go.Proofs.SlLaysF0.n6 Try.prog Try.laysSlF06_f50_ren:={
  mixed:=by kernel_rfl
  f6:=⟨Try.f50.name,by decide,Try.func50.trans (congrArg some (by kernel_rfl))⟩
  f14:=⟨Try.f54.name,by decide,Try.func54.trans (congrArg some (by kernel_rfl))⟩
  f15:=Try.func55.trans (congrArg some (by kernel_rfl))
  f20:=⟨Try.f57.name,by decide,Try.func57.trans (congrArg some (by kernel_rfl))⟩
  f21:=⟨Try.f58.name,by decide,Try.func58.trans (congrArg some (by kernel_rfl))⟩
  f22:=⟨Try.f59.name,by decide,Try.func59.trans (congrArg some (by kernel_rfl))⟩
  f23:=⟨Try.f60.name,by decide,Try.func60.trans (congrArg some (by kernel_rfl))⟩
  f24:=⟨Try.f61.name,by decide,Try.func61.trans (congrArg some (by kernel_rfl))⟩
  f25:=⟨Try.f62.name,by decide,Try.func62.trans (congrArg some (by kernel_rfl))⟩
  f26:=⟨Try.f63.name,by decide,Try.func63.trans (congrArg some (by kernel_rfl))⟩
  f27:=⟨Try.f64.name,by decide,Try.func64.trans (congrArg some (by kernel_rfl))⟩
  f28:=Try.func65.trans (congrArg some (by kernel_rfl))
  f29:=Try.func66.trans (congrArg some (by kernel_rfl))
  f46:=⟨Try.f71.name,by decide,Try.func71.trans (congrArg some (by kernel_rfl))⟩
  f47:=Try.func72.trans (congrArg some (by kernel_rfl))
  f48:=Try.func73.trans (congrArg some (by kernel_rfl))
  f49:=⟨Try.f74.name,by decide,Try.func74.trans (congrArg some (by kernel_rfl))⟩
  f50:=⟨Try.f75.name,by decide,Try.func75.trans (congrArg some (by kernel_rfl))⟩
  f57:=⟨Try.f78.name,by decide,Try.func78.trans (congrArg some (by kernel_rfl))⟩
  t0:=Try.underlying0
  a0:=Try.isAgg0
  z0:=Try.sizeOf0
  v0:=Try.zeroValue0
  t3:=Try.underlying3
  a3:=Try.isAgg3
  z3:=Try.sizeOf3
  v3:=Try.zeroValue3
  t4:=Try.underlying4
  a4:=Try.isAgg4
  z4:=Try.sizeOf4
  v4:=Try.zeroValue4
  t5:=Try.underlying5
  a5:=Try.isAgg5
  z5:=Try.sizeOf5
  v5:=Try.zeroValue5
  t9:=Try.underlying9
  a9:=Try.isAgg9
  z9:=Try.sizeOf9
  v9:=Try.zeroValue9
  t22:=Try.underlying56
  a22:=Try.isAgg56
  z22:=Try.sizeOf56
  v22:=Try.zeroValue56
  t25:=Try.underlying85
  a25:=Try.isAgg85
  z25:=Try.sizeOf85
  v25:=Try.zeroValue85
  t39:=Try.underlying87
  a39:=Try.isAgg87
  z39:=Try.sizeOf87
  v39:=Try.zeroValue87
  t45:=Try.underlying91
  a45:=Try.isAgg91
  z45:=Try.sizeOf91
  v45:=Try.zeroValue91
  t46:=Try.underlying92
  a46:=Try.isAgg92
  z46:=Try.sizeOf92
  v46:=Try.zeroValue92
  t50:=Try.underlying66
  a50:=Try.isAgg66
  z50:=Try.sizeOf66
  v50:=Try.zeroValue66
  t53:=Try.underlying98
  a53:=Try.isAgg98
  z53:=Try.sizeOf98
  v53:=Try.zeroValue98
  t55:=Try.underlying100
  a55:=Try.isAgg100
  z55:=Try.sizeOf100
  v55:=Try.zeroValue100
  t66:=Try.underlying103
  a66:=Try.isAgg103
  z66:=Try.sizeOf103
  v66:=Try.zeroValue103
  t70:=Try.underlying107
  a70:=Try.isAgg107
  z70:=Try.sizeOf107
  v70:=Try.zeroValue107
  t76:=Try.underlying111
  a76:=Try.isAgg111
  z76:=Try.sizeOf111
  v76:=Try.zeroValue111
  t77:=Try.underlying112
  a77:=Try.isAgg112
  z77:=Try.sizeOf112
  v77:=Try.zeroValue112 }
open Go.RowKit Go.Lib Go.Sort in
theorem Try.slices_SortFunc_eq {α:Type} [Inhabited α] (k:Nat) (aE:∀ w,(isAgg 59).run Try.prog w=.ok true w) (zE:∀ w,(Go.sizeOf 59).run Try.prog w=.ok k w) (enc:α->List Value) (hk:∀ x,(enc x).length=k) (h1:∀ x,∀ v∈enc x,v.oneCell'=true) (cf:α->α->Int) (hO:SWO (ltOf cf)) (g:Nat) (cb:Array Value) (blk off cap:Nat) (d:Array α) (w:World) (eg:∀ args w,(callFunc g args).run Try.prog w=.ok (.enter g args) w) (hcmp:CmpLays Try.prog g cb enc k cf blk off d.size w) (hH:HoldsK enc k w blk off d) (hblk:blk<w.heap.size) (hsz:d.size<4611686018427387904) :
  Calls Try.prog 50 #[.slice (some ⟨blk,off,none⟩) d.size cap,.func (.func g) #[] cb] w λe w' =>
   e=.returned (.tuple #[])/\∃ n os,w'=sortWorldK enc k w blk off n (pdq (ltOf cf) d 0 d.size (Lib.bitLen d.size) true true) os:=AnyQ.slices_SortFunc_eq Try.laysSlF06_f50 k aE zE enc hk h1 cf hO g cb blk off cap d w eg hcmp hH hblk hsz
end Go.Proofs
namespace Go.Bx
open Go Go.Ev Go.Proofs Go.Sort Go.RowKit
set_option maxRecDepth 100000
theorem zContains43:ZOK Try.prog 43 zContains:=zContains_ok Try.call43 (g:=0) (by kernel_rfl) λs sub m w hs hm=>Try.strings_Contains s sub m w hs hm
def cf51 (x y:Int×Int×Unit):Int:=Lib.compareInt x.1 y.1
theorem lt51 (x y:Int×Int×Unit):ltOf cf51 x y=decide (x.1<y.1):=by
 simp only [ltOf,cf51,Lib.compareInt]
 by_cases h1:x.1<y.1
 ·simp [h1]
 ·by_cases h2:x.1>y.1
  ·simp [h1,h2]
  ·simp [h1,h2]
theorem swo51:SWO (ltOf cf51) where
 irrefl:=λx=>by rw [lt51];simp
 trans:=λx y z h1 h2=>by
  rw [lt51,dTe] at *
  omega
 ntrans:=λx y z h1 h2=>by
  rw [lt51,decide_eq_false_iff_not] at *
  omega
theorem walk51 (w:World) (x y:Int×Int×Unit):Calls Try.prog 51 #[.agg (enc2 x).toArray,.agg (enc2 y).toArray] w λe w'=>e=.returned (.int .i64 (cf51 x y))/\∃ q os',w'=grow (w.drewN q) os':=by
 have hc:∀ W,Calls Try.prog 47 #[.int .i64 x.1,.int .i64 y.1] W λe w'=>e=.returned (.int .i64 (Lib.compareInt x.1 y.1))/\w'=W:=λW=>Try.cmp_Compare_int _ _ W
 unfold enc2
 go_enter Try.func51,Try.ntmps51
 go_wp2_with (refine (hc _).mono ?_;rintro e w' ⟨rfl,rfl⟩)
 go_ret
 refine ⟨rfl,0,#[.cells #[.int .i64 x.1,.int .i64 x.2.1] 59,.cells #[.int .i64 y.1,.int .i64 y.2.1] 59],?_⟩
 rw [alloc_eq_grow,alloc_eq_grow,grow_grow]
 rfl
abbrev sort51:=srt cf51
theorem zSort50:ZOK Try.prog 50 (zSort 51 cf51):=zSort_ok Try.call50 swo51 walk51 λblk cap d w hcmp hH hblk hsz =>
 Try.slices_SortFunc_eq 2 (λw=>by rw [run_isAgg Try.underlying59];rfl) (λw=>by rw [run_sizeOf' Try.underlying59];rfl) enc2 (λ_=>rfl) (λx v hv=>by
  simp only [enc2,List.mem_cons,List.not_mem_nil,or_false] at hv
  rcases hv with rfl | rfl <;> rfl) cf51 swo51 51 #[] blk 0 cap d w (λargs w=>Try.call51 args w) hcmp hH hblk hsz
end Go.Bx
namespace Go.Ev
open Go
mutual
def calmV:AV->Bool
 | .sl t _=>!lnTy t
 | .fp t _ _ _=>!lnTy t
 | .fz t _=>!lnTy t
 | .fn _ cs=>calmL cs
 | .agg cs=>calmL cs
 | .tup cs=>calmL cs
 | .ifc _ x=>calmV x
 | .pan x=>calmV x
 | .lit x _=>calmV x
 | _=>true
def calmL:List AV->Bool
 | []=>true
 | x::r=>calmV x&&calmL r
end
def calmB:Blk->Bool
 | .vars cs=>calmL cs
 | .data t _=>!lnTy t
 | .mapd kt vt _ _=>!lnTy kt&&!lnTy vt
 | _=>true
structure Calm (R:Nat->Prop) (w w':World) (N N':NN):Prop where
 keep:Keep R w w'
 off:∀ g,g<w.heap.size->R g->N.all g
 all:∀ g,g<w.heap.size->N'.all g->N.all g
 unf:∀ g,g<w.heap.size->N'.unf g->N.unf g
section
variable {R:Nat->Prop} {w w':World} {N N':NN} {μ:Nat->Option Nat} {H:Nat->Blk}
theorem RelD_calm (hc:Calm R w w' N N'):∀ {t:Ty} {x:t.den} {vs:List Value},lnTy t=false->RelD w N t x vs->RelD w' N' t x vs
 | .int _,_,_,_,hx=>hx
 | .u8,_,_,_,hx=>hx
 | .bool,_,_,_,hx=>hx
 | .str,_,_,_,hx=>hx
 | .unit,_,_,_,hx=>hx
 | .ln t,_,_,hs,_=>by simp [lnTy] at hs
 | .rg t,_,_,hs,_=>by simp [lnTy] at hs
 | .mx _,_,_,hs,_=>by simp [lnTy] at hs
 | .pair a b,p,vs,hs,hx=>by
  simp only [lnTy,Bool.or_eq_false_iff] at hs
  simp only [RelD] at hx ⊢
  obtain ⟨xs,ys,h0,h1,h2⟩:=hx
  exact ⟨xs,ys,h0,RelD_calm hc hs.1 h1,RelD_calm hc hs.2 h2⟩
 | .sl t,l,vs,hs,hx=>by
  simp only [lnTy] at hs
  simp only [RelD] at hx ⊢
  obtain ⟨a,c,h1,h2,h3⟩:=hx
  refine ⟨a,c,h1,h2,λhp=>?_⟩
  obtain ⟨g,o,ha,hn,hg,hu,hr⟩:=h3 hp
  have hln:∀ M:NN,lnN M t=M.all:=λM=>by cases t <;> first | rfl | simp [lnTy] at hs
  rw [hln] at hn
  have hh:=hc.keep.keep g hg λhr=>hn (hc.off g hg hr)
  refine ⟨g,o,ha,λhn'=>hn (hc.all g hg (by rw [hln] at hn';exact hn')),Nat.lt_of_lt_of_le hg hc.keep.size,λhf k hk=>?_,λi hi=>?_⟩
  ·rw [frozen?_of_heap hh];exact hu (hc.unf g hg hf) k hk
  ·obtain ⟨es,e1,e2,e3⟩:=hr i hi
   exact ⟨es,e1,rowAt_of_heap hh e2,RelD_calm hc hs e3⟩
 | .pt t,x,vs,hs,hx=>by
  simp only [lnTy] at hs
  simp only [RelD] at hx ⊢
  obtain ⟨p,rfl,hx | ⟨g,o,y,es,h1,h2,h3,h4,h5,h6,h7,h8,h9⟩⟩:=hx
  ·exact ⟨p,rfl,.inl hx⟩
  have hh:=hc.keep.keep g h5 λhr=>h4 (hc.off g h5 hr)
  exact ⟨p,rfl,.inr ⟨g,o,y,es,h1,h2,h3,λhn=>h4 (hc.all g h5 hn),Nat.lt_of_lt_of_le h5 hc.keep.size,λhf k hk=>by rw [frozen?_of_heap hh];exact h6 (hc.unf g h5 hf) k hk,h7,rowAt_of_heap hh h8,RelD_calm hc hs h9⟩⟩
 | .mp k v ag,l,vs,hs,hx=>by
  simp only [lnTy,Bool.or_eq_false_iff] at hs
  simp only [RelD] at hx ⊢
  obtain ⟨a,rfl,g,es,c,h1,h2,h3,h4,h5,h6,h7⟩:=hx
  have hh:=hc.keep.keep g h3 λhr=>h2 (hc.off g h3 hr)
  refine ⟨a,rfl,⟨g,es,c,h1,λhn=>h2 (hc.all g h3 hn),Nat.lt_of_lt_of_le h3 hc.keep.size,by rw [hh];exact h4,h5,h6,λi hi hi'=>?_⟩⟩
  obtain ⟨r1,cs,r2,r3⟩:=h7 i hi hi'
  exact ⟨RelD_calm hc hs.1 r1,cs,RelD_calm hc hs.2 r2,r3⟩
def Spare (R:Nat->Prop) (w:World) (μ:Nat->Option Nat) (H:Nat->Blk):Prop:=∀ b g,H b≠.dead->μ b=some g->g<w.heap.size/\¬ R g
mutual
theorem RelV_calm (hc:Calm R w w' N N') (hT:Spare R w μ H):∀ (x:AV) (v:Value),calmV x=true->RelV w N μ H x v->RelV w' N' μ H x v
 | .i _ _,_,_,h=>h | .u _,_,_,h=>h | .b _,_,_,h=>h | .kb _,_,_,h=>h | .s _,_,_,h=>h | .c _,_,_,h=>h
 | .ptr _ _,_,_,h=>h | .mp _,_,_,h=>h | .mptr _ _ _,_,_,h=>h | .ep _ _ _ _,_,_,h=>h
 | .gd _ _ _,_,_,h=>h | .bad,_,_,h=>h
 | .sl t l,v,hm,h=>by
  simp only [calmV,Bool.not_eq_true'] at hm
  simp only [RelV] at h ⊢
  exact RelD_calm hc (t:=.sl t) hm h
 | .fz t x,v,hm,h=>by
  simp only [calmV,Bool.not_eq_true'] at hm
  simp only [RelV] at h ⊢
  exact ⟨RelD_calm hc hm h.1,h.2⟩
 | .fp t l ix f,v,hm,h=>by
  simp only [calmV,Bool.not_eq_true'] at hm
  simp only [RelV] at h ⊢
  obtain ⟨h1,g,o,h2,h3,h4,es,h5,h6,h7,h8⟩:=h
  have hln:∀ M:NN,lnN M t=M.all:=λM=>by cases t <;> first | rfl | simp [lnTy] at hm
  rw [hln] at h2
  have hh:=hc.keep.keep g h3 λhr=>h2 (hc.off g h3 hr)
  exact ⟨h1,g,o,λhn'=>h2 (hc.all g h3 (by rw [hln] at hn';exact hn')),Nat.lt_of_lt_of_le h3 hc.keep.size,h4,es,h5,rowAt_of_heap hh h6,h7,RelD_calm hc hm h8.1,λhf k hk=>by rw [frozen?_of_heap hh];exact h8.2 (hc.unf g h3 hf) k hk⟩
 | .wh b,v,_,h=>by
  simp only [RelV] at h ⊢
  obtain ⟨t,l,hb,h⟩:=h
  refine ⟨t,l,hb,h.imp (λ⟨g,c,h1,h2,h3,h4⟩=>?_) id⟩
  obtain ⟨k1,k2⟩:=hT b g (by rw [hb];simp) h1
  exact ⟨g,c,h1,h2,h3,room_of_heap (hc.keep.keep g k1 k2) h4⟩
 | .win b lo n,v,_,h=>by
  simp only [RelV] at h ⊢
  obtain ⟨t,l,hb,hle,h⟩:=h
  refine ⟨t,l,hb,hle,h.imp (λ⟨g,c,o,h1,h2,h3,h4,h5⟩=>?_) id⟩
  obtain ⟨k1,k2⟩:=hT b g (by rw [hb];simp) h1
  exact ⟨g,c,o,h1,h2,h3,room_of_heap (hc.keep.keep g k1 k2) h4,h5⟩
 | .fn f cs,v,hm,h=>by
  simp only [calmV] at hm
  simp only [RelV] at h ⊢
  obtain ⟨vs,hv,h⟩:=h
  exact ⟨vs,hv,RelVs_calm hc hT cs vs hm h⟩
 | .agg cs,v,hm,h=>by
  simp only [calmV] at hm
  simp only [RelV] at h ⊢
  obtain ⟨vs,hv,h⟩:=h
  exact ⟨vs,hv,RelVs_calm hc hT cs vs hm h⟩
 | .tup cs,v,hm,h=>by
  simp only [calmV] at hm
  simp only [RelV] at h ⊢
  obtain ⟨vs,hv,h⟩:=h
  exact ⟨vs,hv,RelVs_calm hc hT cs vs hm h⟩
 | .ifc t x,v,hm,h=>by
  simp only [calmV] at hm
  simp only [RelV] at h ⊢
  obtain ⟨u,hv,h⟩:=h
  exact ⟨u,hv,RelV_calm hc hT x u hm h⟩
 | .pan x,v,hm,h=>by
  simp only [calmV] at hm
  simp only [RelV] at h ⊢
  exact RelV_calm hc hT x v hm h
 | .lit x u,v,hm,h=>by
  simp only [calmV] at hm
  simp only [RelV] at h ⊢
  exact ⟨h.1,RelV_calm hc hT x v hm h.2⟩
theorem RelVs_calm (hc:Calm R w w' N N') (hT:Spare R w μ H):∀ (xs:List AV) (vs:List Value),calmL xs=true->RelVs w N μ H xs vs->RelVs w' N' μ H xs vs
 | [],vs,_,h=>h
 | x::r,vs,hm,h=>by
  simp only [calmL,bAt] at hm
  simp only [RelVs] at h ⊢
  obtain ⟨v,vr,rfl,h1,h2⟩:=h
  exact ⟨v,vr,rfl,RelV_calm hc hT x v hm.1 h1,RelVs_calm hc hT r vr hm.2 h2⟩
end
theorem Hp_calm {T:Tb} {F F':Frm T} {nx:Nat} (hp:Hp F μ H nx w) (hb:∀ b,calmB (H b)=true) (hc:Calm R w w' (Not F μ H) (Not F' μ H)) (hT:Spare R w μ H)
  (hap:∀ b g,H b≠.dead->μ b=some g->¬ F' g) (hflt:∀ g,F' g->g<w'.heap.size) (htab:∀ g,T.out g->¬ R g):Hp F' μ H nx w' where
 blk:=λb=>by
  have hB:=hp.blk b
  have hm:=hb b
  cases hv:H b with
  | dead=>simp [RelB]
  | vars cs =>
   simp only [hv,RelB,calmB] at hB hm ⊢
   rcases hB with hB | ⟨g,vs,h1,h2,h3,h4⟩
   ·exact .inl hB
   obtain ⟨k1,k2⟩:=hT b g (by rw [hv];simp) h1
   have hh:=hc.keep.keep g k1 k2
   exact .inr ⟨g,vs,h1,RelVs_calm hc hT cs vs hm h2,rowAt_of_heap hh h3,room_of_heap hh h4⟩
  | data t l =>
   simp only [hv,RelB,calmB,Bool.not_eq_true'] at hB hm ⊢
   rcases hB with hB | ⟨g,h1,h2,h3⟩
   ·exact .inl hB
   obtain ⟨k1,k2⟩:=hT b g (by rw [hv];simp) h1
   have hh:=hc.keep.keep g k1 k2
   refine .inr ⟨g,h1,room_of_heap hh h2,λi hi=>?_⟩
   obtain ⟨es,e1,e2,e3⟩:=h3 i hi
   exact ⟨es,e1,rowAt_of_heap hh e2,RelD_calm hc hm e3⟩
  | iter s p =>
   simp only [hv,RelB] at hB ⊢
   obtain ⟨g,h1,h2⟩:=hB
   obtain ⟨k1,k2⟩:=hT b g (by rw [hv];simp) h1
   exact ⟨g,h1,by rw [hc.keep.keep g k1 k2];exact h2⟩
  | mapd kt vt ag l =>
   simp only [hv,RelB,calmB,bAt,Bool.not_eq_true'] at hB hm ⊢
   rcases hB with hB | ⟨g,es,c,h1,h2,h3,h4⟩
   ·exact .inl hB
   obtain ⟨k1,k2⟩:=hT b g (by rw [hv];simp) h1
   refine .inr ⟨g,es,c,h1,by rw [hc.keep.keep g k1 k2];exact h2,h3,h4.1,λi a b=>?_⟩
   obtain ⟨r1,cs,r2,r3⟩:=h4.2 i a b
   exact ⟨RelD_calm hc hm.1 r1,cs,RelD_calm hc hm.2 r2,r3⟩
 lt:=λb g hl hg=>Nat.lt_of_lt_of_le (hp.lt b g hl hg) hc.keep.size
 inj:=hp.inj
 dead:=hp.dead
 apart:=hap
 flt:=hflt
 tab:=T.stays w w' (λg hg=>hc.keep.keep g (T.lt w g hp.tab hg) (htab g hg)) hp.tab
 tapart:=hp.tapart
 mark:=λb g hl hg=>by
  have hd:H b≠.dead:=λh=>by (rw [h] at hl;cases hl)
  obtain ⟨k1,k2⟩:=hT b g hd hg
  exact (hp.mark b g hl hg).of_heap (hc.keep.keep g k1 k2)
 wfm:=λb g hl hg=>by
  obtain ⟨k1,k2⟩:=hT b g hl hg
  exact (hp.wfm b g hl hg).of_heap (hc.keep.keep g k1 k2)
end
end Go.Ev
namespace Go.Ev
open Go
def lentV:AV->AV
 | .sl t l=>cond (flT t) (.sl (.ln t.inn) (cast (congrArg List t.den_inn.symm) l:List t.inn.den)) .bad
 | .i k n=>.i k n
 | .u x=>.u x
 | .b x=>.b x
 | .kb x=>.kb x
 | .s x=>.s x
 | _=>.bad
section
variable {w w':World} {N N':NN}
theorem RelD_innS (hN:∀ g,g<w.heap.size->N'.trk g->N.trk g) (hu:∀ g,g<w.heap.size->N'.unf g->N.unf g):∀ {t:Ty} {x:t.inn.den} {vs:List Value},flT t=true->RelD w N t.inn x vs->RelD w N' t.inn x vs
 | .int _,_,_,_,h=>h
 | .u8,_,_,_,h=>h
 | .bool,_,_,_,h=>h
 | .str,_,_,_,h=>h
 | .unit,_,_,_,h=>h
 | .pt _,_,_,hs,_=>by simp [flT] at hs
 | .mx _,_,_,hs,_=>by simp [flT] at hs
 | .mp _ _ _,_,_,hs,_=>by simp [flT] at hs
 | .ln t,x,vs,hs,h=>RelD_innS hN hu (t:=t) hs h
 | .rg t,x,vs,hs,h=>RelD_innS hN hu (t:=t) hs h
 | .pair a b,p,vs,hs,h=>by
  simp only [flT,bAt] at hs
  simp only [Ty.inn,RelD] at h ⊢
  obtain ⟨xs,ys,h0,h1,h2⟩:=h
  exact ⟨xs,ys,h0,RelD_innS hN hu hs.1 h1,RelD_innS hN hu hs.2 h2⟩
 | .sl t,l,vs,hs,h=>by
  simp only [flT] at hs
  simp only [Ty.inn,RelD] at h ⊢
  obtain ⟨a,c,h1,h2,h3⟩:=h
  refine ⟨a,c,h1,h2,λhp=>?_⟩
  obtain ⟨g,o,ha,hn,hg,hf,hr⟩:=h3 hp
  refine ⟨g,o,ha,λhn'=>hn (hN g hg hn'),hg,λhf'=>hf (hu g hg hf'),λi hi=>?_⟩
  obtain ⟨es,e1,e2,e3⟩:=hr i hi
  exact ⟨es,e1,e2,RelD_innS hN hu hs e3⟩
theorem RelV_lent {μ μ':Nat->Option Nat} {H H':Nat->Blk} (hN:∀ g,g<w.heap.size->N'.trk g->N.trk g) (hu:∀ g,g<w.heap.size->N'.unf g->N.unf g) {x:AV} {v:Value} (h:RelV w N μ H x v):RelV w N' μ' H' (lentV x) v:=by
 cases x <;> first | exact h | (simp only [lentV,RelV];done) | skip
 rename_i t l
 simp only [lentV]
 cases hs:flT t with
 | false=>simp [RelV]
 | true =>
  simp only [cTt,RelV] at h ⊢
  have:=h.inn
  exact RelD_innS (t:=.sl t) hN hu hs this
def bigF {T:Tb} (F:Frm T) (μ:Nat->Option Nat) (H:Nat->Blk) (w:World):Frm T :=
 { out:=λg=>(F.hot g\/Trk μ H g)\/g<w.heap.size,hot:=λg=>F.hot g\/Trk μ H g,le:=λ_ h=>.inl h,reg:=λ_=>False,unf:=λg=>w.heap.size<=g }
def regF {T:Tb} (F:Frm T) (w w1:World):Frm T :=
 { out:=λg=>F g\/(w.heap.size<=g/\g<w1.heap.size),hot:=F.hot,le:=λg h=>.inl (F.le g h),reg:=λg=>w.heap.size<=g/\g<w1.heap.size,unf:=λg=>F.unf g\/(w.heap.size<=g/\g<w1.heap.size) }
def litsOf (E:Nat->AV):List Nat->Option (List Value)
 | []=>some []
 | t::r=>match E t with
  | .lit _ u=>(litsOf E r).map λus=>u::us
  | _=>none
theorem litsOf_get {E:Nat->AV}:∀ {l:List Nat} {f:Nat->Value},litsOf E l=some (l.map f)->∀ t∈l,∃ x,E t=.lit x (f t)
 | [],_,_,t,ht=>by cases ht
 | s::r,f,h,t,ht=>by
  simp only [litsOf] at h
  split at h
  ·rename_i x u hx
   obtain ⟨us,h1,h2⟩:=Option.map_eq_some_iff.1 h
   simp only [List.map_cons,List.cons.injEq] at h2
   obtain ⟨rfl,rfl⟩:=h2
   rcases List.mem_cons.1 ht with rfl | ht
   ·exact ⟨x,hx⟩
   ·exact litsOf_get h1 t ht
  ·cases h
theorem RelD_rgm {NR:NN} {n0:Nat} (hall:∀ g,¬ N.all g->n0<=g) (hunf:∀ g,n0<=g->N.unf g) (htrk:∀ g,n0<=g->¬ NR.trk g) (hreg:∀ g,n0<=g->g<w.heap.size->NR.reg g) :
  ∀ {t:Ty} {x:t.den} {vs:List Value},(lnTy t||!flT t)=false->RelD w N t x vs->RelD w NR t.rgm (cast t.den_rgm.symm x) vs
 | .int _,_,_,_,h=>h
 | .u8,_,_,_,h=>h
 | .bool,_,_,_,h=>h
 | .str,_,_,_,h=>h
 | .unit,_,_,_,h=>h
 | .ln _,_,_,hs,_=>by simp [lnTy] at hs
 | .pt _,_,_,hs,_=>by simp [flT] at hs
 | .mx _,_,_,hs,_=>by simp [flT] at hs
 | .mp _ _ _,_,_,hs,_=>by simp [flT] at hs
 | .rg _,_,_,hs,_=>by simp [lnTy] at hs
 | .pair a b,p,vs,hs,h=>by
  have hs:(lnTy a||!flT a)=false/\(lnTy b||!flT b)=false:=by
   simp only [lnTy,flT,Bool.or_eq_false_iff,Bool.not_eq_false',bAt] at hs ⊢
   exact ⟨⟨hs.1.1,hs.2.1⟩,hs.1.2,hs.2.2⟩
  simp only [RelD] at h
  obtain ⟨xs,ys,h0,h1,h2⟩:=h
  simp only [Ty.rgm,RelD]
  have e:=cast_pair a.den_rgm.symm b.den_rgm.symm p (Ty.den_rgm (.pair a b)).symm
  refine ⟨xs,ys,h0,?_,?_⟩
  ·rw [show (cast (Ty.den_rgm (.pair a b)).symm p:a.rgm.den×b.rgm.den).1=cast a.den_rgm.symm p.1 by rw [e]]
   exact RelD_rgm hall hunf htrk hreg hs.1 h1
  ·rw [show (cast (Ty.den_rgm (.pair a b)).symm p:a.rgm.den×b.rgm.den).2=cast b.den_rgm.symm p.2 by rw [e]]
   exact RelD_rgm hall hunf htrk hreg hs.2 h2
 | .sl t,l,vs,hs',h=>by
  have hs:lnTy t=false:=by
   simp only [lnTy,Bool.or_eq_false_iff] at hs'
   exact hs'.1
  simp only [RelD] at h
  obtain ⟨a,c,h1,h2,h3⟩:=h
  have hl:(cast (Ty.den_rgm (.sl t)).symm l:List t.rgm.den).length=l.length:=cast_len t.den_rgm.symm l _
  have hsz:∀ t:Ty,lnTy t=false->t.rgm.size=t.size:=λt=>by
   induction t with
   | pair a b iha ihb =>
    intro hs
    simp only [lnTy,Bool.or_eq_false_iff] at hs
    simp only [Ty.rgm,Ty.size,iha hs.1,ihb hs.2]
   | _=>intro _;rfl
  simp only [Ty.rgm,RelD]
  refine ⟨a,c,by rw [h1];congr 2;exact hl.symm,by rw [show List.length _=_ from hl];exact h2,λhp=>?_⟩
  obtain ⟨g,o,ha,hn,hg,hu,hr⟩:=h3 (by rw [<- hl];exact hp)
  have hln:∀ M:NN,lnN M t=M.all:=λM=>by cases t <;> first | rfl | simp [lnTy] at hs
  rw [hln] at hn
  have hg0:=hall g hn
  refine ⟨g,o,ha,λh=>h.elim (htrk g hg0) λh=>h (hreg g hg0 hg),hg,?_,λi hi=>?_⟩
  ·rw [show List.length _=_ from hl];simp only [Ty.size];rw [hsz t hs];exact λ_=>hu (hunf g hg0)
  obtain ⟨es,e1,e2,e3⟩:=hr i (by rw [<- hl];exact hi)
  refine ⟨es,by simp only [Ty.size];rw [hsz t hs];exact e1,by simp only [Ty.size];rw [hsz t hs];exact e2,?_⟩
  have:=RelD_rgm (NR:=NR) hall hunf htrk hreg (t:=t) hs' e3
  rw [show (cast (Ty.den_rgm (.sl t)).symm l:List t.rgm.den)[i]=cast t.den_rgm.symm l[i] from cast_get t.den_rgm.symm l _ i hi (by rw [<- hl];exact hi)]
  exact this
end
def seqL:List Code->Code->Code
 | [],c=>c
 | x::r,c=>.seq x (seqL r c)
section
variable {P:Program} {C:Calling} {M:FuncId->Bool} {pin n:Nat} {α:Type} {r:α}
theorem seqL_ok (hm:P.follows .mixedOrders=true) (hC:CallOK P C M) {Cc:Code} {F:Frm (tabsOf P)} {Q:Exit->Act->World->Prop}:∀ (Bs:List Code) (S:St) (K:Ex->St->Option α),ev P C M pin n (seqL Bs .skip) .leaf S K=some r->∀ μ w a,n=a.tmps.size->pin<=S.nx->Rg F μ [] S a w ->
  (∀ S' μ' a' w',K .normal S'=some r->CP true F pin μ S w a μ' S' w' a'->Cc.wp P Q a' w') ->
  (∀ ex e S' μ' a' av w',ex≠.normal->XR ex e a' av->K ex S'=some r->CP true F pin μ S w a μ' S' w' av->Q e a' w')->(seqL Bs Cc).wp P Q a w
 | [],S,K,he,μ,w,a,hn,hp,hr,hN,hQ=>by
  simp only [seqL,ev] at he
  exact hN S μ a w he (CP.refl hr hp)
 | x::Bs,S,K,he,μ,w,a,hn,hp,hr,hN,hQ=>by
  simp only [seqL,ev] at he
  have hx:JOK P C M pin n x .leaf:=joined_ok (ev_ok hm hC x .leaf λz hz=>by rw [loopsIn_leaf] at hz;cases hz)
  refine wp_seq (wp_mono (hx S α _ r he F μ w a hn hp hr) λe a' w' ⟨ex,S',μ',av,h1,h2,h3⟩=>?_)
  have h3:CP true F pin μ S w a μ' S' w' av:=h3
  cases ex with
  | normal =>
   obtain ⟨rfl,rfl⟩:=h1
   refine seqL_ok hm hC Bs S' K h2 μ' w' a' (hn.trans h3.size.symm) h3.le h3.rg (λS2 μ2 a2 w2 g1 g2=>hN S2 μ2 a2 w2 g1 (h3.trans g2)) λex e S2 μ2 a2 av w2 g0 g1 g2 g3=>hQ ex e S2 μ2 a2 av w2 g0 g1 g2 (h3.trans g3)
  | exit id=>have h1':=h1;obtain ⟨rfl,rfl⟩:=h1;exact hQ _ _ S' μ' _ _ w' (by simp) h1' h2 h3
  | ret=>have h1':=h1;obtain ⟨rfl,rfl⟩:=h1;exact hQ _ _ S' μ' _ _ w' (by simp) h1' h2 h3
  | pan=>have h1':=h1;obtain ⟨rfl,hd⟩:=h1;exact hQ _ _ S' μ' _ _ w' (by simp) h1' h2 h3
end
end Go.Ev
namespace Go.Ev
open Go
mutual
theorem unV_calm:∀ (v:VSh) (p:v.den),hasLn v=false->calmV (unV v p)=true
 | .i _,_,_=>rfl | .u,_,_=>rfl | .b,_,_=>rfl | .s,_,_=>rfl | .ptr _ _,_,_=>rfl | .own _,_,_=>rfl | .win _,_,_=>rfl | .mp _,_,_=>rfl | .mptr _ _,_,_=>rfl
 | .nilp,_,_=>rfl | .kb _,_,_=>rfl | .ki _ _,_,_=>rfl | .ks _,_,_=>rfl | .bad,_,_=>rfl | .nil,_,_=>rfl | .cons _ _,_,_=>rfl
 | .sl t,l,h=>by simp only [hasLn] at h;simp only [unV,calmV,h,nFl]
 | .fz t,l,h=>by simp only [hasLn] at h;simp only [unV,calmV,h,nFl]
 | .fn f cs,p,h=>by simp only [hasLn] at h;simp only [unV,calmV];exact unL_calm cs p h
 | .agg cs,p,h=>by simp only [hasLn] at h;simp only [unV,calmV];exact unL_calm cs p h
 | .tup cs,p,h=>by simp only [hasLn] at h;simp only [unV,calmV];exact unL_calm cs p h
 | .ifc t v,p,h=>by simp only [hasLn] at h;simp only [unV,calmV];exact unV_calm v p h
 | .may v w,p,h=>by
  simp only [hasLn,Bool.or_eq_false_iff] at h
  match (show v.den⊕w.den from p) with
  | .inl p=>exact unV_calm v p h.1
  | .inr p =>
   show calmV (.pan (unV w p))=true
   simp only [calmV]
   exact unV_calm w p h.2
theorem unL_calm:∀ (v:VSh) (p:v.den),hasLn v=false->calmL (unL v p)=true
 | .cons v w,p,h=>by
  simp only [hasLn,Bool.or_eq_false_iff] at h
  simp only [unL,calmL,unV_calm v p.1 h.1,unL_calm w p.2 h.2,bAs]
 | .i _,_,_=>rfl | .u,_,_=>rfl | .b,_,_=>rfl | .s,_,_=>rfl | .ptr _ _,_,_=>rfl | .own _,_,_=>rfl | .win _,_,_=>rfl | .mp _,_,_=>rfl | .mptr _ _,_,_=>rfl
 | .nilp,_,_=>rfl | .kb _,_,_=>rfl | .ki _ _,_,_=>rfl | .ks _,_,_=>rfl | .bad,_,_=>rfl | .nil,_,_=>rfl | .sl _,_,_=>rfl | .fz _,_,_=>rfl | .fn _ _,_,_=>rfl | .agg _,_,_=>rfl | .tup _,_,_=>rfl
 | .ifc _ _,_,_=>rfl | .may _ _,_,_=>rfl
end
def calmBS:BSh->Bool
 | .vars c=>!hasLn c
 | .data t=>!lnTy t
 | .mapd k t _=>!lnTy k&&!lnTy t
 | .iter=>true
def calmSh (sh:Shape):Bool:=(sh.slots.all λp=>!hasLn p.2)&&sh.blks.all λp=>calmBS p.2
theorem unB_calm (s:BSh) (p:s.den) (h:calmBS s=true):calmB (unB s p)=true:=by
 cases s with
 | vars c=>simp only [calmBS,Bool.not_eq_true'] at h;simp only [unB,calmB];exact unL_calm c p h
 | data t=>exact h
 | iter=>rfl
 | mapd k t a=>exact h
theorem unSlots_calm:∀ (l:List (Nat×VSh)) (q:slotsDen l),(l.all λp=>!hasLn p.2)=true->∀ t,calmV (unSlots l q t)=true
 | [],_,_,_=>rfl
 | (k,v)::l,q,h,t=>by
  simp only [List.all_cons,bAt,Bool.not_eq_true'] at h
  simp only [unSlots]
  by_cases hk:t=k
  ·subst hk;rw [upd_same];exact unV_calm v q.1 h.1
  ·rw [upd_other hk];exact unSlots_calm l q.2 (by simpa using h.2) t
theorem unBlks_calm:∀ (l:List (Nat×BSh)) (q:blksDen l),(l.all λp=>calmBS p.2)=true->∀ b,calmB (unBlks l q b)=true
 | [],_,_,_=>rfl
 | (k,s)::l,q,h,b=>by
  simp only [List.all_cons,bAt] at h
  simp only [unBlks]
  by_cases hk:b=k
  ·subst hk;rw [updH_same];exact unB_calm s q.1 h.1
  ·rw [updH_other hk];exact unBlks_calm l q.2 h.2 b
theorem calm_E {sh:Shape} (h:calmSh sh=true) (p:sh.den) (t:Nat):calmV ((unpack sh p).E t)=true:=by
 simp only [calmSh,bAt] at h
 exact unSlots_calm sh.slots p.1 h.1 t
theorem calm_H {sh:Shape} (h:calmSh sh=true) (p:sh.den) (b:Nat):calmB ((unpack sh p).H b)=true:=by
 simp only [calmSh,bAt] at h
 exact unBlks_calm sh.blks p.2 h.2 b
theorem unSlots_bad:∀ (l:List (Nat×VSh)) (q:slotsDen l) (t:Nat),(∀ p∈l,p.1≠t)->unSlots l q t=.bad
 | [],_,_,_=>rfl
 | (k,v)::l,q,t,h=>by
  simp only [unSlots]
  have hk:t≠k:=λe=>h (k,v) (by simp) e.symm
  rw [upd_other hk]
  exact unSlots_bad l q.2 t λp hp=>h p (List.mem_cons_of_mem _ hp)
def fitB:(t:Ty)->t.den->Bool
 | .sl t,l=>decide (List.length l<=4611686018427387904)&&List.all l (fitB t)
 | .pair a b,p=>fitB a p.1&&fitB b p.2
 | .ln t,x=>fitB t x
 | .rg t,x=>fitB t x
 | _,_=>true
theorem cond_mapO {α β:Type} (g:α->β) (c:Bool) (a b:Option α):Option.map g (cond c a b)=cond c (Option.map g a) (Option.map g b):=by cases c <;> rfl
theorem bind_mapO {α β γ:Type} (g:β->γ) (x:Option α) (h:α->Option β):Option.map g (Option.bind x h)=Option.bind x λr=>Option.map g (h r):=by cases x <;> rfl
def FC {Tb:Tb} (R:Nat->Prop):Frm Tb:={ out:=λ_=>False,reg:=R,unf:=R }
abbrev NC {Tb:Tb} (R:Nat->Prop):NN:=Not (FC R:Frm Tb) (λ_=>none) (λ_=>.dead)
def WritesOK (P:Program) (n d:Nat) (T:Ty) (keep:List Nat) (Cc:Code):Prop :=
 ∀ (a:Act) (w:World) (R:Nat->Prop) (l:List T.rgm.den),n=a.tmps.size->(tabsOf P).tab w->(∀ g,(tabsOf P).out g->¬ R g)->RelD w (NC (Tb:=tabsOf P) R) (.sl (.rg T.rgm)) l [a.tmps.getD d undef]->fitB (.sl T.rgm) l=true ->
  Cc.wp P (λe a' w'=>e=.normal/\(∀ t∈keep,a'.tmps.getD t undef=a.tmps.getD t undef)/\a'.tmps.size=a.tmps.size/\a'.defers=a.defers/\Chg R w w') a w
section
variable {P:Program} {C:Calling} {M:FuncId->Bool} {pin n:Nat}
theorem callOK_of (hm:P.follows .mixedOrders=true) {X:List (FuncId×Orc)} {Y:List (FuncId×(List AV->Option AV))} {Z:List (FuncId×Deed)} {I:List FuncId} {d:Nat} (hX:AllX P X) (hY:AllY P Y) (hZ:AllZ P Z) (hI:AllI P I) (hap:apartL X Y Z I=true) :
  CallOK P (callX P (lookX X) (lookM X) (lookY Y) (lookZ Z) (hasN I) d) (mild (lookM X) (lookY Y)):=by
 simp only [apartL,bAt,List.all_eq_true] at hap
 obtain ⟨⟨a1,a2⟩,a3⟩:=hap
 exact callX_ok hm (lookX_ok hX) (λf args o h=>lookM_ok h) (λf b _ hb=>lookY_ok hY f b hb) (λf g h=>by
   obtain ⟨y,hy,rfl⟩:=List.mem_map.1 (lookY_mem h)
   exact isNn_eq (a1 y hy)) (λf z h=>by
   obtain ⟨h1,h2⟩:=lookZ_ok hZ f z h
   obtain ⟨y,hy,rfl⟩:=List.mem_map.1 h2
   exact ⟨h1,isNn_eq (a2 y hy).1,isNn_eq (a2 y hy).2⟩) (λf h=>⟨inL_ok hI f h,isNn_eq (a3 f (hasN_mem.1 h)).1,isNn_eq (a3 f (hasN_mem.1 h)).2⟩) d
end
end Go.Ev
namespace Go.Ev
open Go
def Usim (v v':Value):Prop:=v=v'\/∃ k n n',v=.int k n/\v'=.int k n'/\(k=.u8->∃ x:UInt8,n'=(x.toNat:Int))
theorem Usim.refl (v:Value):Usim v v:=.inl rfl
def Alike:(t:Ty)->t.den->t.den->Prop
 | .sl t,l,l'=>List.length l=List.length l'/\∀ i,(h:i<List.length l)->(h':i<List.length l')->Alike t (l[i]'h) (l'[i]'h')
 | .pair a b,p,q=>Alike a p.1 q.1/\Alike b p.2 q.2
 | .ln t,x,y=>Alike t x y
 | .rg t,x,y=>Alike t x y
 | _,_,_=>True
theorem Alike.refl:∀ {t:Ty} (x:t.den),Alike t x x
 | .sl _,_=>⟨rfl,λ_ _ _=>Alike.refl _⟩
 | .pair _ _,p=>⟨Alike.refl p.1,Alike.refl p.2⟩
 | .ln t,x=>Alike.refl (t:=t) x
 | .rg t,x=>Alike.refl (t:=t) x
 | .int _,_=>trivial | .u8,_=>trivial | .bool,_=>trivial | .str,_=>trivial | .unit,_=>trivial | .pt _,_=>trivial | .mp _ _ _,_=>trivial | .mx _,_=>trivial
theorem Alike.trans:∀ {t:Ty} {x y z:t.den},Alike t x y->Alike t y z->Alike t x z
 | .sl _,x,y,z,h,h'=>⟨h.1.trans h'.1,λi h1 h2=>(h.2 i h1 (by have:=h.1;omega)).trans (h'.2 i (by have:=h.1;omega) h2)⟩
 | .pair _ _,_,_,_,h,h'=>⟨h.1.trans h'.1,h.2.trans h'.2⟩
 | .ln t,_,_,_,h,h'=>Alike.trans (t:=t) h h'
 | .rg t,_,_,_,h,h'=>Alike.trans (t:=t) h h'
 | .int _,_,_,_,_,_=>trivial | .u8,_,_,_,_,_=>trivial | .bool,_,_,_,_,_=>trivial | .str,_,_,_,_,_=>trivial | .unit,_,_,_,_,_=>trivial | .pt _,_,_,_,_,_=>trivial | .mp _ _ _,_,_,_,_,_=>trivial | .mx _,_,_,_,_,_=>trivial
structure WSim (w w':World):Prop where
 size:w'.heap.size=w.heap.size
 cell:∀ g o v,w.cell? ⟨g,o,none⟩=some v->∃ v',w'.cell? ⟨g,o,none⟩=some v'/\Usim v v'
 frozen:∀ g o,w'.frozen? ⟨g,o,none⟩=w.frozen? ⟨g,o,none⟩
theorem row_sim {w w':World} (hs:WSim w w') {g:Nat}:∀ {es:List Value} {o:Nat},rowAt w g o es->∃ es':List Value,es'.length=es.length/\rowAt w' g o es'/\∀ i,(h:i<es.length)->(h':i<es'.length)->Usim es[i] es'[i]
 | [],o,_=>⟨[],rfl,λi hi=>absurd hi (by simp),λi hi=>absurd hi (by simp)⟩
 | e::es,o,h=>by
  obtain ⟨v',h1,h2⟩:=hs.cell g o e (by have:=h 0 (by simp);simpa only [Nat.add_zero,List.getElem_cons_zero] using this)
  obtain ⟨es',g1,g2,g3⟩:=row_sim hs (es:=es) (o:=o+1) λi hi=>by
   have:=h (i+1) (by simp;omega)
   simpa [Nat.add_assoc,Nat.add_comm 1 i] using this
  refine ⟨v'::es',by simp [g1],λi hi=>?_,λi h h'=>?_⟩
  ·cases i with
   | zero=>simpa using h1
   | succ i =>
    have:=g2 i (by simpa using hi)
    simpa [Nat.add_assoc,Nat.add_comm 1 i] using this
  ·cases i with
   | zero=>exact h2
   | succ i=>exact g3 i (by simpa using h) (by simpa using h')
theorem choose_list {α:Type} {Q:Nat->α->Prop}:∀ n,(∀ i,i<n->∃ x,Q i x)->∃ l:List α,l.length=n/\∀ i,(h:i<l.length)->Q i l[i]
 | 0,_=>⟨[],rfl,λi hi=>absurd hi (by simp)⟩
 | n+1,h=>by
  obtain ⟨l,h1,h2⟩:=choose_list n λi hi=>h i (by omega)
  obtain ⟨x,hx⟩:=h n (by omega)
  refine ⟨l++[x],by simp [h1],λi hi=>?_⟩
  simp only [lAp,List.length_cons,List.length_nil] at hi
  rcases Nat.lt_or_ge i l.length with hl | hl
  ·rw [List.getElem_append_left hl];exact h2 i hl
  ·have:i=n:=by omega
   subst this
   rw [List.getElem_append_right hl]
   simpa [h1] using hx
theorem RelD_sim {w w':World} (hs:WSim w w') {N:NN}:∀ {t:Ty} {x:t.den} {vs vs':List Value},flT t=true->RelD w N t x vs->vs'.length=vs.length->(∀ i,(h:i<vs.length)->(h':i<vs'.length)->Usim vs[i] vs'[i]) ->
  ∃ x':t.den,RelD w' N t x' vs'/\Alike t x x'
 | .int k,n,vs,vs',_,h,hl,hu=>by
  simp only [RelD] at h
  subst h
  obtain ⟨v',rfl⟩:=List.length_eq_one_iff.1 hl
  have hu0:Usim _ v':=hu 0 (by simp) (by simp)
  simp only [List.getElem_cons_zero] at hu0
  rcases hu0 with e | ⟨k',m,m',e1,e2,_⟩
  ·exact ⟨n,by simp only [RelD];rw [<- e],trivial⟩
  ·cases e1
   exact ⟨m',by simp only [RelD];rw [<- e2],trivial⟩
 | .u8,x,vs,vs',_,h,hl,hu=>by
  simp only [RelD] at h
  subst h
  obtain ⟨v',rfl⟩:=List.length_eq_one_iff.1 hl
  have hu0:Usim _ v':=hu 0 (by simp) (by simp)
  simp only [List.getElem_cons_zero] at hu0
  rcases hu0 with e | ⟨k',m,m',e1,e2,e3⟩
  ·exact ⟨x,by simp only [RelD];rw [<- e],trivial⟩
  ·cases e1
   obtain ⟨y,rfl⟩:=e3 rfl
   exact ⟨y,by simp only [RelD];rw [<- e2],trivial⟩
 | .bool,x,vs,vs',_,h,hl,hu=>by
  simp only [RelD] at h
  subst h
  obtain ⟨v',rfl⟩:=List.length_eq_one_iff.1 hl
  have hu0:Usim _ v':=hu 0 (by simp) (by simp)
  simp only [List.getElem_cons_zero] at hu0
  rcases hu0 with e | ⟨k',m,m',e1,_⟩
  ·exact ⟨x,by simp only [RelD];rw [<- e],trivial⟩
  ·cases e1
 | .str,x,vs,vs',_,h,hl,hu=>by
  simp only [RelD] at h
  subst h
  obtain ⟨v',rfl⟩:=List.length_eq_one_iff.1 hl
  have hu0:Usim _ v':=hu 0 (by simp) (by simp)
  simp only [List.getElem_cons_zero] at hu0
  rcases hu0 with e | ⟨k',m,m',e1,_⟩
  ·exact ⟨x,by simp only [RelD];rw [<- e],trivial⟩
  ·cases e1
 | .unit,x,vs,vs',_,h,hl,hu=>by
  simp only [RelD] at h
  subst h
  exact ⟨(),by simp only [RelD];exact List.length_eq_zero_iff.1 hl,trivial⟩
 | .ln t,x,vs,vs',hf,h,hl,hu=>by
  simp only [RelD] at h
  obtain ⟨x',h1,h2⟩:=RelD_sim hs (by simpa only [flT] using hf) h hl hu
  exact ⟨x',by simpa only [RelD] using h1,h2⟩
 | .rg t,x,vs,vs',hf,h,hl,hu=>by
  simp only [RelD] at h
  obtain ⟨x',h1,h2⟩:=RelD_sim hs (by simpa only [flT] using hf) h hl hu
  exact ⟨x',by simpa only [RelD] using h1,h2⟩
 | .pt _,_,_,_,hf,_,_,_=>by simp [flT] at hf
 | .mx _,_,_,_,hf,_,_,_=>by simp [flT] at hf
 | .mp _ _ _,_,_,_,hf,_,_,_=>by simp [flT] at hf
 | .pair a b,p,vs,vs',hf,h,hl,hu=>by
  simp only [flT,bAt] at hf
  simp only [RelD] at h
  obtain ⟨xs,ys,rfl,h1,h2⟩:=h
  have hl':vs'.length=xs.length+ys.length:=by simpa using hl
  obtain ⟨x1,g1,g2⟩:=RelD_sim hs hf.1 h1 (vs':=vs'.take xs.length) (by simp;omega) λi hi hi'=>by
   have:=hu i (by simp;omega) (by simp at hi';omega)
   rw [List.getElem_append_left hi] at this
   rw [List.getElem_take];exact this
  obtain ⟨x2,g3,g4⟩:=RelD_sim hs hf.2 h2 (vs':=vs'.drop xs.length) (by simp;omega) λi hi hi'=>by
   have:=hu (xs.length+i) (by simp;omega) (by simp at hi';omega)
   rw [List.getElem_append_right (by omega)] at this
   simp only [Nat.add_sub_cancel_left] at this
   rw [List.getElem_drop];exact this
  refine ⟨(x1,x2),?_,g2,g4⟩
  simp only [RelD]
  exact ⟨_,_,(List.take_append_drop _ _).symm,g1,g3⟩
 | .sl t,l,vs,vs',hf,h,hl,hu=>by
  simp only [RelD] at h
  obtain ⟨a,c,rfl,h2,h3⟩:=h
  obtain ⟨v',rfl⟩:=List.length_eq_one_iff.1 hl
  have hv:v'=.slice a (List.length l) c:=by
   have hu0:Usim _ v':=hu 0 (by simp) (by simp)
   simp only [List.getElem_cons_zero] at hu0
   rcases hu0 with e | ⟨k',m,m',e1,_⟩
   ·exact e.symm
   ·cases e1
  subst hv
  by_cases hp:0<List.length l
  ·obtain ⟨g,o,rfl,hn,hg,huf,hr⟩:=h3 hp
   obtain ⟨l',k1,k2⟩:=choose_list (Q:=λi (x':t.den)=>∀ h:i<List.length l,∃ es',es'.length=t.size/\rowAt w' g (o+i*t.size) es'/\RelD w' N t x' es'/\Alike t (l[i]'h) x') (List.length l) λi hi=>by
    obtain ⟨es,e1,e2,e3⟩:=hr i hi
    obtain ⟨es',f1,f2,f3⟩:=row_sim hs e2
    obtain ⟨x',f4,f5⟩:=RelD_sim hs (by simpa only [flT] using hf) e3 f1 f3
    exact ⟨x',λ_=>⟨es',by rw [f1,e1],f2,f4,f5⟩⟩
   have hlen:List.length l=List.length l':=k1.symm
   refine ⟨l',?_,hlen,λi h h'=>?_⟩
   ·simp only [RelD]
    refine ⟨some ⟨g,o,none⟩,c,by rw [hlen],by rw [<- hlen];exact h2,λ_=>⟨g,o,rfl,hn,by rw [hs.size];exact hg,λhff k hk=>?_,λi hi=>?_⟩⟩
    ·rw [hs.frozen];exact huf hff k (by rw [hlen];exact hk)
    ·obtain ⟨es',f1,f2,f3,_⟩:=k2 i hi (by rw [hlen];exact hi)
     exact ⟨es',f1,f2,f3⟩
   ·obtain ⟨_,_,_,_,f⟩:=k2 i h' h
    exact f
  ·have h0:l=[]:=List.length_eq_zero_iff.1 (by omega)
   subst h0
   exact ⟨[],by simp only [RelD];exact ⟨a,c,rfl,h2,λh=>absurd h (by simp)⟩,Alike.refl (t:=.sl t) []⟩
theorem WSim.set {w w':World} {g o:Nat} {v0 v:Value} (h0:w.cell? ⟨g,o,none⟩=some v0) (hu:Usim v0 v) (h:SetMany w w' g o [v]):WSim w w' where
 size:=h.size
 cell:=λg1 o1 v1 hv1=>by
  by_cases hg:g1=g
  ·subst hg
   rw [h.cell o1]
   by_cases ho:o1=o
   ·subst ho
    rw [h0] at hv1
    cases hv1
    exact ⟨v,by simp,hu⟩
   ·have:¬ (o<=o1/\o1<o+[v].length):=by simp;omega
    rw [dif_neg this]
    exact ⟨v1,hv1,.refl v1⟩
  ·exact ⟨v1,by rw [cell?_of_heap (h.heap g1 hg)];exact hv1,.refl v1⟩
 frozen:=λg1 o1=>by
  by_cases hg:g1=g
  ·subst hg;exact h.frozen o1
  ·exact frozen?_of_heap (h.heap g1 hg)
def C0:Calling:=λ_ _ _ _ _=>none
section
variable {P:Program} {n:Nat} {a:Act} {w:World} {R:Nat->Prop}
theorem callOK0 (M:FuncId->Bool):CallOK P C0 M:=λf args S α K r h=>by cases h
abbrev D0:Nat->Blk:=λ_=>.dead
abbrev M0:FuncId->Bool:=λ_=>false
structure Cx (P:Program) (R:Nat->Prop) (E:Nat->AV) (a:Act) (w:World):Prop where
 tab:(tabsOf P).tab w
 e:∀ t,RelV w (NC (Tb:=tabsOf P) R) (λ_=>none) D0 (E t) (a.tmps.getD t undef)
 ng:∀ t j b x,E t≠.gd j b x
theorem Cx.rg {E:Nat->AV} (h:Cx P R E a w):Rg (FC R:Frm (tabsOf P)) (λ_=>none) [] ⟨E,D0,0,[]⟩ a w:=by
 refine ⟨⟨λb=>by simp [RelB],λb g h=>absurd rfl h,λb b' g h=>absurd rfl h,λ_ _=>rfl,λb g h=>absurd rfl h,λg hg=>hg.elim,h.tab,λb g h=>absurd rfl h,λb g h=>(by cases h),λb g h=>absurd rfl h⟩,λt=>?_,λt j b x hh=>absurd hh (h.ng t j b x)⟩
 have:=h.e t
 have hn:=h.ng t
 show (match E t with
  | .gd j b x=>_
  | x=>RelV w _ _ _ x (a.tmps.getD t undef))
 cases hx:E t <;> rw [hx] at this hn <;> first | exact this | exact absurd rfl (hn _ _ _)
theorem sub_NC {T:Tb} {μ:Nat->Option Nat} {H:Nat->Blk} (w:World):Sub w (NC (Tb:=T) R) (Not (FC R:Frm T) μ H) :=
 ⟨λ_g _ h=>h.elim (λh=>h.elim) λ⟨_,h,_⟩=>absurd rfl h,λ_g _ h=>h.elim (λh=>h.elim) λ⟨_,h,_⟩=>absurd rfl h,λ_ _ h=>h,λ_ _ h=>h⟩
def loneV:AV->Bool
 | .i _ _ | .u _ | .b _ | .kb _ | .s _ | .c _ | .sl _ _ | .bad=>true
 | .fp _ _ _ _=>true
 | .lit .bad _=>true
 | _=>false
theorem lone_ok {T:Tb} {μ:Nat->Option Nat} {H:Nat->Blk} {x:AV} {v:Value} (hx:loneV x=true) (h:RelV w (Not (FC R:Frm T) μ H) μ H x v):RelV w (NC (Tb:=T) R) (λ_=>none) D0 x v:=by
 cases x <;> simp only [loneV,Bool.false_eq_true] at hx <;> simp only [RelV] at h ⊢ <;> first
  | exact h
  | exact h.keep (Keep.refl w) (sub_NC w)
  | skip
 ·obtain ⟨h1,g,o,h2,h3,h4,es,h5,h6,h7,h8⟩:=h
  exact ⟨h1,g,o,λhn=>h2 ((sub_NC w).ln h3 hn),h3,h4,es,h5,h6,h7,h8.1.keep (Keep.refl w) (sub_NC w),h8.2.keep h3 rfl (sub_NC w)⟩
 ·rename_i y u
  cases y <;> simp only [Bool.false_eq_true] at hx
  exact ⟨h.1,by simp [RelV]⟩
theorem piece (hm:P.follows .mixedOrders=true) {c:Code} {E E':Nat->AV} {slots:List Nat} {ex:Ex} (hx:ex≠.pan)
  (he:ev P C0 M0 0 n c .leaf ⟨E,D0,0,[]⟩ (λex S=>some (ex,slots.map S.E))=some (ex,slots.map E')) (hl:(slots.all λt=>loneV (E' t))=true) (hb:∀ t,t∉slots->E' t=.bad)
  (hn:n=a.tmps.size) (h:Cx P R E a w) :
  c.wp P (λe a' w'=>e=exOf ex/\a'.tmps.size=a.tmps.size/\a'.defers=a.defers/\Chg (λ_=>False) w w'/\Cx P R E' a' w') a w:=by
 refine wp_mono (ev_ok hm (callOK0 M0) c .leaf (λz hz=>by rw [loopsIn_leaf] at hz;cases hz) _ _ _ _ he (FC R) (λ_=>none) w a hn (Nat.zero_le _) h.rg) λe a' w' ⟨ex',S',μ',av,h1,h2,h3⟩=>?_
 simp only [oSi,Prod.mk.injEq] at h2
 obtain ⟨rfl,h2⟩:=h2
 have hav:e=exOf ex'/\a'=av:=by
  cases ex' <;> first | exact h1 | exact absurd rfl hx
 obtain ⟨rfl,rfl⟩:=hav
 refine ⟨rfl,h3.size,h3.defers,⟨⟨h3.chg.size,λg hg _=>h3.chg.keep g hg λ⟨b,h,_⟩=>h rfl⟩,h3.chg.os,h3.chg.tape,h3.chg.output⟩,h3.rg.hp.tab,λt=>?_,λt j b x hh=>?_⟩
 ·by_cases ht:t∈slots
  ·have hE:S'.E t=E' t:=List.map_inj_left.1 h2 t ht
   have hlt:=List.all_eq_true.1 hl t ht
   have:=h3.rg.e t
   rw [hE] at this
   refine lone_ok (μ:=μ') (H:=S'.H) hlt ?_
   cases hxx:E' t <;> rw [hxx] at this hlt <;> first | exact this | (simp [loneV] at hlt)
  ·rw [hb t ht];simp [RelV]
 ·by_cases ht:t∈slots
  ·have hlt:=List.all_eq_true.1 hl t ht
   rw [hh] at hlt
   simp [loneV] at hlt
  ·rw [hb t ht] at hh;cases hh
end
end Go.Ev
namespace Go.Ev
open Go
section
variable {P:Program} {F:Frm (tabsOf P)} {α:Type} {r:α} {M:FuncId->Bool}
theorem turns_pre {C:Calling} (hC:CallOK P C M) {n:Nat} {ops:Array Oper} {Q:Exit->Act->World->Prop} {K:St->Option α} {Kp:AV->St->Option α} {rest:List Nat}:∀ (l:List Oper) (k:Nat) (F:Frm (tabsOf P)) (μ:Nat->Option Nat) (done:List Nat) (S:St) (a:Act) (w:World),(∀ j,j<l.length->l[j]?=ops[k+j]?) ->
  n=a.tmps.size->Rg F μ done S a w->evTurns P C n ops (turns k l) done [] S K Kp=some r ->
  (∀ x S' w' a' val,Kp x S'=some r->PPost F μ S.H S.nx S.kl w a x S' w' a' val->Q (.panic [{ v:=val,recovered:=false }]) a' w') ->
  (∀ S' w' a' done',K S'=some r->Post F μ S w a done' S' w' a'->wpOps P ops Q rest a' w')->wpOps P ops Q (List.range' k l.length++rest) a w
 | [],k,F,μ,done,S,a,w,_,_,hr,h,_,hn=>hn S w a done h (.refl hr)
 | o::l,k,F,μ,done,S,a,w,hl,hsz,hr,h,hq,hn=>by
  have ho:ops[k]?=some o:=by simpa using (hl 0 (by simp)).symm
  simp only [turns,evTurns,Turn.watch,isNilN,cTt,keepW,List.append_nil] at h
  obtain ⟨h0,h1⟩:=cond_some h
  rw [hsz] at h0
  rw [List.length_cons,List.range'_succ,List.cons_append]
  refine wpOps_turn ho (evOp_ok hC hr (fresh_ok h0) h1 hq λS' w' a' hK hp=>?_)
  obtain ⟨⟨μ',kl,e1,e2,e3⟩,e4,e5⟩:=hp
  refine turns_pre hC l (k+1) F μ' (dstL o++done) S' a' w' (λj hj=>?_) (by rw [e4,hsz]) e3 hK (λx S2 w2 a2 val h1 h2=>hq x S2 w2 a2 val h1 (PPost.trans ⟨μ',kl,e1,e2,h2⟩ e5)) λS2 w2 a2 d2 hK2 hp2=>hn S2 w2 a2 d2 hK2 ?_
  ·have:=hl (j+1) (by simpa using hj)
   simpa [Nat.add_assoc,Nat.add_comm 1 j] using this
  ·exact Post.trans ⟨μ',kl,e1,e2,e3,hp2⟩ e4 e5
end
def numK:AV->Option IntKind
 | .i k _=>some k
 | .u _=>some .u8
 | _=>none
theorem numK_rel {w:World} {N:NN} {μ:Nat->Option Nat} {H:Nat->Blk} {x:AV} {v:Value} {k:IntKind} (h:numK x=some k) (hx:RelV w N μ H x v) (hk:k=.u8->∃ y,x=.u y):∃ m,v=.int k m/\(k=.u8->∃ y:UInt8,m=(y.toNat:Int)):=by
 cases x <;> simp only [numK,reduceCtorEq,oSi] at h
 ·subst h
  simp only [RelV] at hx
  exact ⟨_,hx,λe=>by obtain ⟨y,hy⟩:=hk e;cases hy⟩
 ·subst h
  simp only [RelV] at hx
  exact ⟨_,hx,λ_=>⟨_,rfl⟩⟩
section
variable {P:Program} {n:Nat} {a:Act} {w:World} {R:Nat->Prop}
theorem piece_store {id m:Nat} {ops:Array Oper} {E E':Nat->AV} {slots:List Nat} {o:Oper} {t:TypeId} {p v:Nat} {y:Ty} {l:List y.den} {ix f:Nat} {k:IntKind} {cold:AV}
  (he:evTurns P C0 n ops (turns 0 (ops.toList.take m)) [] [] ⟨E,D0,0,[]⟩ (λS=>some (slots.map S.E)) (λ_ _=>none)=some (slots.map E')) (hl:(slots.all λt=>loneV (E' t))=true) (hb:∀ t,t∉slots->E' t=.bad)
  (hsz:ops.size=m+1) (ho:ops[m]?=some o) (hop:o.op=.store t (.tmp p) (.tmp v)) (hgd:o.guard=none) (hdst:o.dst=none) (hi:(P.info? t).isSome=true) (hc1:P.cellsOf t=1)
  (hp:E' p=.fp (.rg y) l ix f) (hv:numK (E' v)=some k) (hv8:k=.u8->∃ z,E' v=.u z) (hcold:(encc y (l.getD ix y.dflt))[f]?=some cold) (hck:numK cold=some k)
  (hn:n=a.tmps.size) (h:Cx P R E a w) :
  (Code.region id ops false).wp P (λe a' w'=>e=.normal/\a'.tmps.size=a.tmps.size/\a'.defers=a.defers/\∃ w1,Chg (λ_=>False) w w1/\Cx P R E' a' w1/\WSim w1 w'/\Chg R w1 w') a w:=by
 refine wp_region ?_
 rw [List.range_eq_range',hsz]
 have hsplit:List.range' 0 (m+1)=List.range' 0 (ops.toList.take m).length++[m]:=by
  have hlen:(ops.toList.take m).length=m:=by simp;omega
  rw [hlen,<- List.range'_append_1 (s:=0) (m:=m) (n:=1)]
  simp
 rw [hsplit]
 refine turns_pre (callOK0 M0) (ops.toList.take m) 0 (FC R) (λ_=>none) [] _ a w (λj hj=>?_) hn h.rg he (λx S' w' a' val hK _=>by cases hK) λS' w1 a1 done' hK hpost=>?_
 ·have hj':j<m:=by
   have:(ops.toList.take m).length<=m:=by simp;omega
   omega
  rw [List.getElem?_take_of_lt hj',Nat.zero_add,Array.getElem?_toList]
 ·simp only [oSi] at hK
  obtain ⟨⟨μ',kl,_,hpl,hrg⟩,e4,e5⟩:=hpost
  have hchg:Chg (λ_=>False) w w1:=⟨⟨hpl.chg.size,λg hg _=>hpl.chg.keep g hg λ⟨b,h,_⟩=>h rfl⟩,hpl.chg.os,hpl.chg.tape,hpl.chg.output⟩
  have hcx:Cx P R E' a1 w1:=by
   refine ⟨hrg.hp.tab,λt=>?_,λt j b x hh=>?_⟩
   ·by_cases ht:t∈slots
    ·have hE:S'.E t=E' t:=List.map_inj_left.1 hK t ht
     have hlt:=List.all_eq_true.1 hl t ht
     have:=hrg.e t
     rw [hE] at this
     refine lone_ok (μ:=μ') (H:=S'.H) hlt ?_
     cases hxx:E' t <;> rw [hxx] at this hlt <;> first | exact this | (simp [loneV] at hlt)
    ·rw [hb t ht];simp [RelV]
   ·by_cases ht:t∈slots
    ·have hlt:=List.all_eq_true.1 hl t ht
     rw [hh] at hlt
     simp [loneV] at hlt
    ·rw [hb t ht] at hh;cases hh
  have hP:=hcx.e p
  rw [hp] at hP
  simp only [RelV] at hP
  obtain ⟨hix,g,off,hng,hgl,hpv,es,s1,s2,_,s3,s4⟩:=hP
  have hreg:R g:=Classical.byContradiction λhh=>hng (.inr hh)
  have s3:RelD w1 (NC (Tb:=tabsOf P) R) y l[ix] es:=by simpa only [RelD] using s3
  have hgd':l.getD ix y.dflt=l[ix]:=by simp [List.getD,List.getElem?_eq_getElem hix]
  rw [hgd'] at hcold
  obtain ⟨vold,q1,q2⟩:=RelVs_get f (RelVs_encc (μ:=λ_=>none) (H:=D0) s3) hcold
  have hV:=hcx.e v
  obtain ⟨mv,q3,q4⟩:=numK_rel hv hV hv8
  have hfl:f<es.length:=(List.getElem?_eq_some_iff.1 q1).1
  have q1':es[f]=vold:=(List.getElem?_eq_some_iff.1 q1).2
  have hcell:w1.cell? ⟨g,off+ix*y.size+f,none⟩=some vold:=by
   have:=s2 f hfl
   rw [q1'] at this
   exact this
  have hold:∃ mo,vold=.int k mo:=by
   cases cold <;> simp only [numK,reduceCtorEq,oSi] at hck
   ·subst hck;simp only [RelV] at q2;exact ⟨_,q2⟩
   ·subst hck;simp only [RelV] at q2;exact ⟨_,q2⟩
  obtain ⟨mo,rfl⟩:=hold
  have hfz:w1.frozen? ⟨g,off+ix*y.size+f,none⟩=false:=s4 hreg f (by
   have:es.length=(Ty.rg y).size:=s1
   omega)
  have hcl:(Value.int k mv).cells.toList=[.int k mv]:=rfl
  obtain ⟨w',hrun,hS⟩:=run_storeAt (P:=P) (w:=w1) (t:=t) (g:=g) (o:=off+ix*y.size+f) (v:=.int k mv) hi (by rw [hcl,hc1];rfl) (by rw [hcl];intro u hu;simp only [List.mem_singleton] at hu;subst hu;rfl) (by
   rw [hcl]
   intro j hj
   have:j=0:=by simpa using hj
   subst this
   exact ⟨by rw [Nat.add_zero,hcell];rfl,by rw [Nat.add_zero];exact hfz⟩)
  rw [hcl] at hS
  refine wpOps_turn ho ?_
  unfold wpTurn
  have hw:Region.wanted o (yielded ops a1.tmps):=by unfold Region.wanted;rw [hgd]
  rw [if_pos hw]
  unfold Oper.wp
  have hx:(execOp a1.eval o).run P w1=.ok .skip w':=by
   have e1:a1.eval (.tmp p)=.pointer (some ⟨g,off+ix*y.size+f,none⟩):=hpv
   have e2:a1.eval (.tmp v)=.int k mv:=q3
   simp [execOp,hop,e1,e2,hrun]
  rw [hx,Oper.upon_skip]
  have hput:a1.put o.dst undef=a1:=by rw [hdst];rfl
  rw [hput]
  simp only [wpOps]
  refine ⟨trivial,e4,e5,w1,hchg,hcx,WSim.set hcell (.inr ⟨k,mo,mv,rfl,rfl,q4⟩) hS,⟨⟨Nat.le_of_eq hS.size.symm,λg1 _ hh=>hS.heap g1 λe=>hh (e ▸ hreg)⟩,hS.os,hS.tape,hS.output⟩⟩
def ixV (t:Nat):List (Nat×Int)->AV->AV
 | [],x=>x
 | (k,i)::r,x=>cond (Nat.beq t k) (.i .i64 i) (ixV t r x)
def EE (d:Nat) (G:Ty) (keep:List Nat) (u:Nat->Value) (cx:List (Nat×Int)) (l:List G.den):Nat->AV:=λt =>
 cond (Nat.beq t d) (.sl (.rg G) l) (ixV t cx (cond (hasN keep t) (.lit .bad (u t)) .bad))
theorem ixV_cases (t:Nat) (x:AV):∀ cx:List (Nat×Int),(∃ i,ixV t cx x=.i .i64 i)\/ixV t cx x=x
 | []=>.inr rfl
 | (k,i)::r=>by
  simp only [ixV]
  cases Nat.beq t k with
  | true=>exact .inl ⟨i,rfl⟩
  | false=>exact ixV_cases t x r
theorem EE_cases (d:Nat) (G:Ty) (keep:List Nat) (u:Nat->Value) (cx:List (Nat×Int)) (l:List G.den) (t:Nat):(t=d/\EE d G keep u cx l t=.sl (.rg G) l)\/(t≠d/\((∃ i,EE d G keep u cx l t=.i .i64 i)\/EE d G keep u cx l t=.lit .bad (u t)\/EE d G keep u cx l t=.bad)):=by
 unfold EE
 cases hd:Nat.beq t d with
 | true=>exact .inl ⟨nEb hd,rfl⟩
 | false =>
  refine .inr ⟨λe=>by subst e;simp at hd,?_⟩
  simp only [cFf]
  rcases ixV_cases t (cond (hasN keep t) (.lit .bad (u t)) .bad) cx with h | h
  ·exact .inl h
  ·rw [h]
   cases hasN keep t
   ·exact .inr (.inr rfl)
   ·exact .inr (.inl rfl)
variable {d:Nat} {G:Ty} {keep:List Nat} {u:Nat->Value} {cx:List (Nat×Int)}
theorem Cx.less {E E':Nat->AV} (h:Cx P R E a w) (hE:∀ t,E' t=E t\/E' t=.bad):Cx P R E' a w:=by
 refine ⟨h.tab,λt=>?_,λt j b x hh=>?_⟩
 ·rcases hE t with e | e
  ·rw [e];exact h.e t
  ·rw [e];simp [RelV]
 ·rcases hE t with e | e
  ·rw [e] at hh;exact h.ng t j b x hh
  ·rw [e] at hh;cases hh
def WrOK (P:Program) (n:Nat) (R:Nat->Prop) (d:Nat) (G:Ty) (keep:List Nat) (cx:List (Nat×Int)) (l0:List G.den) (c:Code):Prop :=
 ∀ (u:Nat->Value) (a:Act) (w:World) (l:List G.den),Alike (.sl G) l0 l->n=a.tmps.size->Cx P R (EE d G keep u cx l) a w ->
  c.wp P (λe a' w'=>e=.normal/\a'.tmps.size=a.tmps.size/\a'.defers=a.defers/\Chg R w w'/\∃ l',Alike (.sl G) l0 l'/\Cx P R (EE d G keep u cx l') a' w') a w
theorem WritesOK.of {T:Ty} {Cc:Code} (h:∀ (R:Nat->Prop) (l:List T.rgm.den),(∀ g,(tabsOf P).out g->¬ R g)->fitB (.sl T.rgm) l=true->WrOK P n R d T.rgm keep [] l Cc) (hdk:hasN keep d=false):WritesOK P n d T keep Cc:=by
 intro a w R l hn ht hR hD hf
 have hcx:Cx P R (EE d T.rgm keep (λt=>a.tmps.getD t undef) [] l) a w:=by
  refine ⟨ht,λt=>?_,λt j b x hh=>?_⟩
  ·rcases EE_cases d T.rgm keep (λt=>a.tmps.getD t undef) [] l t with ⟨rfl,e⟩ | ⟨hne,⟨i,e⟩ | e | e⟩
   ·rw [e];simpa only [RelV] using hD
   ·exfalso
    unfold EE at e
    have:Nat.beq t d=false:=Bool.eq_false_iff.2 λe=>hne (nEb e)
    rw [this] at e
    simp only [cFf,ixV] at e
    cases hk:hasN keep t <;> rw [hk] at e <;> cases e
   ·rw [e];simp [RelV]
   ·rw [e];simp [RelV]
  ·rcases EE_cases d T.rgm keep (λt=>a.tmps.getD t undef) [] l t with ⟨rfl,e⟩ | ⟨hne,⟨i,e⟩ | e | e⟩ <;> rw [e] at hh <;> cases hh
 refine wp_mono (h R l hR hf (λt=>a.tmps.getD t undef) a w l (Alike.refl (t:=.sl T.rgm) l) hn hcx) λe a' w' ⟨h1,h2,h3,h4,l',_,h5⟩=>⟨h1,λt htk=>?_,h2,h3,h4⟩
 have hne:t≠d:=λe=>by subst e;rw [hasN_mem.2 htk] at hdk;cases hdk
 have:=h5.e t
 have e:EE d T.rgm keep (λt=>a.tmps.getD t undef) [] l' t=.lit .bad (a.tmps.getD t undef):=by
  unfold EE
  have:Nat.beq t d=false:=Bool.eq_false_iff.2 λe=>hne (nEb e)
  rw [this,hasN_mem.2 htk];rfl
 rw [e] at this
 simp only [RelV] at this
 exact this.1
end
end Go.Ev
namespace Go.Ev
open Go
def rgV:AV->AV
 | .sl t l=>cond (lnTy t||!flT t) .bad (.sl (.rg t.rgm) (cast (congrArg List t.den_rgm.symm) l:List t.rgm.den))
 | .fz (.pt t) x=>match (show Option t.den from x) with
  | some y=>cond (lnTy t||!flT t) .bad (.fp (.rg t.rgm) [cast t.den_rgm.symm y] 0 0)
  | none=>.bad
 | .i k n=>.i k n
 | _=>.bad
section
variable {w w':World} {N N' NR:NN} {μ μ':Nat->Option Nat} {H H':Nat->Blk}
theorem rgV_ok {n0:Nat} (hall:∀ g,¬ N.all g->n0<=g) (hunf:∀ g,n0<=g->N.unf g) (htrk:∀ g,n0<=g->¬ NR.trk g) (hreg:∀ g,n0<=g->g<w.heap.size->NR.reg g) {x:AV} {v:Value} (h:RelV w N μ H x v):RelV w NR μ' H' (rgV x) v:=by
 cases x <;> first | (simp only [rgV,RelV];done) | skip
 case i k n=>exact h
 case sl t l =>
  simp only [rgV]
  cases hT:lnTy t||!flT t with
  | true=>simp [RelV]
  | false =>
   simp only [cFf,RelV] at h ⊢
   have:=RelD_rgm (NR:=NR) hall hunf htrk hreg (t:=.sl t) hT h
   simpa only [Ty.rgm] using this
 case fz t x =>
  cases t <;> first | (simp only [rgV,RelV];done) | skip
  rename_i t
  cases hx:(show Option t.den from x) with
  | none=>simp only [rgV,RelV]
  | some y =>
  simp only [rgV]
  cases hT:lnTy t||!flT t with
  | true=>simp [RelV]
  | false =>
   have hx':x=some y:=hx
   subst hx'
   have hs:lnTy t=false:=by
    simp only [Bool.or_eq_false_iff] at hT
    exact hT.1
   simp only [cFf,RelV,RelD] at h ⊢
   obtain ⟨⟨p,hp,h | ⟨g,o,y',es,_,h2,h3,h4,h5,h6,h7,h8,h9⟩⟩,_⟩:=h
   ·cases h.1
   have h2':y=y':=h2
   subst h2'
   have hv:v=.pointer p:=by simpa using hp
   subst hv
   subst h3
   have hg:=hall g h4
   refine ⟨by simp,g,o,λhn=>hn.elim (htrk g hg) λhr=>hr (hreg g hg h5),h5,by simp,es,by simp only [Ty.size];rw [rgm_size hs];exact h7,by simpa using h8,by simp,?_,?_⟩
   ·exact RelD_rgm hall hunf htrk hreg hT h9
   ·simp only [Ty.size,Nat.zero_mul,Nat.add_zero]
    rw [rgm_size hs]
    exact λ_=>h6 (hunf g hg)
theorem rgV_keep {x:AV} {v:Value} (hk:Keep N.trk w w') (hN:Sub w N' N) (h:RelV w N μ H (rgV x) v):RelV w' N' μ' H' (rgV x) v:=by
 have key:∀ z:AV,(∀ t l,z=.sl t l->RelV w N μ H z v->RelV w' N' μ' H' z v):=λz t l hz hh=>by
  subst hz
  simp only [RelV] at hh ⊢
  exact hh.keep hk hN
 have key2:∀ (t:Ty) (l:List t.den) (ix f:Nat),RelV w N μ H (.fp t l ix f) v->RelV w' N' μ' H' (.fp t l ix f) v:=λt l ix f hh=>by
  simp only [RelV] at hh ⊢
  obtain ⟨h1,g,o,h2,h3,h4,es,h5,h6,h7,h8⟩:=hh
  have hg:=hk.keep g h3 λht=>h2 (lnN_trk ht)
  exact ⟨h1,g,o,λhn=>h2 (hN.ln h3 hn),Nat.lt_of_lt_of_le h3 hk.size,h4,es,h5,rowAt_of_heap hg h6,h7,h8.1.keep hk hN,h8.2.keep h3 hg hN⟩
 cases x <;> first | (simp only [rgV,RelV];done) | skip
 case i k n=>exact h
 case sl t l =>
  simp only [rgV] at h ⊢
  cases hT:lnTy t||!flT t with
  | true=>simp [RelV]
  | false =>
   simp only [hT,cFf] at h ⊢
   exact key _ _ _ rfl h
 case fz t x =>
  cases t <;> first | (simp only [rgV,RelV];done) | skip
  rename_i t
  cases hx:(show Option t.den from x) with
  | none=>simp only [rgV,RelV]
  | some y =>
   simp only [rgV,hx] at h ⊢
   cases hT:lnTy t||!flT t with
   | true=>simp [RelV]
   | false =>
    simp only [hT,cFf] at h ⊢
    exact key2 _ _ _ _ h
end
def lentV2:AV->AV
 | .fz (.pt t) x=>match (show Option t.den from x) with
  | some y=>cond (flT t) (.fp (.ln t.inn) [cast t.den_inn.symm y] 0 0) .bad
  | none=>.bad
 | x=>lentV x
theorem RelV_lent2 {w:World} {N N':NN} {μ μ':Nat->Option Nat} {H H':Nat->Blk} (hN:∀ g,g<w.heap.size->N'.trk g->N.trk g) (hu:∀ g,g<w.heap.size->N'.unf g->N.unf g) {x:AV} {v:Value} (h:RelV w N μ H x v):RelV w N' μ' H' (lentV2 x) v:=by
 have hl:=RelV_lent (μ':=μ') (H':=H') hN hu h
 cases x <;> first | exact hl | skip
 rename_i t x
 cases t <;> first | exact hl | skip
 rename_i t
 cases hx:(show Option t.den from x) with
 | none=>simp only [lentV2,RelV]
 | some y =>
 simp only [lentV2]
 cases hT:flT t with
 | false=>simp [RelV]
 | true =>
  have hx':x=some y:=hx
  subst hx'
  simp only [cTt,RelV,RelD] at h ⊢
  obtain ⟨⟨p,hp,h | ⟨g,o,y',es,_,h2,h3,h4,h5,h6,h7,h8,h9⟩⟩,_⟩:=h
  ·cases h.1
  have h2':y=y':=h2
  subst h2'
  have hv:v=.pointer p:=by simpa using hp
  subst hv
  subst h3
  refine ⟨by simp,g,o,λhn=>h4 (N.le g (hN g h5 hn)),h5,by simp,es,by simp only [Ty.size];rw [inn_size];exact h7,by simpa using h8,by simp,?_,?_⟩
  ·exact RelD_innS hN hu hT h9.inn
  ·simp only [Ty.size,Nat.zero_mul,Nat.add_zero]
   rw [inn_size]
   exact λhf=>h6 (hu g h5 hf)
def headS (ks:List Nat) (S:St):St:=match ks with
 | []=>S
 | k::ks=>S.sealE (k::ks)
theorem headS_rg {P:Program} {F:Frm (tabsOf P)} {μ:Nat->Option Nat} {S:St} {a:Act} {w:World} (ks:List Nat) (h:Rg F μ [] S a w):Rg F μ [] (headS ks S) a w:=by
 cases ks with
 | nil=>exact h
 | cons k ks=>exact h.sealE k ks
def KA2 (D keep ks:List Nat):Ex->St->Option (List AV×List Value):=λex S=>match ex with
 | .normal=>(litsOf S.E keep).map λus=>(D.map λt=>rgV (sealV S.H ks (S.E t)),us)
 | _=>none
def regE2 (D keep:List Nat) (x:Nat->AV) (f:Nat->Value) (E:Nat->AV):Nat->AV:=λt =>
 cond (hasN D t) (.lit (x t) (f t)) (cond (hasN keep t) (E t) .bad)
def KB2 (pin:Nat) (D:List Nat) (shN shR:Shape):Ex->St->Option ((shN.den×List Value)⊕shR.den):=λex S=>match ex with
 | .normal=>(litsOf S.E D).bind λus=>pack pin shN S λq=>some (.inl (q,us))
 | .ret=>pack pin shR S λq=>some (.inr q)
 | _=>none
def KR (pin:Nat) (shR:Shape):Ex->St->Option shR.den:=λex S=>match ex with
 | .ret=>pack pin shR S λq=>some q
 | _=>none
def WrFrom (P:Program) (n:Nat) (D keep:List Nat) (x:Nat->AV) (Cc:Code):Prop :=
 ∀ (a:Act) (w:World) (R:Nat->Prop),n=a.tmps.size->(tabsOf P).tab w->(∀ g,(tabsOf P).out g->¬ R g)->(∀ t∈D,RelV w (NC (Tb:=tabsOf P) R) (λ_=>none) D0 (x t) (a.tmps.getD t undef)) ->
  Cc.wp P (λe a' w'=>e=.normal/\(∀ t∈keep,a'.tmps.getD t undef=a.tmps.getD t undef)/\a'.tmps.size=a.tmps.size/\a'.defers=a.defers/\Chg R w w') a w
section
variable {P:Program} {C:Calling} {M:FuncId->Bool} {pin n:Nat}
theorem sem_tail (hm:P.follows .mixedOrders=true) (hC:CallOK P C M) {As Bs:List Code} {Cc Rest:Code} {sh shN shR:Shape} {D keep ks ks0:List Nat} {α:Type} {X:α->Nat->AV}
    {ownf:sh.den->Option α} {fit:α->Bool} {runB:sh.den->α->Option (shN.den⊕shR.den)} {runR:shN.den->Option shR.den}
    (c1:calmSh sh=true) (c2:calmSh shN=true) (c3:calmSh shR=true) (hk:(shN.slots.all λp=>hasN keep p.1)=true)
    (heA:∀ (p:sh.den) (f:Nat->Value),ev P C M pin n (seqL As .skip) .leaf ⟨λt=>.lit (lentV2 ((headS ks0 (unpack sh p)).E t)) (f t),λ_=>.dead,sh.nx,[]⟩ (KA2 D keep ks)=(ownf p).map λl=>(D.map (X l),keep.map f))
    (heB:∀ (p:sh.den) (l:α) (f:Nat->Value),ev P C M pin n (seqL Bs .skip) .leaf ⟨regE2 D keep (X l) f (unpack sh p).E,(unpack sh p).H,sh.nx,[]⟩ (KB2 pin D shN shR) =
      (runB p l).map λr=>match r with
        | .inl q=>.inl (q,D.map f)
        | .inr q=>.inr q)
    (hW:∀ l,fit l=true->WrFrom P n D keep (X l) Cc)
    (heR:∀ q:shN.den,ev P C M pin n Rest .leaf (unpack shN q) (KR pin shR)=runR q) :
    SemOK P pin n (seqL As (seqL Bs (.seq Cc Rest))) sh [(.ret,shR)] λp=>(ownf p).bind λl=>cond (fit l) ((runB p l).bind λr=>match r with
      | .inl q=>runR q
      | .inr q=>some q) none:=by
  intro p q hq F μ w a hn hpin hr
  let S:=unpack sh p
  let S0:=headS ks0 S
  have hr0:Rg F μ [] S0 a w:=headS_rg ks0 hr
  cases how:ownf p with
  | none=>simp [how] at hq
  | some l =>
  simp only [how,oBs] at hq
  obtain ⟨hfit,hq⟩:=cond_some hq
  have hA:=heA p λt=>a.tmps.getD t undef
  rw [how,Option.map_some] at hA
  have hrb:Rg (bigF F μ S0.H w) (λ_=>none) [] ⟨λt=>.lit (lentV2 (S0.E t)) (a.tmps.getD t undef),λ_=>.dead,sh.nx,[]⟩ a w:=by
    refine ⟨⟨λb=>by simp [RelB],λb g h=>absurd rfl h,λb b' g h=>absurd rfl h,λ_ _=>rfl,λb g h=>absurd rfl h,λg hg=>?_,hr.hp.tab,λb g h=>absurd rfl h,λb g h=>(by cases h),λb g h=>absurd rfl h⟩,λt=>?_,λt j b x h=>by cases h⟩
    . rcases hg with (hg | ⟨b,h1,h2⟩) | hg
      . exact hr0.hp.flt g (F.le g hg)
      . exact hr0.hp.lt b g h1 h2
      . exact hg
    . simp only [RelV]
      refine ⟨trivial,?_⟩
      have hs:RelV w (Not F μ S0.H) μ S0.H (S0.E t) (a.tmps.getD t undef):=by
        have:=hr0.e t
        cases hE:S0.E t <;> simp only [hE] at this ⊢ <;> first | exact this | simp [RelV]
      refine RelV_lent2 (N:=Not F μ S0.H) (λg _ hg=>?_) (λg hg hu=>?_) hs
      . rcases hg with hg | ⟨b,h,_⟩
        . exact hg
        . exact absurd rfl h
      . have:w.heap.size<=g:=hu
        omega
  refine seqL_ok hm hC As _ _ hA (λ_=>none) w a hn hpin hrb (λS1 μ1 a1 w1 h2 h3=>?_) λex e S1 μ1 a1 av w1 hex _ h2 _=>?_
  rotate_left
  . cases ex <;> first | exact absurd rfl hex | simp [KA2] at h2
  simp only [KA2] at h2
  obtain ⟨us,h4,h5⟩:=Option.map_eq_some_iff.1 h2
  simp only [Prod.mk.injEq] at h5
  obtain ⟨hDX,rfl⟩:=h5
  have hlit:=litsOf_get h4
  have hDX:∀ t∈D,rgV (sealV S1.H ks (S1.E t))=X l t:=List.map_inj_left.1 hDX
  have hchg0:Chg (λ_=>False) w w1:=⟨⟨h3.chg.size,λg hg _=>h3.chg.keep g hg λ⟨b,h,_⟩=>h rfl⟩,h3.chg.os,h3.chg.tape,h3.chg.output⟩
  have hkeep:∀ t∈keep,a1.tmps.getD t undef=a.tmps.getD t undef:=λt ht=>by
    obtain ⟨x,hx⟩:=hlit t ht
    have:=h3.rg.e t
    rw [hx] at this
    simp only [RelV] at this
    exact this.1
  have hsl:∀ t,RelV w1 (Not (bigF F μ S0.H w) μ1 (S1.seal ks).H) μ1 (S1.seal ks).H (sealV S1.H ks (S1.E t)) (a1.tmps.getD t undef):=λt=>by
    refine sealV_ok h3.rg.hp _ _ ?_
    have:=h3.rg.e t
    cases hE:S1.E t <;> simp only [hE] at this ⊢ <;> first | exact this | simp [RelV]
  have hmade:∀ (NR:NN) (μ':Nat->Option Nat) (H':Nat->Blk),(∀ g,w.heap.size<=g->¬ NR.trk g)->(∀ g,w.heap.size<=g->g<w1.heap.size->NR.reg g)->∀ t∈D,RelV w1 NR μ' H' (X l t) (a1.tmps.getD t undef):=λNR μ' H' q1 q2 t ht=>by
    rw [<- hDX t ht]
    exact rgV_ok (N:=Not (bigF F μ S0.H w) μ1 (S1.seal ks).H) (n0:=w.heap.size) (λg hg=>Nat.le_of_not_lt λh=>hg (.inl (.inr h))) (λg hg=>hg) q1 q2 (hsl t)
  have hcalm1:Calm (λ_=>False) w w1 (Not F μ S.H) (Not (regF F w w1) μ S.H):=by
    refine ⟨hchg0.toKeep,λg _ h=>h.elim,λg hg hn=>?_,λg hg hn=>?_⟩
    . rcases hn with (hn | hn) | hn
      . exact .inl hn
      . exact absurd hn.1 (by omega)
      . exact .inr hn
    . rcases hn with hn | hn
      . exact hn
      . exact absurd hn.1 (by omega)
  have hsp:Spare (λ_=>False) w μ S.H:=λb g hl hg=>⟨hr.hp.lt b g hl hg,λh=>h⟩
  have htrkR:∀ g,w.heap.size<=g->¬ (Not (regF F w w1) μ S.H).trk g:=λg hg h=>by
    rcases h with h | ⟨b,h1,h2⟩
    . have:=hr.hp.flt g (F.le g h);omega
    . have:=hr.hp.lt b g h1 h2;omega
  let f:Nat->Value:=λt=>a1.tmps.getD t undef
  have hr2:Rg (regF F w w1) μ [] ⟨regE2 D keep (X l) f S.E,S.H,sh.nx,[]⟩ a1 w1:=by
    refine ⟨Hp_calm hr.hp (λb=>calm_H c1 p b) hcalm1 hsp (λb g hl hg h=>?_) (λg hg=>?_) λg _ h=>h,λt=>?_,λt j b x h=>?_⟩
    . rcases h with h | h
      . exact hr.hp.apart b g hl hg h
      . have:=hr.hp.lt b g hl hg
        omega
    . rcases hg with hg | hg
      . exact Nat.lt_of_lt_of_le (hr.hp.flt g hg) hchg0.size
      . exact hg.2
    . show (match regE2 D keep (X l) f S.E t with
        | .gd j b x=>_
        | x=>RelV w1 _ _ _ x (a1.tmps.getD t undef))
      have hgoal:RelV w1 (Not (regF F w w1) μ S.H) μ S.H (regE2 D keep (X l) f S.E t) (a1.tmps.getD t undef):=by
        unfold regE2
        cases hd:hasN D t with
        | true =>
          simp only [cTt,RelV]
          exact ⟨rfl,hmade _ _ _ htrkR (λg h1 h2=>⟨h1,h2⟩) t (hasN_mem.1 hd)⟩
        | false =>
          simp only [cFf]
          cases hkp:hasN keep t with
          | false=>simp [RelV]
          | true =>
            simp only [cTt]
            rw [hkeep t (hasN_mem.1 hkp)]
            have hs:RelV w (Not F μ S.H) μ S.H (S.E t) (a.tmps.getD t undef):=by
              have:=hr.e t
              cases hE:S.E t <;> simp only [S,hE] at this ⊢ <;> first | exact this | simp [RelV]
            exact RelV_calm hcalm1 hsp _ _ (calm_E c1 p t) hs
      revert hgoal
      cases hx:regE2 D keep (X l) f S.E t <;> intro hgoal <;> first
        | exact hgoal
        | (exfalso
           unfold regE2 at hx
           cases hd:hasN D t <;> simp only [hd,cTt,cFf] at hx
           . cases hkp:hasN keep t <;> simp only [hkp,cTt,cFf] at hx
             . cases hx
             . have:=hr.tags t _ _ _ hx
               cases this
           . cases hx)
    . unfold regE2 at h
      cases hd:hasN D t <;> simp only [hd,cTt,cFf] at h
      . cases hkp:hasN keep t <;> simp only [hkp,cTt,cFf] at h
        . cases h
        . exact hr.tags t _ _ _ h
      . cases h
  have hB:=heB p l f
  have out:∀ {b1:Bool} {S3:St} {μ3:Nat->Option Nat} {av3:Act} {w3:World} {sh3:Shape} (q3:sh3.den) (μ4:Nat->Option Nat) (a4:Act) (w4:World),calmSh sh3=true->CP b1 (regF F w w1) pin μ ⟨regE2 D keep (X l) f S.E,S.H,sh.nx,[]⟩ w1 a1 μ3 S3 w3 av3 ->
      Shaped (regF F w w1) pin μ3 S3 w3 μ4 (unpack sh3 q3)->Rg (regF F w w1) μ4 [] (unpack sh3 q3) av3 w3->(∀ t,(unpack sh3 q3).E t≠.bad->a4.tmps.getD t undef=av3.tmps.getD t undef)->a4.tmps.size=av3.tmps.size->a4.defers=av3.defers->Chg (λg=>w.heap.size<=g/\g<w1.heap.size) w3 w4 ->
      CP false F pin μ S w a μ4 (unpack sh3 q3) w4 a4:=by
    intro b1 S3 μ3 av3 w3 sh3 q3 μ4 a4 w4 hcs hcp hsh hrg htm hsz hdf hch
    have hcalm:Calm (λg=>w.heap.size<=g/\g<w1.heap.size) w3 w4 (Not (regF F w w1) μ4 (unpack sh3 q3).H) (Not F μ4 (unpack sh3 q3).H) :=
      ⟨hch.toKeep,λg _ h=>.inl (.inr h),λg _ h=>h.elim (λh=>.inl (.inl h)) .inr,λg _ h=>.inl h⟩
    have hsp:Spare (λg=>w.heap.size<=g/\g<w1.heap.size) w3 μ4 (unpack sh3 q3).H:=λb g hl hg=>⟨hrg.hp.lt b g hl hg,λh=>hrg.hp.apart b g hl hg (.inr h)⟩
    refine ⟨?_,λg hg=>?_,λj hj=>(hsh.pinned j hj).trans (hcp.pinned j hj),hsh.le,⟨Hp_calm hrg.hp (λb=>calm_H hcs q3 b) hcalm hsp (λb g hl hg h=>hrg.hp.apart b g hl hg (.inl h)) (λg h=>Nat.lt_of_lt_of_le (hrg.hp.flt g (.inl h)) hch.size) (λg hg h=>?_),λt=>?_,hrg.tags⟩,hsz.trans (hcp.size.trans h3.size),hdf.trans (hcp.defers.trans h3.defers),λh=>by cases h⟩
    . have e0:Chg (Trk μ S.H) w w1:=⟨⟨hchg0.size,λg hg _=>hchg0.keep g hg λx=>x⟩,hchg0.os,hchg0.tape,hchg0.output⟩
      have e1:Chg (Trk μ S.H) w w3:=e0.trans hcp.chg λg _ h=>h
      exact e1.trans hch λg hg h=>absurd h.1 (by omega)
    . rcases hcp.new g (hsh.trk g hg) with h | h
      . exact .inl h
      . exact .inr (Nat.le_trans hchg0.size h)
    . have:=(tabsOf P).lt w g hr.hp.tab hg
      omega
    . have hng:∀ j b y,(unpack sh3 q3).E t≠.gd j b y:=λj b y h=>by cases hrg.tags t j b y h
      have hs:=hrg.e.slot (hng)
      have hgoal:RelV w4 (Not F μ4 (unpack sh3 q3).H) μ4 (unpack sh3 q3).H ((unpack sh3 q3).E t) (a4.tmps.getD t undef):=by
        by_cases hb:(unpack sh3 q3).E t=.bad
        . rw [hb];simp [RelV]
        . rw [htm t hb]
          exact RelV_calm hcalm hsp _ _ (calm_E hcs q3 t) hs
      revert hgoal
      cases hx:(unpack sh3 q3).E t <;> intro hgoal <;> first | exact hgoal | exact absurd hx (hng _ _ _)
  cases hrb':runB p l with
  | none=>simp [hrb'] at hq
  | some rb =>
  rw [hrb',Option.map_some] at hB
  simp only [hrb',oBs] at hq
  refine seqL_ok hm hC Bs _ _ hB μ w1 a1 (hn.trans h3.size.symm) hpin hr2 (λS3 μ3 a3 w3 hK hcp=>?_) λex e S3 μ3 a3 av3 w3 hex hX hK hcp=>?_
  . simp only [KB2] at hK
    obtain ⟨us,hls,hK⟩:=Option.bind_eq_some_iff.1 hK
    obtain ⟨q3,μ4,g1,g2,g3⟩:=pack_ok hcp.rg hK
    simp only [oSi] at g1
    cases rb with
    | inr _=>cases g1
    | inl q3' =>
    simp only [Sum.inl.injEq,Prod.mk.injEq] at g1
    obtain ⟨rfl,rfl⟩:=g1
    have hlit3:=litsOf_get hls
    have hf3:∀ t∈D,a3.tmps.getD t undef=a1.tmps.getD t undef:=λt ht=>by
      obtain ⟨x,hx⟩:=hlit3 t ht
      have:=hcp.rg.e t
      rw [hx] at this
      simp only [RelV] at this
      exact this.1
    have hD':∀ t∈D,RelV w3 (NC (Tb:=tabsOf P) (λg=>w.heap.size<=g/\g<w1.heap.size)) (λ_=>none) D0 (X l t) (a3.tmps.getD t undef):=λt ht=>by
      rw [hf3 t ht]
      have h0:=hmade (Not (regF F w w1) μ S.H) μ S.H htrkR (λg h1 h2=>⟨h1,h2⟩) t ht
      rw [<- hDX t ht] at h0 ⊢
      refine rgV_keep hcp.chg.toKeep.hot ?_ h0
      exact ⟨λg _ h=>h.elim (λh=>h.elim) λ⟨b,h,_⟩=>absurd rfl h,λg _ h=>h.elim (λh=>h.elim) λ⟨b,h,_⟩=>absurd rfl h,λg _ h=>h,λg _ h=>.inr h⟩
    refine wp_seq (wp_mono (hW l hfit a3 w3 (λg=>w.heap.size<=g/\g<w1.heap.size) (hn.trans (h3.size.symm.trans hcp.size.symm)) hcp.rg.hp.tab (λg hg h=>by have:=(tabsOf P).lt w g hr.hp.tab hg;omega) hD') λe a4 w4 ⟨e1,e2,e3,e4,e5⟩=>?_)
    subst e1
    have hc4:CP false F pin μ S w a μ4 (unpack shN q3) w4 a4:=out q3 μ4 a4 w4 c2 hcp g2 g3 (λt ht=>by
      have:∃ x∈shN.slots,x.1=t:=Classical.byContradiction λhh=>ht (unSlots_bad shN.slots q3.1 t λx hx he=>hh ⟨x,hx,he⟩)
      obtain ⟨x,hx,rfl⟩:=this
      exact e2 _ (hasN_mem.1 (List.all_eq_true.1 hk x hx))) e3 e4 e5
    have hq:runR q3=some q:=hq
    have hR:=(heR q3).trans hq
    refine wp_mono (ev_ok hm hC Rest .leaf (λz hz=>by rw [loopsIn_leaf] at hz;cases hz) _ _ _ _ hR F μ4 w4 a4 (hn.trans hc4.size.symm) hc4.le hc4.rg) λe a5 w5 ⟨ex,S5,μ5,av,k1,k2,k3⟩=>?_
    cases ex with
    | normal=>simp [KR] at k2
    | exit _=>simp [KR] at k2
    | pan=>simp [KR] at k2
    | ret =>
      simp only [KR] at k2
      obtain ⟨q5,μ6,m1,m2,m3⟩:=pack_ok k3.rg k2
      simp only [oSi] at m1
      subst m1
      exact ⟨.ret,unpack shR q5,μ6,av,k1,λβ K=>rfl,(hc4.trans (k3.weak λh=>by cases h)).trans (CP.shaped m2 m3)⟩
  . cases ex with
    | normal=>exact absurd rfl hex
    | exit _=>simp [KB2] at hK
    | pan=>simp [KB2] at hK
    | ret =>
      obtain ⟨rfl,rfl⟩:=hX
      simp only [KB2] at hK
      obtain ⟨q3,μ4,g1,g2,g3⟩:=pack_ok hcp.rg hK
      simp only [oSi] at g1
      cases rb with
      | inl _=>cases g1
      | inr q3' =>
      simp only [Sum.inr.injEq] at g1
      subst g1
      have hq:some q3=some q:=hq
      simp only [oSi] at hq
      subst hq
      exact ⟨.ret,unpack shR q3,μ4,a3,⟨rfl,rfl⟩,λβ K=>rfl,out q3 μ4 a3 w3 c3 hcp g2 g3 (λ_ _=>rfl) rfl rfl (Chg.refl w3)⟩
end
end Go.Ev
namespace Go.Ev
open Go
inductive Ent where
 | sl (t:Ty)
 | fp (t:Ty)
 | i
 | lit
abbrev Ent.den:Ent->Type
 | .sl t=>List t.den
 | .fp t=>t.den
 | .i=>Int
 | .lit=>Value
def Ent.av:(e:Ent)->e.den->AV
 | .sl t,l=>.sl (.rg t) l
 | .fp t,x=>.fp (.rg t) [x] 0 0
 | .i,n=>.i .i64 n
 | .lit,u=>.lit .bad u
def Ent.rel:(e:Ent)->e.den->e.den->Prop
 | .sl t,l,l'=>Alike (.sl t) l l'
 | .fp t,x,x'=>Alike t x x'
 | .i,n,n'=>n=n'
 | .lit,u,u'=>u=u'
def Ent.ok:Ent->Bool
 | .sl t=>flT t
 | .fp t=>flT t
 | _=>true
abbrev entsDen:List (Nat×Ent)->Type
 | []=>Unit
 | (_,e)::r=>e.den×entsDen r
def EV:(l:List (Nat×Ent))->entsDen l->Nat->AV
 | [],_=>λ_=>.bad
 | (k,e)::r,x=>λt=>cond (Nat.beq t k) (e.av x.1) (EV r x.2 t)
def relE:(l:List (Nat×Ent))->entsDen l->entsDen l->Prop
 | [],_,_=>True
 | (_,e)::r,x,y=>e.rel x.1 y.1/\relE r x.2 y.2
def okE:List (Nat×Ent)->Bool
 | []=>true
 | (k,e)::r=>e.ok&&(!hasN (r.map (·.1)) k&&okE r)
theorem relE.refl:∀ {l:List (Nat×Ent)} (x:entsDen l),relE l x x
 | [],_=>trivial
 | (_,e)::r,x=>⟨by cases e <;> first | exact Alike.refl _ | rfl,relE.refl x.2⟩
theorem relE.trans:∀ {l:List (Nat×Ent)} {x y z:entsDen l},relE l x y->relE l y z->relE l x z
 | [],_,_,_,_,_=>trivial
 | (_,e)::r,x,y,z,h,h'=>⟨by
   have h1:=h.1
   have h2:=h'.1
   cases e
   ·exact Alike.trans h1 h2
   ·exact Alike.trans h1 h2
   ·exact Eq.trans h1 h2
   ·exact Eq.trans h1 h2,relE.trans h.2 h'.2⟩
theorem EV_lone:∀ {l:List (Nat×Ent)} (x:entsDen l) (t:Nat),loneV (EV l x t)=true
 | [],_,_=>rfl
 | (k,e)::r,x,t=>by
  simp only [EV]
  cases Nat.beq t k
  ·exact EV_lone x.2 t
  ·cases e <;> rfl
theorem EV_off:∀ {l:List (Nat×Ent)} (x:entsDen l) {t:Nat},t∉l.map (·.1)->EV l x t=.bad
 | [],_,_,_=>rfl
 | (k,e)::r,x,t,h=>by
  simp only [List.map_cons,List.mem_cons,not_or] at h
  simp only [EV,show Nat.beq t k=false from Bool.eq_false_iff.2 λe=>h.1 (nEb e),cFf]
  exact EV_off x.2 h.2
section
variable {P:Program} {n:Nat} {a:Act} {w w':World} {R:Nat->Prop}
theorem RelV_simE (hs:WSim w w') {N:NN} {μ μ':Nat->Option Nat} {H H':Nat->Blk}:∀ {e:Ent} {x:e.den} {v:Value},e.ok=true->RelV w N μ H (e.av x) v->∃ x',e.rel x x'/\RelV w' N μ' H' (e.av x') v
 | .i,x,v,_,h=>⟨x,rfl,by simpa only [Ent.av,RelV] using h⟩
 | .lit,x,v,_,h=>⟨x,rfl,by simpa only [Ent.av,RelV] using h⟩
 | .sl t,x,v,hf,h=>by
  simp only [Ent.av,RelV] at h ⊢
  obtain ⟨l',h1,h2⟩:=RelD_sim hs (t:=.sl (.rg t)) hf h rfl λi _ _=>.refl _
  exact ⟨l',h2,h1⟩
 | .fp t,x,v,hf,h=>by
  simp only [Ent.av,RelV] at h ⊢
  obtain ⟨h1,g,o,h2,h3,h4,es,h5,h6,_,h7,h8⟩:=h
  obtain ⟨es',f1,f2,f3⟩:=row_sim hs h6
  obtain ⟨x',f4,f5⟩:=RelD_sim hs (t:=.rg t) hf h7 f1 f3
  refine ⟨x',f5,by simp,g,o,h2,by rw [hs.size];exact h3,h4,es',f1.trans h5,f2,by simp,f4,λhu k hk=>?_⟩
  rw [hs.frozen]
  exact h8 hu k hk
theorem Cx.simE (hs:WSim w w') (hc:Chg R w w') (hR:∀ g,(tabsOf P).out g->¬ R g):∀ {l:List (Nat×Ent)} {x:entsDen l},okE l=true->Cx P R (EV l x) a w->∃ x',relE l x x'/\Cx P R (EV l x') a w':=by
 have tab:(tabsOf P).tab w->(tabsOf P).tab w':=λht=>(tabsOf P).stays w w' (λg hg=>hc.keep g ((tabsOf P).lt w g ht hg) (hR g hg)) ht
 have key:∀ (l:List (Nat×Ent)) (x:entsDen l),okE l=true->(∀ t,RelV w (NC (Tb:=tabsOf P) R) (λ_=>none) D0 (EV l x t) (a.tmps.getD t undef))->∃ x',relE l x x'/\∀ t,RelV w' (NC (Tb:=tabsOf P) R) (λ_=>none) D0 (EV l x' t) (a.tmps.getD t undef):=by
  intro l
  induction l with
  | nil=>exact λ_ _ _=>⟨(),trivial,λt=>by simp [EV,RelV]⟩
  | cons p r ih =>
   intro x ho h
   obtain ⟨k,e⟩:=p
   simp only [okE,bAt,Bool.not_eq_true'] at ho
   have hin:k∉r.map (·.1):=λhh=>by rw [hasN_mem.2 hh] at ho;cases ho.2.1
   have hk:=h k
   simp only [EV,Nat.beq_refl,cTt] at hk
   obtain ⟨y,y1,y2⟩:=RelV_simE (μ':=λ_=>none) (H':=D0) hs ho.1 hk
   obtain ⟨z,z1,z2⟩:=ih x.2 ho.2.2 λt=>by
    by_cases ht:t=k
    ·subst ht
     rw [EV_off x.2 hin];simp [RelV]
    ·have:=h t
     simp only [EV,show Nat.beq t k=false from Bool.eq_false_iff.2 λe=>ht (nEb e),cFf] at this
     exact this
   refine ⟨(y,z),⟨y1,z1⟩,λt=>?_⟩
   by_cases ht:t=k
   ·subst ht;simp only [EV,Nat.beq_refl,cTt];exact y2
   ·simp only [EV,show Nat.beq t k=false from Bool.eq_false_iff.2 λe=>ht (nEb e),cFf];exact z2 t
 intro l x ho h
 obtain ⟨x',h1,h2⟩:=key l x ho h.e
 refine ⟨x',h1,tab h.tab,h2,λt j b y hh=>?_⟩
 have:=EV_lone x' t
 rw [hh] at this
 cases this
def WrG (P:Program) (n:Nat) (L1:List (Nat×Ent)) (x:entsDen L1) (L2:List (Nat×Ent)) (Q:entsDen L2->Prop) (c:Code):Prop :=
 ∀ (R:Nat->Prop) (a:Act) (w:World),(∀ g,(tabsOf P).out g->¬ R g)->n=a.tmps.size->Cx P R (EV L1 x) a w ->
  c.wp P (λe a' w'=>e=.normal/\a'.tmps.size=a.tmps.size/\a'.defers=a.defers/\Chg R w w'/\∃ (R':Nat->Prop) (y:entsDen L2),(∀ g,R g->R' g)/\(∀ g,R' g->R g\/w.heap.size<=g)/\Q y/\Cx P R' (EV L2 y) a' w') a w
variable {L L1 L2 L3:List (Nat×Ent)}
theorem wr_seq {x:entsDen L1} {Q1:entsDen L2->Prop} {Q2:entsDen L3->Prop} {c1 c2:Code} (h1:WrG P n L1 x L2 Q1 c1) (h2:∀ y,Q1 y->WrG P n L2 y L3 Q2 c2):WrG P n L1 x L3 Q2 (.seq c1 c2):=by
 intro R a w hR hn hcx
 refine wp_seq (wp_mono (h1 R a w hR hn hcx) λe a1 w1 ⟨e1,e2,e3,e4,R1,y,r1,r2,e5,e6⟩=>?_)
 subst e1
 refine wp_mono (h2 y e5 R1 a1 w1 (λg hg h=>(r2 g h).elim (hR g hg) λh=>by have:=(tabsOf P).lt w g hcx.tab hg;omega) (hn.trans e2.symm) e6) λe a2 w2 ⟨f1,f2,f3,f4,R2,z,s1,s2,f5,f6⟩=>?_
 refine ⟨f1,f2.trans e2,f3.trans e3,e4.trans f4 λg hg h=>(r2 g h).elim id λh=>by omega,R2,z,λg h=>s1 g (r1 g h),λg h=>(s2 g h).elim (r2 g) λh=>.inr (Nat.le_trans e4.size h),f5,f6⟩
theorem wr_mono {x:entsDen L1} {Q1 Q2:entsDen L2->Prop} {c:Code} (h:WrG P n L1 x L2 Q1 c) (hq:∀ y,Q1 y->Q2 y):WrG P n L1 x L2 Q2 c:=by
 intro R a w hR hn hcx
 refine wp_mono (h R a w hR hn hcx) λe a1 w1 ⟨e1,e2,e3,e4,R1,y,r1,r2,e5,e6⟩=>⟨e1,e2,e3,e4,R1,y,r1,r2,hq y e5,e6⟩
theorem wr_piece (hm:P.follows .mixedOrders=true) {x:entsDen L1} {y:entsDen L2} {c:Code}
  (he:ev P C0 M0 0 n c .leaf ⟨EV L1 x,D0,0,[]⟩ (λex S=>some (ex,(L2.map (·.1)).map S.E))=some (.normal,(L2.map (·.1)).map (EV L2 y))):WrG P n L1 x L2 (λz=>z=y) c:=by
 intro R a w _ hn hcx
 refine wp_mono (piece hm (by simp) he (List.all_eq_true.2 λt _=>EV_lone y t) (λt ht=>EV_off y ht) hn hcx) λe a1 w1 ⟨e1,e2,e3,e4,e5⟩=>?_
 exact ⟨e1,e2,e3,⟨⟨e4.size,λg hg _=>e4.keep g hg λx=>x⟩,e4.os,e4.tape,e4.output⟩,R,y,λg h=>h,λg h=>.inl h,rfl,e5⟩
def E2 (p v:Nat) (x y:AV) (E:Nat->AV):Nat->AV:=λt=>cond (Nat.beq t p) x (cond (Nat.beq t v) y (E t))
theorem wr_store {x:entsDen L} {id m:Nat} {ops:Array Oper} {o:Oper} {t:TypeId} {p v:Nat} {y:Ty} {l:List y.den} {ix f:Nat} {k:IntKind} {cold xv:AV}
  (he:evTurns P C0 n ops (turns 0 (ops.toList.take m)) [] [] ⟨EV L x,D0,0,[]⟩ (λS=>some ((p::v::L.map (·.1)).map S.E)) (λ_ _=>none)=some ((p::v::L.map (·.1)).map (E2 p v (.fp (.rg y) l ix f) xv (EV L x))))
  (hsz:ops.size=m+1) (ho:ops[m]?=some o) (hop:o.op=.store t (.tmp p) (.tmp v)) (hgd:o.guard=none) (hdst:o.dst=none) (hi:(P.info? t).isSome=true) (hc1:P.cellsOf t=1)
  (hv:numK xv=some k) (hlv:loneV xv=true) (hv8:k=.u8->∃ z,xv=.u z) (hcold:(encc y (l.getD ix y.dflt))[f]?=some cold) (hck:numK cold=some k)
  (hL:okE L=true) (hpv:Nat.beq v p=false) (hpL:hasN (L.map (·.1)) p=false) (hvL:hasN (L.map (·.1)) v=false):WrG P n L x L (relE L x) (.block id (.region id ops false))/\WrG P n L x L (relE L x) (.region id ops false):=by
 have hreg:∀ id',WrG P n L x L (relE L x) (.region id' ops false):=λid'=>by
  intro R a w hR hn hcx
  have hoff:∀ s,hasN (L.map (·.1)) s=false->EV L x s=.bad:=λs hs=>EV_off x λh=>by rw [hasN_mem.2 h] at hs;cases hs
  refine wp_mono (piece_store (E':=E2 p v (.fp (.rg y) l ix f) xv (EV L x)) (slots:=p::v::L.map (·.1)) he (List.all_eq_true.2 λs _=>?_) (λs hs=>?_) hsz ho hop hgd hdst hi hc1 (by simp [E2]) (by simp only [E2,hpv,Nat.beq_refl,cFf,cTt];exact hv) (by simp only [E2,hpv,Nat.beq_refl,cFf,cTt];exact hv8) hcold hck hn hcx) λe a1 w1 ⟨e1,e2,e3,w2,e4,e5,e6,e7⟩=>?_
  ·unfold E2
   cases Nat.beq s p
   ·cases Nat.beq s v
    ·exact EV_lone x s
    ·exact hlv
   ·rfl
  ·simp only [List.mem_cons,not_or] at hs
   obtain ⟨h1,h2,h3⟩:=hs
   unfold E2
   rw [show Nat.beq s p=false from Bool.eq_false_iff.2 λe=>h1 (nEb e),show Nat.beq s v=false from Bool.eq_false_iff.2 λe=>h2 (nEb e)]
   exact EV_off x h3
  ·have h8:Cx P R (EV L x) a1 w2:=e5.less λs=>by
    by_cases h1:s=p
    ·subst h1;exact .inr (hoff _ hpL)
    ·by_cases h2:s=v
     ·subst h2;exact .inr (hoff _ hvL)
     ·left
      unfold E2
      rw [show Nat.beq s p=false from Bool.eq_false_iff.2 λe=>h1 (nEb e),show Nat.beq s v=false from Bool.eq_false_iff.2 λe=>h2 (nEb e)]
      rfl
   obtain ⟨x',k1,k2⟩:=h8.simE e6 e7 hR hL
   have c0:Chg R w w2:=⟨⟨e4.size,λg hg _=>e4.keep g hg λx=>x⟩,e4.os,e4.tape,e4.output⟩
   exact ⟨e1,e2,e3,c0.trans e7 λ_ _ h=>h,R,x',λg h=>h,λg h=>.inl h,k1,k2⟩
 refine ⟨?_,hreg id⟩
 intro R a w hR hn hcx
 refine wp_block (wp_mono (hreg id R a w hR hn hcx) λe a1 w1 ⟨e1,e2⟩=>?_)
 subst e1
 exact ⟨rfl,e2⟩
theorem wr_block {x:entsDen L1} {Q:entsDen L2->Prop} {c:Code} {id:Nat} (h:WrG P n L1 x L2 Q c):WrG P n L1 x L2 Q (.block id c):=by
 intro R a w hR hn hcx
 refine wp_block (wp_mono (h R a w hR hn hcx) λe a1 w1 ⟨e1,e2⟩=>?_)
 subst e1
 exact ⟨rfl,e2⟩
theorem lone_sub {N N':NN} {μ:Nat->Option Nat} {H:Nat->Blk} (hN:Sub w N' N) {x:AV} {v:Value} (hx:loneV x=true) (h:RelV w N μ H x v):RelV w N' (λ_=>none) D0 x v:=by
 cases x <;> simp only [loneV,Bool.false_eq_true] at hx <;> simp only [RelV] at h ⊢ <;> first
  | exact h
  | exact h.keep (Keep.refl w) hN
  | skip
 ·obtain ⟨h1,g,o,h2,h3,h4,es,h5,h6,h7,h8⟩:=h
  exact ⟨h1,g,o,λhn=>h2 (hN.ln h3 hn),h3,h4,es,h5,h6,h7,h8.1.keep (Keep.refl w) hN,h8.2.keep h3 rfl hN⟩
 ·rename_i y u
  cases y <;> simp only [Bool.false_eq_true] at hx
  exact ⟨h.1,by simp [RelV]⟩
def boxK {α:Type} (T:Ty) (s:Nat) (S:St) (K:T.den->Option α):Option α :=
 match S.E s with
 | .ptr b 0=>match S.H b with
  | .vars cs=>dec T cs λz rest=>match rest with
   | []=>K z
   | _=>none
  | _=>none
 | _=>none
theorem newF {x:entsDen L1} (hcx:Cx P R (EV L1 x) a w):Rg ({ out:=λ_=>False,reg:=R,unf:=λg=>R g\/w.heap.size<=g }:Frm (tabsOf P)) (λ_=>none) [] ⟨EV L1 x,D0,0,[]⟩ a w:=by
 refine ⟨⟨λb=>by simp [RelB],λb g h=>absurd rfl h,λb b' g h=>absurd rfl h,λ_ _=>rfl,λb g h=>absurd rfl h,λg hg=>hg.elim,hcx.tab,λb g h=>absurd rfl h,λb g h=>(by cases h),λb g h=>absurd rfl h⟩,λt=>?_,λt j b x hh=>absurd hh (hcx.ng t j b x)⟩
 have:=lone_sub (N:=NC (Tb:=tabsOf P) R) (N':=Not ({ out:=λ_=>False,reg:=R,unf:=λg=>R g\/w.heap.size<=g }:Frm (tabsOf P)) (λ_=>none) D0) (μ:=λ_=>none) (H:=D0) ⟨λg _ h=>h.elim (λh=>h.elim) λ⟨b,h,_⟩=>absurd rfl h,λg _ h=>h.elim (λh=>h.elim) λ⟨b,h,_⟩=>absurd rfl h,λg _ h=>h,λg hg h=>h.elim id λh=>by omega⟩ (EV_lone x t) (hcx.e t)
 have hn:=hcx.ng t
 show (match EV L1 x t with
  | .gd j b x=>_
  | x=>RelV w _ _ _ x (a.tmps.getD t undef))
 cases hx:EV L1 x t <;> rw [hx] at this hn <;> first | exact this | exact absurd rfl (hn _ _ _)
theorem wr_box (hm:P.follows .mixedOrders=true) {x:entsDen L1} {y:entsDen L} {c:Code} {s:Nat} {sl:List Nat} {T:Ty} {z:T.den}
  (he:ev P C0 M0 0 n c .leaf ⟨EV L1 x,D0,0,[]⟩ (λex S=>boxK T s S λz=>some (ex,z,sl.map S.E))=some (.normal,z,sl.map (EV L y))) (hs:EV L y s=.fp (.rg T) [z] 0 0) (hL:(L.map (·.1)).all (λt=>Nat.beq t s||hasN sl t)=true):WrG P n L1 x L (λq=>q=y) c:=by
 intro R a w hR hn hcx
 let F:Frm (tabsOf P):={ out:=λ_=>False,reg:=R,unf:=λg=>R g\/w.heap.size<=g }
 have hrg:=newF hcx
 refine wp_mono (ev_ok hm (callOK0 M0) c .leaf (λz hz=>by rw [loopsIn_leaf] at hz;cases hz) _ _ _ _ he F (λ_=>none) w a hn (Nat.zero_le _) hrg) λe a' w' ⟨ex,S',μ',av,h1,h2,h3⟩=>?_
 unfold boxK at h2
 split at h2 <;> try (cases h2;done)
 rename_i b hE
 split at h2 <;> try (cases h2;done)
 rename_i cs hB
 have hp:=h3.rg.e s
 rw [hE] at hp
 have hp:RelV w' _ μ' S'.H (.ptr b 0) _:=hp
 simp only [RelV] at hp
 obtain ⟨hlive,g0,hmu,hval⟩:=hp
 have hb:=h3.rg.hp.blk b
 simp only [hB,RelB] at hb
 rcases hb with hb | ⟨g,vs,b1,b2,b3,b4⟩
 ·rw [hb] at hmu;cases hmu
 have hgg:g0=g:=by rw [b1] at hmu;exact (Option.some.inj hmu).symm
 subst hgg
 obtain ⟨z',rest,es,us,d1,d2,d3,d4⟩:=dec_ok b2 h2
 split at d1 <;> try (cases d1;done)
 simp only [oSi,Prod.mk.injEq] at d1
 obtain ⟨rfl,rfl,hsl⟩:=d1
 obtain ⟨rfl,rfl⟩:e=.normal/\a'=av:=h1
 have hnew:w.heap.size<=g0:=(h3.new g0 ⟨b,hlive,hmu⟩).elim (λ⟨b,h,_⟩=>absurd rfl h) id
 have hlt:g0<w'.heap.size:=h3.rg.hp.lt b g0 hlive hmu
 have hsub:Sub w' (NC (Tb:=tabsOf P) λg=>R g\/g=g0) (Not F μ' S'.H) :=
  ⟨λg _ h=>h.elim (λh=>h.elim) λ⟨b,h,_⟩=>absurd rfl h,λg _ h=>h.elim (λh=>h.elim) λ⟨b,h,_⟩=>absurd rfl h,λg _ h=>.inl h,λg _ h=>h.elim .inl λ(h:g=g0)=>.inr (by rw [h];exact hnew)⟩
 have hes:es=vs:=by
  have:us=[]:=by simpa [RelVs] using d4
  rw [this] at d2
  simpa using d2.symm
 subst hes
 refine ⟨rfl,h3.size,h3.defers,⟨⟨h3.chg.size,λg hg _=>h3.chg.keep g hg λ⟨b,h,_⟩=>h rfl⟩,h3.chg.os,h3.chg.tape,h3.chg.output⟩,λg=>R g\/g=g0,y,λg h=>.inl h,λg h=>Or.imp id (λ(h:g=g0)=>by rw [h];exact hnew) h,rfl,h3.rg.hp.tab,λt=>?_,λt j b yy hh=>?_⟩
 ·cases ht:Nat.beq t s with
  | true =>
   have:=nEb ht
   subst this
   rw [hs]
   simp only [RelV]
   refine ⟨by simp,g0,0,λhn=>hn.elim (λh=>h.elim (λh=>h.elim) λ⟨b,h,_⟩=>absurd rfl h) λh=>h (.inr rfl),hlt,by simpa using hval,es,d3.length,by simpa using b3,by simp,d3.keep (Keep.refl w') hsub,λ_ k hk=>?_⟩
   have hk':k<es.length:=by rw [d3.length];exact hk
   have:=(b4 k hk').2
   simpa using this
  | false =>
   by_cases hin:t∈L.map (·.1)
   ·have hmem:t∈sl:=by
     have:=List.all_eq_true.1 hL t hin
     rw [ht,Bool.false_or] at this
     exact hasN_mem.1 this
    have hEt:S'.E t=EV L y t:=List.map_inj_left.1 hsl t hmem
    have hr:=h3.rg.e t
    rw [hEt] at hr
    refine lone_sub (N:=Not F μ' S'.H) (μ:=μ') (H:=S'.H) hsub (EV_lone y t) ?_
    have hl:=EV_lone y t
    cases hxx:EV L y t <;> rw [hxx] at hr hl <;> first | exact hr | (simp [loneV] at hl)
   ·rw [EV_off y hin];simp [RelV]
 ·have:=EV_lone y t
  rw [hh] at this
  cases this
def ownK {α:Type} (T:Ty) (s:Nat) (S:St) (K:List T.den->Option α):Option α :=
 match S.E s with
 | .wh b=>match S.H b with
  | .data t l=>if h:t=T then K (h ▸ l) else none
  | _=>none
 | _=>none
theorem wr_own (hm:P.follows .mixedOrders=true) {x:entsDen L1} {y:entsDen L} {c:Code} {s:Nat} {sl:List Nat} {T:Ty} {z:List T.den}
  (he:ev P C0 M0 0 n c .leaf ⟨EV L1 x,D0,0,[]⟩ (λex S=>ownK T s S λz=>some (ex,z,sl.map S.E))=some (.normal,z,sl.map (EV L y))) (hs:EV L y s=.sl (.rg T) z) (hL:(L.map (·.1)).all (λt=>Nat.beq t s||hasN sl t)=true):WrG P n L1 x L (λq=>q=y) c:=by
 intro R a w hR hn hcx
 let F:Frm (tabsOf P):={ out:=λ_=>False,reg:=R,unf:=λg=>R g\/w.heap.size<=g }
 have hrg:=newF hcx
 refine wp_mono (ev_ok hm (callOK0 M0) c .leaf (λz hz=>by rw [loopsIn_leaf] at hz;cases hz) _ _ _ _ he F (λ_=>none) w a hn (Nat.zero_le _) hrg) λe a' w' ⟨ex,S',μ',av,h1,h2,h3⟩=>?_
 unfold ownK at h2
 split at h2 <;> try (cases h2;done)
 rename_i b hE
 split at h2 <;> try (cases h2;done)
 rename_i t0 l0 hB
 split at h2 <;> try (cases h2;done)
 rename_i ht0
 subst ht0
 simp only [oSi,Prod.mk.injEq] at h2
 obtain ⟨rfl,rfl,hsl⟩:=h2
 obtain ⟨rfl,rfl⟩:e=.normal/\a'=av:=h1
 have hp:=h3.rg.e s
 rw [hE] at hp
 have hp:RelV w' _ μ' S'.H (.wh b) _:=hp
 simp only [RelV] at hp
 obtain ⟨t1,l1,hB1,hp⟩:=hp
 rw [hB] at hB1
 cases hB1
 have hlive:S'.H b≠.dead:=by rw [hB];simp
 have hnew:∀ g0,μ' b=some g0->w.heap.size<=g0:=λg0 hmu=>(h3.new g0 ⟨b,hlive,hmu⟩).elim (λ⟨b,h,_⟩=>absurd rfl h) id
 let R':Nat->Prop:=λg=>R g\/μ' b=some g
 have hsub:Sub w' (NC (Tb:=tabsOf P) R') (Not F μ' S'.H) :=
  ⟨λg _ h=>h.elim (λh=>h.elim) λ⟨b,h,_⟩=>absurd rfl h,λg _ h=>h.elim (λh=>h.elim) λ⟨b,h,_⟩=>absurd rfl h,λg _ h=>.inl h,λg _ h=>h.elim .inl λh=>.inr (hnew g h)⟩
 refine ⟨rfl,h3.size,h3.defers,⟨⟨h3.chg.size,λg hg _=>h3.chg.keep g hg λ⟨b,h,_⟩=>h rfl⟩,h3.chg.os,h3.chg.tape,h3.chg.output⟩,R',y,λg h=>.inl h,λg h=>Or.imp id (hnew g) h,rfl,h3.rg.hp.tab,λt=>?_,λt j b yy hh=>?_⟩
 ·cases ht:Nat.beq t s with
  | true =>
   have:=nEb ht
   subst this
   rw [hs]
   simp only [RelV,RelD]
   rcases hp with ⟨g,c,hm,hv,hc,hr⟩ | ⟨_,hl,hv⟩
   ·refine ⟨some ⟨g,0,none⟩,c,by rw [hv],hc,λhp0=>?_⟩
    have hrow:=h3.rg.hp.blk b
    simp only [hB,RelB] at hrow
    rcases hrow with ⟨hn,_⟩ | ⟨g',hm',_,hrows⟩
    ·rw [hm] at hn;cases hn
    ·rw [hm] at hm'
     cases hm'
     refine ⟨g,0,rfl,λhn=>hn.elim (λh=>h.elim (λh=>h.elim) λ⟨b,h,_⟩=>absurd rfl h) λh=>h (.inr hm),h3.rg.hp.lt b g hlive hm,λ_ k hk=>by rw [Nat.zero_add];exact (hr k (Nat.lt_of_lt_of_le hk (nMr _ hc))).2,λi hi=>?_⟩
     obtain ⟨es,e1,e2,e3⟩:=hrows i hi
     exact ⟨es,e1,by rw [Nat.zero_add];exact e2,e3.keep (Keep.refl w') hsub⟩
   ·subst hl
    exact ⟨none,0,by rw [hv];rfl,Nat.le_refl _,λh=>absurd h (by simp)⟩
  | false =>
   by_cases hin:t∈L.map (·.1)
   ·have hmem:t∈sl:=by
     have:=List.all_eq_true.1 hL t hin
     rw [ht,Bool.false_or] at this
     exact hasN_mem.1 this
    have hEt:S'.E t=EV L y t:=List.map_inj_left.1 hsl t hmem
    have hr:=h3.rg.e t
    rw [hEt] at hr
    refine lone_sub (N:=Not F μ' S'.H) (μ:=μ') (H:=S'.H) hsub (EV_lone y t) ?_
    have hl:=EV_lone y t
    cases hxx:EV L y t <;> rw [hxx] at hr hl <;> first | exact hr | (simp [loneV] at hl)
   ·rw [EV_off y hin];simp [RelV]
 ·have:=EV_lone y t
  rw [hh] at this
  cases this
theorem wr_drop {x:entsDen L1} {p:Nat×Ent} {Q:entsDen (p::L)->Prop} {c:Code} (hs:hasN (L.map (·.1)) p.1=false) (h:WrG P n L1 x (p::L) Q c):WrG P n L1 x L (λy=>∃ z,Q (z,y)) c:=by
 intro R a w hR hn hcx
 refine wp_mono (h R a w hR hn hcx) λe a1 w1 ⟨e1,e2,e3,e4,R1,y,r1,r2,e5,e6⟩=>?_
 obtain ⟨k,q⟩:=p
 obtain ⟨z,y⟩:=y
 refine ⟨e1,e2,e3,e4,R1,y,r1,r2,⟨z,e5⟩,e6.less λt=>?_⟩
 by_cases ht:t=k
 ·subst ht;exact .inr (EV_off y λh=>by rw [hasN_mem.2 h] at hs;cases hs)
 ·left
  simp only [EV,show Nat.beq t k=false from Bool.eq_false_iff.2 λe=>ht (nEb e),cFf]
theorem pieceL (hm:P.follows .mixedOrders=true) {pres:List Code} {E E':Nat->AV} {slots:List Nat} {ex:Ex}
  (he:ev P C0 M0 0 n (seqL pres .skip) .leaf ⟨E,D0,0,[]⟩ (λex S=>some (ex,slots.map S.E))=some (ex,slots.map E')) (hl:(slots.all λt=>loneV (E' t))=true) (hb:∀ t,t∉slots->E' t=.bad)
  (hn:n=a.tmps.size) (h:Cx P R E a w) {X:Code} {Q:Exit->Act->World->Prop} (hx:ex≠.pan)
  (hN:∀ a' w',ex=.normal->a'.tmps.size=a.tmps.size->a'.defers=a.defers->Chg (λ_=>False) w w'->Cx P R E' a' w'->X.wp P Q a' w')
  (hX:∀ a' w',ex≠.normal->a'.tmps.size=a.tmps.size->a'.defers=a.defers->Chg (λ_=>False) w w'->Cx P R E' a' w'->Q (exOf ex) a' w'):(seqL pres X).wp P Q a w:=by
 have key:∀ {S':St} {μ':Nat->Option Nat} {w':World} {a':Act},slots.map S'.E=slots.map E'->CP true (FC R:Frm (tabsOf P)) 0 (λ_=>none) ⟨E,D0,0,[]⟩ w a μ' S' w' a'->Chg (λ_=>False) w w'/\Cx P R E' a' w':=λ{S' μ' w' a'} h2 h3=>by
  refine ⟨⟨⟨h3.chg.size,λg hg _=>h3.chg.keep g hg λ⟨b,h,_⟩=>h rfl⟩,h3.chg.os,h3.chg.tape,h3.chg.output⟩,h3.rg.hp.tab,λt=>?_,λt j b x hh=>?_⟩
  ·by_cases ht:t∈slots
   ·have hE:S'.E t=E' t:=List.map_inj_left.1 h2 t ht
    have hlt:=List.all_eq_true.1 hl t ht
    have:=h3.rg.e t
    rw [hE] at this
    refine lone_ok (μ:=μ') (H:=S'.H) hlt ?_
    cases hxx:E' t <;> rw [hxx] at this hlt <;> first | exact this | (simp [loneV] at hlt)
   ·rw [hb t ht];simp [RelV]
  ·by_cases ht:t∈slots
   ·have hlt:=List.all_eq_true.1 hl t ht
    rw [hh] at hlt
    simp [loneV] at hlt
   ·rw [hb t ht] at hh;cases hh
 refine seqL_ok hm (callOK0 M0) pres _ _ he (λ_=>none) w a hn (Nat.zero_le _) h.rg (λS' μ' a' w' hK hcp=>?_) λex' e S' μ' a' av w' hex hXR hK hcp=>?_
 ·simp only [oSi,Prod.mk.injEq] at hK
  obtain ⟨h1,h2⟩:=hK
  obtain ⟨k1,k2⟩:=key h2 hcp
  exact hN a' w' h1.symm hcp.size hcp.defers k1 k2
 ·simp only [oSi,Prod.mk.injEq] at hK
  obtain ⟨h1,h2⟩:=hK
  subst h1
  obtain ⟨k1,k2⟩:=key h2 hcp
  have hav:e=exOf ex'/\a'=av:=by
   cases ex' <;> first | exact hXR | exact absurd rfl hx
  obtain ⟨rfl,rfl⟩:=hav
  exact hX a' w' hex hcp.size hcp.defers k1 k2
theorem wr_loop (hm:P.follows .mixedOrders=true) {s b cnt:Nat} {pres:List Code} {body post:Code} {x0:entsDen L} (hcnt:cnt<=4611686018427387904) (hs:hasN (L.map (·.1)) s=false)
  (hpre:∀ (j:Int) (y:entsDen L),relE L x0 y->ev P C0 M0 0 n (seqL pres .skip) .leaf ⟨EV ((s,.i)::L) (j,y),D0,0,[]⟩ (λex S=>some (ex,(s::L.map (·.1)).map S.E))=cond (decide (j<(cnt:Int))) (some (.normal,(s::L.map (·.1)).map (EV ((s,.i)::L) (j,y)))) (some (.exit b,(s::L.map (·.1)).map (EV ((s,.i)::L) (j,y)))))
  (hpost:∀ (j:Int) (y:entsDen L),ev P C0 M0 0 n post .leaf ⟨EV ((s,.i)::L) (j,y),D0,0,[]⟩ (λex S=>some (ex,(s::L.map (·.1)).map S.E))=some (.normal,(s::L.map (·.1)).map (EV ((s,.i)::L) (w64 (j+1),y))))
  (hbody:∀ j:Nat,j<cnt->∀ y,relE L x0 y->WrG P n ((s,.i)::L) ((j:Int),y) ((s,.i)::L) (λz=>z.1=(j:Int)/\relE L x0 z.2) body) :
  WrG P n ((s,.i)::L) ((0:Int),x0) L (relE L x0) (.block b (.loop (seqL pres (.seq body post)))):=by
 intro R a w hR hn hcx
 have hoff:∀ (j:Int) (y:entsDen L) t,t∉s::L.map (·.1)->EV ((s,.i)::L) (j,y) t=.bad:=λj y t ht=>EV_off (l:=(s,.i)::L) (j,y) ht
 have hsL:s∉L.map (·.1):=λh=>by rw [hasN_mem.2 h] at hs;cases hs
 refine wp_block (wp_mono (Q':=Exit.inBlock b _) (wp_loop_n (Q:=λe a' w'=>e=.exit b/\a'.tmps.size=a.tmps.size/\a'.defers=a.defers/\Chg R w w'/\∃ (R':Nat->Prop) (y:entsDen L),(∀ g,R g->R' g)/\(∀ g,R' g->R g\/w.heap.size<=g)/\relE L x0 y/\Cx P R' (EV L y) a' w')
  (λm a' w'=>∃ (j:Nat) (y:entsDen L) (R':Nat->Prop),j<=cnt/\m=cnt-j+1/\(∀ g,R g->R' g)/\(∀ g,R' g->R g\/w.heap.size<=g)/\relE L x0 y/\Cx P R' (EV ((s,.i)::L) ((j:Int),y)) a' w'/\a'.tmps.size=a.tmps.size/\a'.defers=a.defers/\Chg R w w')
  (λa w ⟨j,_,_,_,h,_⟩=>by omega) (λm a' w' ⟨j,y,R',k1,k2,r1,r2,k3,k4,k5,k6,k7⟩=>?_) (cnt+1) ⟨0,x0,R,Nat.zero_le _,by omega,λg h=>h,λg h=>.inl h,relE.refl x0,hcx,rfl,rfl,Chg.refl w⟩) λe a' w' ⟨g1,g2⟩=>?_)
 ·have hR':∀ g,(tabsOf P).out g->¬ R' g:=λg hg h=>(r2 g h).elim (hR g hg) λh=>by have:=(tabsOf P).lt w g hcx.tab hg;omega
  have hp:=hpre j y k3
  by_cases hj:j<cnt
  ·rw [show decide ((j:Int)<(cnt:Int))=true from dTt (by omega),cTt] at hp
   refine pieceL hm hp (List.all_eq_true.2 λt _=>EV_lone (l:=(s,.i)::L) _ t) (hoff j y) (hn.trans k5.symm) k4 (by simp) (λa2 w2 _ f2 f3 f4 f5=>?_) λ_ _ h=>absurd rfl h
   refine wp_seq (wp_mono (hbody j hj y k3 R' a2 w2 hR' (hn.trans (k5.symm.trans f2.symm)) f5) λe a3 w3 ⟨q1,q2,q3,q4,R3,z,s1,s2,q5,q6⟩=>?_)
   subst q1
   obtain ⟨jz,yz⟩:=z
   obtain ⟨q5,q7⟩:jz=(j:Int)/\relE L x0 yz:=q5
   subst q5
   have hpo:=hpost j yz
   have hw:w64 ((j:Int)+1)=((j+1:Nat):Int):=by
    unfold w64 IntKind.wrap
    simp [IntKind.signed,IntKind.bits]
    omega
   rw [hw] at hpo
   refine wp_mono (piece hm (by simp) hpo (List.all_eq_true.2 λt _=>EV_lone (l:=(s,.i)::L) _ t) (hoff _ yz) (hn.trans (k5.symm.trans (f2.symm.trans q2.symm))) q6) λe a4 w4 ⟨t1,t2,t3,t4,t5⟩=>?_
   subst t1
   have c1:Chg R w w2:=k7.trans (N':=λ_=>False) f4 λ_ _ h=>h.elim
   have c2:Chg R w w3:=c1.trans q4 λg hg h=>(r2 g h).elim id λh=>by omega
   refine ⟨j+1,yz,R3,hj,by omega,λg h=>s1 g (r1 g h),λg h=>(s2 g h).elim (r2 g) λh=>.inr (Nat.le_trans c1.size h),q7,t5,t2.trans (q2.trans (f2.trans k5)),t3.trans (q3.trans (f3.trans k6)),c2.trans (N':=λ_=>False) t4 λ_ _ h=>h.elim⟩
  ·rw [show decide ((j:Int)<(cnt:Int))=false from dFf (by omega),cFf] at hp
   refine pieceL hm hp (List.all_eq_true.2 λt _=>EV_lone (l:=(s,.i)::L) _ t) (hoff j y) (hn.trans k5.symm) k4 (by simp) (λ_ _ h=>by cases h) λa2 w2 _ f2 f3 f4 f5=>?_
   refine ⟨rfl,f2.trans k5,f3.trans k6,k7.trans (N':=λ_=>False) f4 λ_ _ h=>h.elim,R',y,r1,r2,k3,f5.less λt=>?_⟩
   by_cases ht:t=s
   ·subst ht;exact .inr (EV_off y hsL)
   ·left
    simp only [EV,show Nat.beq t s=false from Bool.eq_false_iff.2 λe=>ht (nEb e),cFf]
 ·subst g1
  simp only [Exit.inBlock,if_true]
  exact ⟨trivial,g2⟩
theorem EV_lit:∀ {L:List (Nat×Ent)} {x y:entsDen L} {t:Nat} {u:Value},relE L x y->EV L x t=.lit .bad u->EV L y t=.lit .bad u
 | [],_,_,_,_,_,h=>by cases h
 | (k,e)::r,x,y,t,u,hr,h=>by
  simp only [EV] at h ⊢
  cases hb:Nat.beq t k with
  | true =>
   simp only [hb,cTt] at h ⊢
   have h1:=hr.1
   cases e <;> simp only [Ent.av,reduceCtorEq] at h
   have h1:x.1=y.1:=h1
   simp only [Ent.av]
   rw [<- h1];exact h
  | false=>simp only [hb,cFf] at h ⊢; exact EV_lit hr.2 h
theorem WrFrom.of {D keep:List Nat} {X:Nat->AV} {c:Code} {mk:(Nat->Value)->entsDen L}
  (hx:∀ f,(L.map (·.1)).map (EV L (mk f))=(L.map (·.1)).map λt=>cond (hasN D t) (X t) (cond (hasN keep t) (.lit .bad (f t)) .bad))
  (_hk:∀ f,keep.map (EV L (mk f))=keep.map λt=>.lit .bad (f t))
  {L2:List (Nat×Ent)} {Q:(Nat->Value)->entsDen L2->Prop} (hk2:∀ f y,Q f y->∀ t∈keep,EV L2 y t=.lit .bad (f t))
  (h:∀ f,WrG P n L (mk f) L2 (Q f) c):WrFrom P n D keep X c:=by
 intro a w R hn ht hR hD
 let f:Nat->Value:=λt=>a.tmps.getD t undef
 have hcx:Cx P R (EV L (mk f)) a w:=by
  refine ⟨ht,λt=>?_,λt j b x hh=>?_⟩
  ·by_cases hin:t∈L.map (·.1)
   ·rw [List.map_inj_left.1 (hx f) t hin]
    cases hd:hasN D t with
    | true=>exact hD t (hasN_mem.1 hd)
    | false =>
     simp only [cFf]
     cases hasN keep t with
     | true=>simp only [cTt,RelV,f];exact ⟨trivial,trivial⟩
     | false=>simp [RelV]
   ·rw [EV_off _ hin];simp [RelV]
  ·have:=EV_lone (mk f) t
   rw [hh] at this
   cases this
 refine wp_mono (h f R a w hR hn hcx) λe a' w' ⟨e1,e2,e3,e4,R',y,_,_,e5,e6⟩=>⟨e1,λt htk=>?_,e2,e3,e4⟩
 have:=e6.e t
 rw [hk2 f y e5 t htk] at this
 simp only [RelV] at this
 exact this.1
end
end Go.Ev
namespace Go.Bx
open Go Go.Ev
set_option maxRecDepth 100000
abbrev LtT:Ty:=.pair (.int .i64) (.pair .u8 (.pair (.sl .u8) .unit))
abbrev BxT:Ty:=.pair .str (.pair (.int .i64) (.pair (.int .i64) (.pair (.sl LtT) .unit)))
abbrev LtR:Ty:=.pair (.int .i64) (.pair .u8 (.pair (.sl (.rg .u8)) .unit))
abbrev BxR:Ty:=.pair .str (.pair (.int .i64) (.pair (.int .i64) (.pair (.sl (.rg LtR)) .unit)))
abbrev wrA:Type:=(List UInt8×(Int×(Int×(List (Int×(UInt8×(List UInt8×Unit)))×Unit))))×(List UInt8×(Int×(Int×(List (Int×(UInt8×(List UInt8×Unit)))×Unit))))×(List UInt8×(Int×(Int×(List (Int×(UInt8×(List UInt8×Unit)))×Unit))))×Unit
def wrX (l:wrA):Nat->AV:=λt=>cond (Nat.beq t 11) (.fp (.rg BxR) [l.1] 0 0) (cond (Nat.beq t 14) (.fp (.rg BxR) [l.2.1] 0 0) (cond (Nat.beq t 16) (.fp (.rg BxR) [l.2.2.1] 0 0) .bad))
def wrFit (l:wrA):Bool:=fitB BxR l.1&&(fitB BxR l.2.1&&fitB BxR l.2.2.1)
noncomputable abbrev wr9:List Bool->Code:=subc (bodyOf Go.Proofs.Try.f9)
theorem mixedB:Go.Proofs.Try.prog.follows .mixedOrders=true:=by kernel_rfl
def opsOf:Code->Array Oper
 | .region _ ops _=>ops
 | _=>#[]
abbrev LK:List (Nat×Ent):=[(1,.lit),(3,.lit),(5,.lit),(7,.lit),(10,.lit)]
abbrev L0:List (Nat×Ent):=(11,.fp BxR)::(14,.fp BxR)::(16,.fp BxR)::LK
abbrev LA:List (Nat×Ent):=(77,.sl BxR)::(78,.i)::LK
abbrev LB:List (Nat×Ent):=(79,.i)::LA
abbrev LC:List (Nat×Ent):=(19,.fp BxR)::LB
abbrev LD:List (Nat×Ent):=(20,.i)::LC
abbrev LE:List (Nat×Ent):=(21,.i)::LD
def ltD:LtR.den:=(0,0,[],())
def bxD:BxR.den:=([],0,0,[],())
abbrev lets (z:BxR.den):List LtR.den:=z.2.2.2.1
abbrev byts (z:LtR.den):List UInt8:=z.2.2.1
abbrev q0:List Bool:=[true,true,true,true,true,true,true,true,false]
abbrev lb:List Bool:=q0++[true,false,false]
abbrev b3:List Bool:=lb++[true,true,false,false]
abbrev l4:List Bool:=b3++[true,true,false,false]
abbrev b5:List Bool:=l4++[true,false,false]
abbrev l6:List Bool:=b5++[true,true,false,false]
theorem code9c:wr9 q0=.seq (wr9 (q0++[false])) (.block 2 (.loop (seqL [(wr9 (lb++[false])),(wr9 (lb++[true,false]))] (.seq (.block 3 (.seq (wr9 (b3++[false])) (.seq (wr9 (b3++[true,false])) (.block 4 (.loop (seqL [(wr9 (l4++[false]))] (.seq (.block 5 (.seq (.region 19 (opsOf (wr9 (b5++[false]))) false) (.seq (wr9 (b5++[true,false])) (.block 6 (.loop (seqL [(wr9 (l6++[false]))] (.seq (.block 7 (.region 23 (opsOf (wr9 (l6++[true,false,false]))) false)) (wr9 (l6++[true,true]))))))))) (wr9 (l4++[true,true]))))))))) (wr9 (lb++[true,true,true])))))):=by kernel_rfl
theorem e13 (x:entsDen L0):ev Go.Proofs.Try.prog C0 M0 0 134 (wr9 (q0++[false])) .leaf ⟨EV L0 x,D0,0,[]⟩ (λex S=>ownK BxR 77 S λz=>some (ex,z,[79,78,1,3,5,7,10].map S.E))=some (.normal,[x.1,x.2.1,x.2.2.1],[79,78,1,3,5,7,10].map (EV LB ((0:Int),[x.1,x.2.1,x.2.2.1],(3:Int),x.2.2.2))):=by kernel_rfl
theorem e14 (j:Int) (y:entsDen LA):ev Go.Proofs.Try.prog C0 M0 0 134 (seqL [wr9 (lb++[false]),wr9 (lb++[true,false])] .skip) .leaf ⟨EV LB (j,y),D0,0,[]⟩ (λex S=>some (ex,(79::LA.map (·.1)).map S.E))=cond (decide (j<y.2.1)) (some (.normal,(79::LA.map (·.1)).map (EV LB (j,y)))) (some (.exit 2,(79::LA.map (·.1)).map (EV LB (j,y)))):=by kernel_rfl
theorem e24 (j:Int) (y:entsDen LA):ev Go.Proofs.Try.prog C0 M0 0 134 (wr9 (lb++[true,true,true])) .leaf ⟨EV LB (j,y),D0,0,[]⟩ (λex S=>some (ex,(79::LA.map (·.1)).map S.E))=some (.normal,(79::LA.map (·.1)).map (EV LB (w64 (j+1),y))):=by kernel_rfl
theorem e15 (x:entsDen LB):ev Go.Proofs.Try.prog C0 M0 0 134 (wr9 (b3++[false])) .leaf ⟨EV LB x,D0,0,[]⟩ (λex S=>boxK BxR 19 S λz=>some (ex,z,(LB.map (·.1)).map S.E))=cond (decide (0<=x.1)&&decide (x.1<(x.2.1.length:Int))) (some (.normal,List.getD x.2.1 x.1.toNat bxD,(LB.map (·.1)).map (EV LC (List.getD x.2.1 x.1.toNat bxD,x)))) none:=by kernel_rfl
theorem e16 (x:entsDen LC):ev Go.Proofs.Try.prog C0 M0 0 134 (wr9 (b3++[true,false])) .leaf ⟨EV LC x,D0,0,[]⟩ (λex S=>some (ex,(LD.map (·.1)).map S.E))=some (.normal,(LD.map (·.1)).map (EV LD ((0:Int),x))):=by kernel_rfl
theorem e17 (j:Int) (y:entsDen LC):ev Go.Proofs.Try.prog C0 M0 0 134 (seqL [wr9 (l4++[false])] .skip) .leaf ⟨EV LD (j,y),D0,0,[]⟩ (λex S=>some (ex,(20::LC.map (·.1)).map S.E))=cond (decide (j<((lets y.1).length:Int))) (some (.normal,(20::LC.map (·.1)).map (EV LD (j,y)))) (some (.exit 4,(20::LC.map (·.1)).map (EV LD (j,y)))):=by kernel_rfl
theorem e18 (j:Int) (y:entsDen LC):ev Go.Proofs.Try.prog C0 M0 0 134 (wr9 (l4++[true,true])) .leaf ⟨EV LD (j,y),D0,0,[]⟩ (λex S=>some (ex,(20::LC.map (·.1)).map S.E))=some (.normal,(20::LC.map (·.1)).map (EV LD (w64 (j+1),y))):=by kernel_rfl
theorem e19 (x:entsDen LD):evTurns Go.Proofs.Try.prog C0 134 (opsOf (wr9 (b5++[false]))) (turns 0 ((opsOf (wr9 (b5++[false]))).toList.take 9)) [] [] ⟨EV LD x,D0,0,[]⟩ (λS=>some ((98::96::LD.map (·.1)).map S.E)) (λ_ _=>none) =
  cond (decide (0<=x.1)&&decide (x.1<((lets x.2.1).length:Int))) (cond (decide (0<=x.1)&&decide (x.1<((lets x.2.1).length:Int))) (some ((98::96::LD.map (·.1)).map (E2 98 96 (.fp (.rg LtR) (lets x.2.1) x.1.toNat 1) (.u (((lets x.2.1).getD x.1.toNat ltD).2.1 ^^^ 1)) (EV LD x)))) none) none:=by kernel_rfl
theorem e20 (x:entsDen LD):ev Go.Proofs.Try.prog C0 M0 0 134 (wr9 (b5++[true,false])) .leaf ⟨EV LD x,D0,0,[]⟩ (λex S=>some (ex,(LE.map (·.1)).map S.E))=some (.normal,(LE.map (·.1)).map (EV LE ((0:Int),x))):=by kernel_rfl
theorem e21 (j:Int) (y:entsDen LD):ev Go.Proofs.Try.prog C0 M0 0 134 (seqL [wr9 (l6++[false])] .skip) .leaf ⟨EV LE (j,y),D0,0,[]⟩ (λex S=>some (ex,(21::LD.map (·.1)).map S.E))=cond (decide (0<=y.1)&&decide (y.1<((lets y.2.1).length:Int))) (cond (decide (j<((byts ((lets y.2.1).getD y.1.toNat ltD)).length:Int))) (some (.normal,(21::LD.map (·.1)).map (EV LE (j,y)))) (some (.exit 6,(21::LD.map (·.1)).map (EV LE (j,y))))) none:=by kernel_rfl
theorem e22 (j:Int) (y:entsDen LD):ev Go.Proofs.Try.prog C0 M0 0 134 (wr9 (l6++[true,true])) .leaf ⟨EV LE (j,y),D0,0,[]⟩ (λex S=>some (ex,(21::LD.map (·.1)).map S.E))=some (.normal,(21::LD.map (·.1)).map (EV LE (w64 (j+1),y))):=by kernel_rfl
theorem e23 (x:entsDen LE):evTurns Go.Proofs.Try.prog C0 134 (opsOf (wr9 (l6++[true,false,false]))) (turns 0 ((opsOf (wr9 (l6++[true,false,false]))).toList.take 11)) [] [] ⟨EV LE x,D0,0,[]⟩ (λS=>some ((120::119::LE.map (·.1)).map S.E)) (λ_ _=>none) =
  cond (decide (0<=x.2.1)&&decide (x.2.1<((lets x.2.2.1).length:Int))) (cond (decide (0<=x.1)&&decide (x.1<((byts ((lets x.2.2.1).getD x.2.1.toNat ltD)).length:Int))) (cond (decide (0<=x.1)&&decide (x.1<((byts ((lets x.2.2.1).getD x.2.1.toNat ltD)).length:Int))) (some ((120::119::LE.map (·.1)).map (E2 120 119 (.fp (.rg .u8) (byts ((lets x.2.2.1).getD x.2.1.toNat ltD)) x.1.toNat 0) (.u ((byts ((lets x.2.2.1).getD x.2.1.toNat ltD)).getD x.1.toNat 0 ^^^ 1)) (EV LE x)))) none) none) none:=by kernel_rfl
def okB (z:BxR.den):Prop:=(lets z).length<=4611686018427387904/\∀ k,(byts ((lets z).getD k ltD)).length<=4611686018427387904
theorem okB_of {z:BxR.den} (h:fitB BxR z=true):okB z:=by
 simp only [fitB,bAt,dTe] at h
 obtain ⟨_,_,_,⟨h1,h2⟩,_⟩:=h
 refine ⟨h1,λk=>?_⟩
 by_cases hk:k<(lets z).length
 ·have hm:=List.all_eq_true.1 h2 _ (List.getElem_mem hk)
  simp only [bAt,dTe] at hm
  simp only [List.getD,List.getElem?_eq_getElem hk,Option.getD_some]
  exact hm.2.2.1.1
 ·simp [List.getD,List.getElem?_eq_none_iff.2 (Nat.le_of_not_lt hk),ltD,byts]
theorem al_len {z z':BxR.den} (h:Ev.Alike BxR z z'):(lets z).length=(lets z').length:=h.2.2.2.1.1
theorem al_byt {z z':BxR.den} (h:Ev.Alike BxR z z') (k:Nat):(byts ((lets z).getD k ltD)).length=(byts ((lets z').getD k ltD)).length:=by
 have hl:=al_len h
 by_cases hk:k<(lets z).length
 ·have hk':k<(lets z').length:=by omega
  have:=(h.2.2.2.1.2 k hk hk').2.2.1.1
  simp only [List.getD,List.getElem?_eq_getElem hk,List.getElem?_eq_getElem hk',Option.getD_some]
  exact this
 ·simp only [List.getD,List.getElem?_eq_none_iff.2 (Nat.le_of_not_lt hk),List.getElem?_eq_none_iff.2 (show (lets z').length<=k by omega),Option.getD_none]
theorem al_okB {z z':BxR.den} (h:Ev.Alike BxR z z') (ho:okB z):okB z':=⟨by rw [<- al_len h];exact ho.1,λk=>by rw [<- al_byt h];exact ho.2 k⟩
theorem info5:(Go.Proofs.Try.prog.info? 5).isSome=true:=by kernel_rfl
theorem cells5:Go.Proofs.Try.prog.cellsOf 5=1:=by kernel_rfl
noncomputable abbrev ops23:Array Oper:=opsOf (wr9 (l6++[true,false,false]))
noncomputable abbrev ops19:Array Oper:=opsOf (wr9 (b5++[false]))
def noOp:Oper:={ dst:=none,op:=.move (.tmp 0),type:=0,pos := "",after:=#[],guard:=none }
noncomputable def o23:Oper:=(ops23[11]?).getD noOp
noncomputable def o19:Oper:=(ops19[9]?).getD noOp
theorem size23:ops23.size=12:=by kernel_rfl
theorem at23:ops23[11]?=some o23:=by kernel_rfl
theorem op23:o23.op=.store 5 (.tmp 120) (.tmp 119)/\o23.guard=none/\o23.dst=none:=⟨by kernel_rfl,by kernel_rfl,by kernel_rfl⟩
theorem size19:ops19.size=10:=by kernel_rfl
theorem at19:ops19[9]?=some o19:=by kernel_rfl
theorem op19:o19.op=.store 5 (.tmp 98) (.tmp 96)/\o19.guard=none/\o19.dst=none:=⟨by kernel_rfl,by kernel_rfl,by kernel_rfl⟩
theorem inI {k n:Nat} (h:k<n):(decide ((0:Int)<=(k:Int))&&decide ((k:Int)<(n:Int)))=true:=by
 rw [bAt]
 exact ⟨dTt (by omega),dTt (by omega)⟩
theorem w7 {c k:Nat} {r:entsDen LC} (hk:k<(lets r.1).length) (hc:c<(byts ((lets r.1).getD k ltD)).length) :
  WrG Go.Proofs.Try.prog 134 LE ((c:Int),(k:Int),r) LE (relE LE ((c:Int),(k:Int),r)) (.block 7 (.region 23 ops23 false)):=by
 have he:=e23 ((c:Int),(k:Int),r)
 simp only [nCt] at he
 rw [inI hk,cTt,inI hc,cTt,cTt] at he
 obtain ⟨p1,p2,p3⟩:=op23
 exact wr_block (wr_store (k:=.u8) (cold:=.u ((byts ((lets r.1).getD k ltD)).getD c 0)) he size23 at23 p1 p2 p3 info5 cells5 rfl rfl (λ_=>⟨_,rfl⟩) rfl rfl rfl rfl rfl rfl).2
theorem w6 {k:Nat} {y0:entsDen LD} (hy:y0.1=(k:Int)) (hk:k<(lets y0.2.1).length) (ho:okB y0.2.1) :
  WrG Go.Proofs.Try.prog 134 LE ((0:Int),y0) LD (relE LD y0) (.block 6 (.loop (seqL [wr9 (l6++[false])] (.seq (.block 7 (.region 23 ops23 false)) (wr9 (l6++[true,true])))))):=by
 refine wr_loop mixedB (cnt:=(byts ((lets y0.2.1).getD k ltD)).length) (ho.2 k) rfl (λj y hr=>?_) (λj y=>e22 j y) λj hj y hr=>?_
 ·have hz:Ev.Alike BxR y0.2.1 y.2.1:=hr.2.1
  have hk1:y.1=(k:Int):=(show y0.1=y.1 from hr.1).symm.trans hy
  have:=e21 j y
  rw [hk1,inI (show k<(lets y.2.1).length by rw [<- al_len hz];exact hk),cTt,nCt,<- al_byt hz] at this
  exact this
 ·obtain ⟨ky,r⟩:=y
  have hz:Ev.Alike BxR y0.2.1 r.1:=hr.2.1
  have hk1:ky=(k:Int):=(show y0.1=ky from hr.1).symm.trans hy
  subst hk1
  refine wr_mono (w7 (c:=j) (k:=k) (r:=r) (by rw [<- al_len hz];exact hk) (by rw [<- al_byt hz];exact hj)) λz hq=>⟨hq.1.symm,relE.trans hr hq.2⟩
theorem w5 {k:Nat} {y0:entsDen LD} (hy:y0.1=(k:Int)) (hk:k<(lets y0.2.1).length) (ho:okB y0.2.1) :
  WrG Go.Proofs.Try.prog 134 LD y0 LD (relE LD y0) (.block 5 (.seq (.region 19 ops19 false) (.seq (wr9 (b5++[true,false])) (.block 6 (.loop (seqL [wr9 (l6++[false])] (.seq (.block 7 (.region 23 ops23 false)) (wr9 (l6++[true,true]))))))))):=by
 have he:=e19 y0
 rw [hy,inI hk,cTt,cTt,nCt] at he
 obtain ⟨p1,p2,p3⟩:=op19
 refine wr_block (wr_seq (wr_store (k:=.u8) (cold:=.u (((lets y0.2.1).getD k ltD).2.1)) he size19 at19 p1 p2 p3 info5 cells5 rfl rfl (λ_=>⟨_,rfl⟩) rfl rfl rfl rfl rfl rfl).2 λy hr=>?_)
 have hz:Ev.Alike BxR y0.2.1 y.2.1:=hr.2.1
 have hk1:y.1=(k:Int):=(show y0.1=y.1 from hr.1).symm.trans hy
 refine wr_seq (wr_piece mixedB (e20 y)) λy' hy'=>?_
 subst hy'
 exact wr_mono (w6 hk1 (by rw [<- al_len hz];exact hk) (al_okB hz ho)) λz hq=>relE.trans hr hq
theorem w4 {x0:entsDen LC} (ho:okB x0.1) :
  WrG Go.Proofs.Try.prog 134 LD ((0:Int),x0) LC (relE LC x0) (.block 4 (.loop (seqL [wr9 (l4++[false])] (.seq (.block 5 (.seq (.region 19 ops19 false) (.seq (wr9 (b5++[true,false])) (.block 6 (.loop (seqL [wr9 (l6++[false])] (.seq (.block 7 (.region 23 ops23 false)) (wr9 (l6++[true,true]))))))))) (wr9 (l4++[true,true])))))):=by
 refine wr_loop mixedB (cnt:=(lets x0.1).length) ho.1 rfl (λj y hr=>?_) (λj y=>e18 j y) λj hj y hr=>?_
 ·have hz:Ev.Alike BxR x0.1 y.1:=hr.1
  have:=e17 j y
  rw [<- al_len hz] at this
  exact this
 ·have hz:Ev.Alike BxR x0.1 y.1:=hr.1
  exact wr_mono (w5 (k:=j) (y0:=((j:Int),y)) rfl (by rw [<- al_len hz];exact hj) (al_okB hz ho)) λz hq=>⟨hq.1.symm,relE.trans hr hq.2⟩
theorem getD_okB {l:List BxR.den} (h:∀ z∈l,okB z) (j:Nat) (hj:j<l.length):okB (l.getD j bxD):=by
 simp only [List.getD,List.getElem?_eq_getElem hj,Option.getD_some]
 exact h _ (List.getElem_mem hj)
theorem w3 {j:Nat} {x0:entsDen LB} (hx:x0.1=(j:Int)) (hj:j<List.length x0.2.1) (ho:∀ z∈(show List BxR.den from x0.2.1),okB z) :
  WrG Go.Proofs.Try.prog 134 LB x0 LB (relE LB x0) (.block 3 (.seq (wr9 (b3++[false])) (.seq (wr9 (b3++[true,false])) (.block 4 (.loop (seqL [wr9 (l4++[false])] (.seq (.block 5 (.seq (.region 19 ops19 false) (.seq (wr9 (b5++[true,false])) (.block 6 (.loop (seqL [wr9 (l6++[false])] (.seq (.block 7 (.region 23 ops23 false)) (wr9 (l6++[true,true]))))))))) (wr9 (l4++[true,true]))))))))):=by
 have he:=e15 x0
 rw [hx,inI hj,cTt,nCt] at he
 refine wr_block (wr_mono (wr_drop (p:=(19,.fp BxR)) (Q:=λq=>relE LB x0 q.2) rfl (wr_seq (wr_box mixedB (L:=LC) he rfl rfl) λy hy=>?_)) λy ⟨z,hz⟩=>hz)
 subst hy
 refine wr_seq (wr_piece mixedB (e16 _)) λy' hy'=>?_
 subst hy'
 exact wr_mono (w4 (getD_okB ho j hj)) λz hq=>hq.2
theorem al_list {l l':List BxR.den} (h:Ev.Alike (.sl BxR) l l') (ho:∀ z∈l,okB z):∀ z∈l',okB z:=λz hz=>by
 obtain ⟨i,hi,rfl⟩:=List.getElem_of_mem hz
 have hi':i<l.length:=by have:=h.1;omega
 exact al_okB (h.2 i hi' hi) (ho _ (List.getElem_mem hi'))
theorem w2 {x0:entsDen LA} (hn:x0.2.1=3) (hl:List.length x0.1=3) (ho:∀ z∈(show List BxR.den from x0.1),okB z) :
  WrG Go.Proofs.Try.prog 134 LB ((0:Int),x0) LA (relE LA x0) (.block 2 (.loop (seqL [wr9 (lb++[false]),wr9 (lb++[true,false])] (.seq (.block 3 (.seq (wr9 (b3++[false])) (.seq (wr9 (b3++[true,false])) (.block 4 (.loop (seqL [wr9 (l4++[false])] (.seq (.block 5 (.seq (.region 19 ops19 false) (.seq (wr9 (b5++[true,false])) (.block 6 (.loop (seqL [wr9 (l6++[false])] (.seq (.block 7 (.region 23 ops23 false)) (wr9 (l6++[true,true]))))))))) (wr9 (l4++[true,true]))))))))) (wr9 (lb++[true,true,true])))))):=by
 refine wr_loop mixedB (cnt:=3) (by decide) rfl (λj y hr=>?_) (λj y=>e24 j y) λj hj y hr=>?_
 ·have h3:y.2.1=3:=(show x0.2.1=y.2.1 from hr.2.1).symm.trans hn
  have:=e14 j y
  rw [h3] at this
  exact this
 ·have hz:Ev.Alike (.sl BxR) x0.1 y.1:=hr.1
  exact wr_mono (w3 (j:=j) (x0:=((j:Int),y)) rfl (by have:=hz.1;have hl':List.length x0.1=3:=hl;show j<List.length y.1;omega) (al_list hz ho)) λz hq=>⟨hq.1.symm,relE.trans hr hq.2⟩
theorem writes9:∀ l,wrFit l=true->WrFrom Go.Proofs.Try.prog 134 [11,14,16] [1,3,5,7,10] (wrX l) (wr9 q0):=λl hf=>by
 simp only [wrFit,bAt] at hf
 refine WrFrom.of (L:=L0) (mk:=λf=>(l.1,l.2.1,l.2.2.1,f 1,f 3,f 5,f 7,f 10,())) (λf=>rfl) (λf=>rfl) (L2:=LA) (Q:=λf=>relE LA ([l.1,l.2.1,l.2.2.1],(3:Int),f 1,f 3,f 5,f 7,f 10,())) (λf y hr t ht=>?_) λf=>?_
 ·refine EV_lit hr ?_
  simp only [List.mem_cons,List.not_mem_nil,or_false] at ht
  rcases ht with rfl | rfl | rfl | rfl | rfl <;> rfl
 ·rw [code9c]
  refine wr_seq (wr_own mixedB (L:=LB) (e13 (l.1,l.2.1,l.2.2.1,f 1,f 3,f 5,f 7,f 10,())) rfl rfl) λy hy=>?_
  subst hy
  exact w2 (x0:=([l.1,l.2.1,l.2.2.1],(3:Int),f 1,f 3,f 5,f 7,f 10,())) rfl rfl λz hz=>by
   have hz:z∈([l.1,l.2.1,l.2.2.1]:List BxR.den):=hz
   simp only [List.mem_cons,List.not_mem_nil,or_false] at hz
   rcases hz with rfl | rfl | rfl
   ·exact okB_of hf.1
   ·exact okB_of hf.2.1
   ·exact okB_of hf.2.2
end Go.Bx
