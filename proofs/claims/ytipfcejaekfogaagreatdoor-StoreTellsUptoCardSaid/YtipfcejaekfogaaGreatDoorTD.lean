/- Texts that the last one leans on, 4. -/
import Derived.Test.YtipfcejaekfogaaGreatDoorTC
import Derived.Scope
import Derived.ProofKit
import Derived.DataReads
import Derived.ChangeOld
namespace Go.Ev
open Go
section
variable {P:Program} {F:Frm (zJ P)} {μ μ':Nat->Option Nat} {S S':St} {w w':World} {a a':Act} {done:List Nat} {α:Type} {r:α} {M:FuncId->Bool} {ops:Array Oper} {Q:Exit->Act->World->Prop}
theorem kind_st {ds:List Nat} {o:Oper} {d:Nat} (h:xR P M ds o=.st d):d∉ds/\∃ t x,o.op=.store t (.tmp d) x:=by
 unfold xR at h
 cases hv:uw P o.op with
 | true=>simp [hv] at h
 | false =>
  simp only [hv,zK] at h;split at h <;> try (cases h;done)
  ·split at h <;> cases h
  ·rename_i t d' x hop
   cases hh:zS ds d' with
   | true=>simp [hh] at h
   | false =>
    simp only [hh,zK,Kd.st.injEq] at h;subst h;exact ⟨hasN_not hh,t,x,hop⟩
  ·rename_i f _ _ _
   cases hm:M f <;> simp [hm] at h
theorem others_av {ds:List Nat} {x:Nat} {ox:Oper} {bh:List Nat}:∀ (l:List Oper) (k:Nat) {wild av:List Nat},uO P M ops ds done x ox bh k l=some (wild,av)->∀ d,d∈av->d∉ds
 | [],k,wild,av,h=>by
  simp only [uO,y5,Prod.mk.injEq] at h;intro d hd;rw [<- h.2] at hd;cases hd
 | o::l,k,wild,av,h=>by
  simp only [uO] at h
  cases ho:uO P M ops ds done x ox bh (k+1) l with
  | none=>simp [ho] at h
  | some q =>
   obtain ⟨wild',av'⟩:=q;simp only [ho] at h;have ih:=others_av l (k+1) ho
   cases hc:(zS done k||Nat.beq k x||zS bh k) with
   | true =>
    simp only [hc,zI,y5,Prod.mk.injEq] at h;obtain ⟨rfl,rfl⟩:=h;exact ih
   | false =>
    simp only [hc,zK] at h;obtain ⟨_,h2⟩:=zB h
    cases hk:xR P M ds o <;> simp only [hk,y5,Prod.mk.injEq] at h2 <;> obtain ⟨rfl,rfl⟩:=h2
    ·exact ih
    ·exact ih
    ·intro d hd;rcases List.mem_cons.1 hd with rfl | hd
     ·exact (kind_st hk).1
     ·exact ih d hd
    ·exact ih
def SameC (kl:List Nat) (x y:AV):Prop:=∀ (w w':World) (N N':NN) (μ μ':Nat->Option Nat) (H H':Nat->Blk) (v v':Value),(∀ x v,zA w N μ H x v->zA w' N' μ' H' (kv kl x) v)->zA w N μ H x v->zA w' N' μ' H' y v'->v=v'
theorem kv_mp {kl:List Nat} {b:Nat} (h:zS kl b=false):kv kl (.mp b)=.mp b:=by
 cases kl with
 | nil=>rfl
 | cons a r=>simp only [kv,zj,h,zK]
theorem kv_ptr {kl:List Nat} {b o:Nat} (h:zS kl b=false):kv kl (.ptr b o)=.ptr b o:=by
 cases kl with
 | nil=>rfl
 | cons a r=>simp only [kv,zj,h,zK]
theorem sameCell_ok {kl:List Nat} {x y:AV} {K:Option α} (h:sameCell kl x y K=some r):K=some r/\SameC kl x y:=by
  unfold sameCell at h;split at h
  . obtain ⟨h1,h2⟩:=zB h;simp only [yR,Bool.not_eq_true'] at h1;have hb:=xi h1.1;subst hb;refine ⟨h2,λw w' N N' μ μ' H H' v v' tr g g'=>?_⟩;have g2:=tr _ _ g;rw [kv_mp h1.2] at g2;simp only [zA] at g2 g';obtain ⟨_,a,ha,rfl⟩:=g2;obtain ⟨_,a',ha',rfl⟩:=g';rw [ha] at ha'
    cases ha';rfl
  . obtain ⟨h1,h2⟩:=zB h;simp only [yR,Bool.not_eq_true'] at h1;have hb:=xi h1.1.1;have ho:=xi h1.1.2;subst hb;subst ho;refine ⟨h2,λw w' N N' μ μ' H H' v v' tr g g'=>?_⟩;have g2:=tr _ _ g;rw [kv_ptr h1.2] at g2;simp only [zA] at g2 g';obtain ⟨_,a,ha,rfl⟩:=g2;obtain ⟨_,a',ha',rfl⟩:=g';rw [ha] at ha'
    cases ha';rfl
  . obtain ⟨h1,h2⟩:=zB h;obtain ⟨h3,h4⟩:=yf h2;have h1:=of_decide_eq_true h1;have h3:=of_decide_eq_true h3;subst h1;subst h3;refine ⟨h4,λw w' N N' μ μ' H H' v v' _ g g'=>?_⟩;simp only [zA] at g g';rw [g,g']
  . obtain ⟨h3,h4⟩:=yf h;have h3:=of_decide_eq_true h3;subst h3;refine ⟨h4,λw w' N N' μ μ' H H' v v' _ g g'=>?_⟩;simp only [zA] at g g';rw [g,g']
  . obtain ⟨h3,h4⟩:=yf h;have h3:=of_decide_eq_true h3;subst h3;refine ⟨h4,λw w' N N' μ μ' H H' v v' _ g g'=>?_⟩;simp only [zA] at g g';rw [g,g']
  all_goals first
    | (cases h;done)
    | (obtain ⟨h3,h4⟩:=yf h
       have h3:=eq_of_beq h3;subst h3;refine ⟨h4,λw w' N N' μ μ' H H' v v' _ g g'=>?_⟩
       simp only [zA] at g g';rw [g,g'])
theorem sameCells_ok {kl:List Nat}:∀ {xs ys:List AV} {K:Option α},vD kl xs ys K=some r->K=some r/\∀ (i:Nat) x y,xs[i]?=some x->ys[i]?=some y->SameC kl x y
 | [],[],K,h=>by
  simp only [vD] at h;exact ⟨h,by simp⟩
 | x::xs,y::ys,K,h=>by
  simp only [vD] at h;obtain ⟨h1,h2⟩:=sameCell_ok h;obtain ⟨h3,h4⟩:=sameCells_ok h1;refine ⟨h3,λi a b ha hb=>?_⟩
  cases i with
  | zero=>simp at ha hb;subst ha;subst hb;exact h2
  | succ i=>simp at ha hb;exact h4 i a b ha hb
 | [],_::_,K,h=>by simp [vD] at h
 | _::_,[],K,h=>by simp [vD] at h
theorem keepW_ok {kl:List Nat} {H H':Nat->Blk} {k:Nat}:∀ {W:List Wat} {K:Option α},keepW kl H H' k W K=some r->K=some r/\∀ e∈W,k∈e.ix->∃ cs cs',H e.b=.vars cs/\H' e.b=.vars cs'/\e.o+e.n<=cs.length/\e.o+e.n<=cs'.length /\
      ∀ (i:Nat) x y,e.o<=i->i<e.o+e.n->cs[i]?=some x->cs'[i]?=some y->SameC kl x y
  | [],K,h=>⟨h,by simp⟩
  | e::W,K,h=>by
    simp only [keepW] at h
    cases hh:zS e.ix k with
    | false =>
      simp only [hh,zK] at h;obtain ⟨h1,h2⟩:=keepW_ok h;refine ⟨h1,λe' he' hk=>?_⟩;rcases List.mem_cons.1 he' with rfl | he'
      . exact absurd hk (hasN_not hh)
      . exact h2 e' he' hk
    | true =>
      simp only [hh,zI] at h;split at h
      . rename_i cs cs' hc hc';obtain ⟨h1,h2⟩:=zB h;simp only [yR] at h1;obtain ⟨h3,h4⟩:=sameCells_ok h2;obtain ⟨h5,h6⟩:=keepW_ok h3;refine ⟨h5,λe' he' hk=>?_⟩;rcases List.mem_cons.1 he' with rfl | he'
        . refine ⟨cs,cs',hc,hc',Nat.le_of_ble_eq_true h1.1,Nat.le_of_ble_eq_true h1.2,λi x y hi hn hx hy=>?_⟩;refine h4 (i-e'.o) x y ?_ ?_
          . rw [List.getElem?_take_of_lt (by omega),List.getElem?_drop,show e'.o+(i-e'.o)=i by omega];exact hx
          . rw [List.getElem?_take_of_lt (by omega),List.getElem?_drop,show e'.o+(i-e'.o)=i by omega];exact hy
        . exact h6 e' he' hk
      . cases h
def Link (W:List Wat) (μ:Nat->Option Nat) (S:St) (T:Nat->Nat->Nat->Prop):Prop :=
 ∀ j g k,T j g k->∃ e∈W,j∈e.ix/\e.o<=k/\k<e.o+e.n/\e.b<S.nx/\∀ cs,S.H e.b=.vars cs->μ e.b=some g
theorem Link.step {W W':List Wat} {T:Nat->Nat->Nat->Prop} {kl:List Nat} (h:Link W μ S T) (hpl:Pl F μ S.H S.nx w kl μ' S'.H S'.nx w') (hW:∀ e∈W,e∈W'):Link W' μ' S' T:=λj g k hT=>by
 obtain ⟨e,h1,h2,h3,h4,h5,h6⟩:=h j g k hT;refine ⟨e,hW e h1,h2,h3,h4,Nat.lt_of_lt_of_le h5 hpl.mono,λcs' hcs=>?_⟩;obtain ⟨⟨cs,g1⟩,g2⟩:=Pin.vars (hcs ▸ hpl.pin e.b h5);rw [g2];exact h6 cs g1
theorem cell_of {cs:List AV} {b g k:Nat} (hp:Hp F μ S.H S.nx w) (hb:S.H b=.vars cs) (hg:μ b=some g) (hk:k<cs.length):∃ x v,cs[k]?=some x/\w.cell? ⟨g,k,none⟩=some v/\zA w (Not F μ S.H) μ S.H x v:=by
 have hB:=hp.blk b;simp only [hb,za] at hB;rcases hB with hB | ⟨g',vs,h1,h2,h3,_⟩
 ·rw [hg] at hB;cases hB
 rw [hg] at h1
 cases h1;obtain ⟨x,hx⟩:∃ x,cs[k]?=some x:=⟨cs[k],List.getElem?_eq_getElem hk⟩;obtain ⟨v,hv,hr⟩:=RelVs_get k h2 hx;obtain ⟨hlt,hve⟩:=List.getElem?_eq_some_iff.1 hv;refine ⟨x,v,hx,?_,hr⟩
 have:=h3 k hlt
 rw [Nat.zero_add] at this;rw [this,hve]
theorem watched_kept {W:List Wat} {T:Nat->Nat->Nat->Prop} {i:Nat} {K:Option α} {kl:List Nat} (hp:Hp F μ S.H S.nx w) (hp':Hp F μ' S'.H S'.nx w') (hpl:Pl F μ S.H S.nx w kl μ' S'.H S'.nx w') (hl:Link W μ S T) (h:keepW kl S.H S'.H i W K=some r) :
  ∀ g k,T i g k->∀ v,w.cell? ⟨g,k,none⟩=some v->w'.cell? ⟨g,k,none⟩=some v:=λg k hT v hv=>by
 obtain ⟨e,h1,h2,h3,h4,h5,h6⟩:=hl i g k hT;obtain ⟨cs,cs',g1,g2,g3,g4,g5⟩:=(keepW_ok h).2 e h1 h2;have hm:=h6 cs g1;obtain ⟨_,hm'⟩:=Pin.vars (g2 ▸ hpl.pin e.b h5);rw [hm] at hm';obtain ⟨x,v1,e1,e2,e3⟩:=cell_of (S:=S) hp g1 hm (k:=k) (by omega);obtain ⟨y,v2,f1,f2,f3⟩:=cell_of (S:=S') hp' g2 hm' (k:=k) (by omega)
 have:=g5 k x y h3 h4 e1 f1 _ _ _ _ _ _ _ _ _ _ hpl.tr e3 f3
 rw [e2] at hv
 cases hv;rw [f2,this]
theorem eff_GK {ds:List Nat} {t0:Array Value} {o:Oper} (hv:uw P o.op=false) (ht:∀ d,d∉ds->a.tmps.getD d undef=t0.getD d undef) (hs:Sure P M o a a' w w')
  {kl:List Nat} (hpl:Pl F μ S.H S.nx w kl μ' S'.H S'.nx w'):∀ {i:Nat} {T2:Nat->Nat->Nat->Prop},(∀ g k,T2 i g k->∀ v,w.cell? ⟨g,k,none⟩=some v->w'.cell? ⟨g,k,none⟩=some v)->GK t0 i (xR P M ds o) (wy μ S.H,T2) w (wy μ' S'.H,T2) w':=by
 intro i T2 hT2;refine ⟨hpl.new,λ_ _ _=>id,hT2,?_⟩
 cases hk:xR P M ds o with
 | val =>
  exfalso;unfold xR at hk;simp only [hv,zK] at hk;split at hk <;> try (cases hk;done)
  ·split at hk <;> cases hk
  ·rename_i d _ _;cases hh:zS ds d <;> simp [hh] at hk
  ·rename_i f _ _ _;cases hm:M f <;> simp [hm] at hk
 | new =>
  have hf:=hs.fine;unfold xR at hk;simp only [hv,zK] at hk;split at hk <;> try (cases hk;done)
  ·rename_i hop;rw [hop] at hf;exact hf
  ·rename_i hop;rw [hop] at hf;exact hf
  ·rename_i hop;rw [hop] at hf;exact hf
  ·rename_i hop;rw [hop] at hf;exact hf
  ·rename_i hop;rw [hop] at hf;exact hf
  ·rename_i hop;rw [hop] at hf;split at hk
   ·rename_i hu;exact hf hu
   ·cases hk
  ·rename_i d _ _;cases hh:zS ds d <;> simp [hh] at hk
  ·rename_i f _ _ hop
   cases hm:M f with
   | true=>exact hs.call f _ _ hop hm
   | false=>simp [hm] at hk
 | st d =>
  obtain ⟨hd,t,x,hop⟩:=kind_st hk;have hf:=hs.fine;rw [hop] at hf;refine hf _ λg o hgo=>⟨o,?_⟩
  rw [<- ht d hd];exact hgo
 | wild=>exact ⟨hpl.chg.size,hpl.chg.keep⟩
theorem put_off {ds:List Nat} {t0:Array Value} (ht:∀ d,d∉ds->a.tmps.getD d undef=t0.getD d undef) {dst:Option Nat} (hd:∀ d,dst=some d->d∈ds) {v:Value} :
  ∀ d,d∉ds->(a.put dst v).tmps.getD d undef=t0.getD d undef:=by
 intro d hn;rw [<- ht d hn]
 cases dst with
 | none=>rfl
 | some e =>
  have hne:e≠d:=λhe=>hn (he ▸ hd e rfl)
  simp [Act.put,Array.getElem?_setIfInBounds_ne hne]
theorem St.put_H (S:St) (d:Option Nat) (v:AV):(S.put d v).H=S.H:=by cases d <;> rfl
theorem planAlts_ok (E:PT->Prop) (hE:∀ a b,E (.two a b)->E a/\E b) {f:Nat->Option PT}:∀ (l:List Nat) {pt:PT},tM f l=some pt->E pt->l≠[]/\∀ k∈l,∃ a,f k=some a/\E a
 | [],pt,h,_=>by cases h
 | [k],pt,h,he=>by
  simp only [tM] at h;refine ⟨by simp,λk' hk=>?_⟩;rw [List.mem_singleton] at hk;subst hk;exact ⟨pt,h,he⟩
 | k::k2::l,pt,h,he=>by
  simp only [tM] at h
  cases hf:f k with
  | none=>simp [hf] at h
  | some a =>
   cases hr:tM f (k2::l) with
   | none=>simp [hf,hr] at h
   | some b =>
    simp only [hf,hr,y5] at h;subst h;obtain ⟨h1,h2⟩:=hE _ _ he;obtain ⟨_,h4⟩:=planAlts_ok E hE (k2::l) hr h2;refine ⟨by simp,λk' hk=>?_⟩;rcases List.mem_cons.1 hk with rfl | hk
    ·exact ⟨a,hf,h1⟩
    ·exact h4 k' hk
theorem plan_ok {C:zW} (hC:xw P C M) (hsel:∀ (j:Nat) (o:Oper) cs b,ops[j]?=some o->o.op≠.select cs b) {ds:List Nat} (hds:∀ (i:Nat) (o:Oper) (d:Nat),ops[i]?=some o->o.dst=some d->d∈ds) {t0:Array Value}
  (hQ:∀ c a a' w,a'.defers=a.defers->Q (.panic c) a w->Q (.panic c) a' w) {K:St->Option α} {Kp:AV->St->Option α}:∀ (n:Nat) (done:List Nat) (listed:Array Bool) (F:Frm (zJ P)) (μ:Nat->Option Nat) (dn:List Nat) (W:List Wat) (T2:Nat->Nat->Nat->Prop) (S:St) (a:Act) (w:World) (ts:PT),Ld ops done listed->Clo ops listed->Link W μ S T2 ->
   plan P M ops ds n done=some ts->yP P C a.tmps.size ops ts dn W S K Kp=some r->Rg F μ dn S a w->(∀ x S' w' a' val,Kp x S'=some r->PPost F μ S.H S.nx S.kl w a x S' w' a' val->Q (.panic [{ v:=val,recovered:=false }]) a' w')->(∀ d,d∉ds->a.tmps.getD d undef=t0.getD d undef) ->
   (∀ S' w' a' done',K S'=some r->Post F μ S w a done' S' w' a'->Q .normal a' w')->tp P ops (GI P M ops ds t0) Q n listed (wy μ S.H,T2) a w
 | 0,done,listed,F,μ,dn,W,T2,S,a,w,ts,hld,hclo,hlk,hp,h,hr,hq,ht,hn=>by
  simp only [plan] at hp
  have hre:wM done 0 ops.toList=[]/\ts=.nil:=by
   cases hq:wM done 0 ops.toList with
   | nil=>simp only [hq,y5] at hp;exact ⟨rfl,hp.symm⟩
   | cons x y=>simp [hq] at hp
  obtain ⟨hre,rfl⟩:=hre;refine ⟨?_,hn S w a dn h (.refl hr)⟩;refine List.eq_nil_iff_forall_not_mem.2 λi hi=>?_
  rw [vO hld,hre] at hi
  cases hi
 | n+1,done,listed,F,μ,dn,W,T2,S,a,w,ts,hld,hclo,hlk,hp,h,hr,hq,ht,hn=>by
  simp only [plan] at hp
  cases hpk:pickV P (mayPick P M ops ds done) done 0 ops.toList with
  | some q =>
   obtain ⟨k0,o⟩:=q;simp only [hpk] at hp
   cases hoth:uO P M ops ds done k0 o (sS k0 0 ops.toList []) 0 ops.toList with
   | none=>simp [hoth] at hp
   | some q =>
    obtain ⟨wild,av⟩:=q
    cases hpl:plan P M ops ds n (k0::done) with
    | none=>simp [hoth,hpl] at hp
    | some rest =>
     simp only [hoth,hpl,y5] at hp;subst hp;obtain ⟨hok,hdk,hv,hrd⟩:=pickV_ok (ops:=ops) ops.toList 0 (by simp) hpk;have hkl:k0<ops.size:=(Array.getElem?_eq_some_iff.1 hok).1;simp only [yP] at h;obtain ⟨h0,h1⟩:=zB h;obtain ⟨v,val,hK,hrg,hy⟩:=evOp_val (X:=λg k=>XK a.tmps wild av (wy μ S.H) g/\¬ WRof P μ S av a.tmps ⟨k0,o,wild,av⟩ g k) hv hr (fresh_ok h0) (λρA hρ hrd hc=>chk_free (s:=⟨k0,o,wild,av⟩) hr hρ hrd hc) h1;have hK:=(keepW_ok hK).1;let WR:=WRof P μ S av a.tmps ⟨k0,o,wild,av⟩;let T3:Nat->Nat->Nat->Prop:=λj g k=>T2 j g k\/(j∈wild/\WR g k)
     have hpl0:Pl F μ S.H S.nx w [] μ (S.put o.dst v).H (S.put o.dst v).nx w:=by
      have:=Pl.refl hr.hp
      cases o.dst <;> exact this
     have hwix:∀ e∈Turn.watch P ⟨k0,o,wild,av⟩ S.E,e.ix=wild:=λe he=>by
      unfold Turn.watch at he;simp only at he
      cases hw:sL wild with
      | true=>simp [hw] at he
      | false =>
       simp only [hw,zK] at he;split at he
       ·split at he
        ·simp only [List.mem_singleton] at he;rw [he]
        ·cases he
       ·cases he
     have hlk0:Link (Turn.watch P ⟨k0,o,wild,av⟩ S.E++W) μ S T3:=λj g k hT=>by
      rcases hT with hT | ⟨hj,e,he,e1,e2,e3,e4,_⟩
      ·obtain ⟨e,g1,g2⟩:=hlk j g k hT;exact ⟨e,List.mem_append_right _ g1,g2⟩
      ·exact ⟨e,List.mem_append_left _ he,by rw [hwix e he];exact hj,e3,e4,Nat.lt_of_not_le λhle=>e1 (hr.hp.dead _ hle),λ_ _=>e2⟩
     have hlk3:=hlk0.step hpl0 (λe he=>he)
     have ih:=plan_ok hC hsel hds (t0:=t0) hQ n (k0::done) (listed.setIfInBounds k0 true) F μ (sR o++dn) _ T3 (S.put o.dst v) (a.put o.dst val) w rest (hld.cons hkl) (hclo.set hok ((rdy_iff hld).1 hrd)) hlk3 hpl (by rw [Act.put_size];exact hK) hrg
      (λx S' w' a' val h1 h2=>hq x S' w' a' val h1 (PPost.trans (S1:=S.put o.dst v) ⟨μ,[],by cases o.dst <;> simp [St.put],hpl0,h2⟩ (Act.put_defers' _ _ _)))
      (put_off ht λd hd=>hds k0 o d hok hd) λS' w' a' d' hK' hp'=>hn S' w' a' d' hK' (by
       refine Post.trans (S1:=S.put o.dst v) ⟨μ,[],by cases o.dst <;> simp [St.put],hpl0,hrg,hp'⟩ (Act.put_size _ _ _) (Act.put_defers' _ _ _))
     rw [St.put_H] at ih;have hav:=others_av ops.toList 0 hoth
     have hXt:∀ g,XK t0 wild av (wy μ S.H) g->XK a.tmps wild av (wy μ S.H) g:=λg hX=>by
      rcases hX with hX | ⟨d,hd,o',ho'⟩
      ·exact .inl hX
      ·exact .inr ⟨d,hd,o',by rw [ht d (hav d hd)];exact ho'⟩
     refine wpAnyG_less (T1:=(wy μ S.H,T3)) (λj T' w' hg o' ho'=>?_) (wpAnyG_first (J:=JK t0 wild av (wy μ S.H) WR w) hok hsel hQ (λT w o' ho'=>?_) bnd_eq n listed (wy μ S.H,T3) a w (λj oj hoj hji hun hno=>?_) hclo ((ready_iff hld).2 ⟨o,hok,hdk,hrd⟩) ?_ ⟨Keep.refl w,λg h=>.inl h,λg k hw=>⟨λj hj=>.inr ⟨hj,hw⟩,λ_ h=>h⟩⟩ ih)
     ·obtain ⟨q1,q2,q3,q4⟩:=hg o' ho';refine ⟨q1,λj' g k hT=>q2 j' g k (.inl hT),λg k hT=>q3 g k (.inl hT),?_⟩;generalize xR P M ds o'=kd at q4 ⊢
      cases kd <;> exact q4
     ·rw [hok] at ho';cases ho';have:xR P M ds o=.val:=by unfold xR;simp [hv]
      rw [this];exact ⟨λg h=>.inl h,λ_ _ _ h=>h,λ_ _ _ _ h=>h,Keep.refl w⟩
     ·have hjl:j<ops.size:=(Array.getElem?_eq_some_iff.1 hoj).1;obtain ⟨h2,h3⟩:=others_ok ops.toList 0 (by simp) hoth j oj (Nat.zero_le _) hoj (by rw [<- hld.getT hjl true];exact hun) hji hno;refine ⟨h2,λT w T' w' hj hg=>JK.step h3 (λg k hw d hd o' ho'=>?_) hj (hg oj hoj)⟩;obtain ⟨e,_,_,_,_,_,e6⟩:=hw;exact e6 d hd o' (by rw [ht d (hav d hd)];exact ho')
     ·rcases hy with ⟨h2,h3⟩ | ⟨h2,h3⟩
      ·refine .inl ⟨h2,λT w' hj=>h3 w' ⟨λg k hX v hv=>?_⟩⟩;by_cases hw:WR g k
       ·exact (hj.2.2 g k hw).2 v hv
       ·have hlt:=World.block_lt_of_cell? w _ hv;rw [cell?_of_heap (hj.1.keep g hlt λhX'=>hX ⟨hXt g hX',hw⟩)];exact hv
      ·exact .inr ⟨h2,h3⟩
  | none =>
   simp only [hpk] at hp;obtain ⟨hne,hall⟩:=planAlts_ok (λpt=>yP P C a.tmps.size ops pt dn W S K Kp=some r) (λ_ _ h=>agr_some h) _ hp h;refine ⟨λhe=>?_,λi hi=>?_⟩
   ·obtain ⟨k,hk⟩:=List.exists_mem_of_ne_nil _ hne;have:k∈Region.ready .any ops listed:=(vO hld).2 hk;rw [he] at this;cases this
   ·rw [vO hld] at hi;obtain ⟨ti,hfi,h⟩:=hall i hi
    cases hok:ops[i]? with
    | none=>simp [hok] at hfi
    | some o =>
     cases hpl:plan P M ops ds n (i::done) with
     | none=>simp [hok,hpl] at hfi
     | some rest =>
      simp only [hok,hpl,y5] at hfi;subst hfi;have hkl:i<ops.size:=(Array.getElem?_eq_some_iff.1 hok).1
      have hdeps:∀ e∈o.after,Region.binds .any e=true->listed.getD e.on false=true:=by
       obtain ⟨o',h1,_,h3⟩:=(ready_iff hld).1 ((vO hld).2 hi);rw [hok] at h1;cases h1;exact (rdy_iff hld).1 h3
      simp only [yP] at h;obtain ⟨h0,h1⟩:=zB h
      have next:∀ {S1:St} {w1:World} {a1:Act},keepW (S1.kl.drop S.kl.length) S.H S1.H i W (yP P C a.tmps.size ops rest (sR o++dn) (Turn.watch P ⟨i,o,[],[]⟩ S.E++W) S1 K Kp)=some r->(∃ μ1 kl,S1.kl=S.kl++kl/\Pl F μ S.H S.nx w kl μ1 S1.H S1.nx w1/\Rg F μ1 (sR o++dn) S1 a1 w1 /\
        ((∀ g k,T2 i g k->∀ v,w.cell? ⟨g,k,none⟩=some v->w1.cell? ⟨g,k,none⟩=some v)->GK t0 i (xR P M ds o) (wy μ S.H,T2) w (wy μ1 S1.H,T2) w1))->(∃ v,a1=a.put o.dst v) ->
        ∃ T',GI P M ops ds t0 i (wy μ S.H,T2) w T' w1/\tp P ops (GI P M ops ds t0) Q n (listed.setIfInBounds i true) T' a1 w1:=by
       rintro S1 w1 a1 hK0 ⟨μ1,kl,e1,e2,e3,e4⟩ ⟨v1,rfl⟩;have hK1:=(keepW_ok hK0).1;rw [e1,List.drop_left] at hK0;have hT2:=watched_kept hr.hp e3.hp e2 hlk hK0;refine ⟨(wy μ1 S1.H,T2),λo' ho'=>by rw [hok] at ho';cases ho';exact e4 hT2,?_⟩
       exact plan_ok hC hsel hds (t0:=t0) hQ n (i::done) (listed.setIfInBounds i true) F μ1 (sR o++dn) _ T2 S1 (a.put o.dst v1) w1 rest (hld.cons hkl) (hclo.set hok hdeps) (hlk.step e2 λe he=>List.mem_append_right _ he) hpl (by rw [Act.put_size];exact hK1) e3
        (λx S' w' a' val h1 h2=>hq x S' w' a' val h1 (PPost.trans ⟨μ1,kl,e1,e2,h2⟩ (Act.put_defers' _ _ _)))
        (put_off ht λd hd=>hds i o d hok hd) λS' w' a' d' hK' hp'=>hn S' w' a' d' hK' (Post.trans ⟨μ1,kl,e1,e2,e3,hp'⟩ (Act.put_size _ _ _) (Act.put_defers' _ _ _))
      have hw:wA P ops o a w (λa' w'=>∃ T',GI P M ops ds t0 i (wy μ S.H,T2) w T' w'/\tp P ops (GI P M ops ds t0) Q n (listed.setIfInBounds i true) T' a' w') Q:=by
       cases hv:uw P o.op with
       | false =>
        refine evOp_eff hC hv hr (fresh_ok h0) h1 (λx S' w' val h1 h2=>hq x S' w' a val h1 h2) λS1 w1 a1 hK1 hp1 hs1=>?_
        obtain ⟨⟨μ1,kl,e1,e2,e3⟩,_,_⟩:=hp1;exact next hK1 ⟨μ1,kl,e1,e2,e3,λhT=>eff_GK hv ht hs1 e2 hT⟩ hs1.put
       | true =>
        obtain ⟨v,val,hK,hrg,hy⟩:=evOp_val (X:=λ_ _=>False) hv hr (fresh_ok h0) (λ_ _ _ _=>.none) h1;have hk:xR P M ds o=.val:=by unfold xR;simp [hv]
        have:=next hK ⟨μ,[],by cases o.dst <;> simp [St.put],by have:=Pl.refl hr.hp;cases o.dst <;> exact this,hrg,λhT=>by rw [hk,St.put_H];exact ⟨λg h=>.inl h,λ_ _ _ h=>h,hT,Keep.refl w⟩⟩ ⟨val,rfl⟩
        unfold wA;rcases hy with ⟨h1,h2⟩ | ⟨h1,h2⟩
        ·rw [if_pos h1];unfold Oper.wp;rw [h2 w (Agr.refl w)];exact this
        ·rw [if_neg (by simp [h1]),<- h2];exact this
      unfold wpOp;simp only [hok];unfold wA at hw;split
      ·rename_i hh;rw [if_pos hh] at hw;exact .inl hw
      ·rename_i hh;rw [if_neg hh] at hw;exact hw
theorem noSel {l:List Oper} (h:(l.all λo=>!isSelect o.op)=true) {o:Oper} (ho:o∈l):∀ cs b,o.op≠.select cs b:=by
 intro cs b he
 have:=List.all_eq_true.1 h o ho
 simp [he,isSelect] at this
theorem evRegion_ok (hm:P.follows .mixedOrders=true) {C:zW} (hC:xw P C M) {id:Nat} {draw:Bool} {ts:PT} {K:St->Option α} {Kp:AV->St->Option α} (hr:Rg F μ [] S a w) (hts:turnsOf P M ops draw=some ts)
  (h:yP P C a.tmps.size ops ts [] [] S K Kp=some r)
  (hQ:∀ c a a' w,a'.defers=a.defers->Q (.panic c) a w->Q (.panic c) a' w)
  (hq:∀ x S' w' a' val,Kp x S'=some r->PPost F μ S.H S.nx S.kl w a x S' w' a' val->Q (.panic [{ v:=val,recovered:=false }]) a' w')
  (hn:∀ S' w' a' done',K S'=some r->Post F μ S w a done' S' w' a'->Q .normal a' w'):(Code.region id ops draw).wp P Q a w:=by
 cases draw with
 | false =>
  simp only [turnsOf,zK,y5] at hts;subst hts;exact region_ok hC hr h hq hn
 | true =>
  simp only [turnsOf,zI] at hts;obtain ⟨hsel,hpl⟩:=zB hts;let w1:World:={ w with drawn:=w.drawn+1 };have hchg:Chg (λ_=>False) w w1:=⟨⟨Nat.le_refl _,λ_ _ _=>rfl⟩,rfl,rfl,rfl⟩;have hpl1:Pl F μ S.H S.nx w [] μ S.H S.nx w1:=Pl.keep hr.hp hchg
  have hr1:Rg F μ [] S a w1:=by
   refine ⟨hr.hp.keep ⟨Nat.le_refl _,λ_ _ _=>rfl⟩ λ_ _=>rfl,?_,hr.tags⟩
   have:=hr.e.kill (kl:=[]) hpl1.tr
   exact this
  let Q':Exit->Act->World->Prop:=λe a w=>(e=.normal/\Q .normal a w)\/∃ c,e=.panic c/\Q (.panic c) a w
  have hQ':∀ c a a' w,a'.defers=a.defers->Q' (.panic c) a w->Q' (.panic c) a' w:=λc a a' w hd h=>by
   rcases h with ⟨h,_⟩ | ⟨c',h,h2⟩
   ·cases h
   ·cases h;exact .inr ⟨c,rfl,hQ c a a' w hd h2⟩
  refine wp_mono (wp_region_any (Q:=Q') hm (wpAny_of_G _ _ _ _ _ (plan_ok (t0:=a.tmps) hC (λj o cs b ho=>noSel hsel (by rw [Array.mem_toList_iff];exact Array.mem_of_getElem? ho) cs b) (ds:=dstsOf ops.toList) (λi o d ho hd=>?_) hQ' ops.size [] (Array.replicate ops.size false) F μ [] [] (λ_ _ _=>False) S a w1 ts ?_ (λm om _ hl=>by simp [Array.getD] at hl) (λ_ _ _ h=>h.elim) hpl h hr1 (λx S' w' a' val h1 h2=>.inr ⟨_,rfl,hq x S' w' a' val h1 (PPost.trans (S1:=S) ⟨μ,[],by simp,hpl1,h2⟩ rfl)⟩) (λ_ _=>rfl)
   λS' w' a' done' hK hp=>.inl ⟨rfl,hn S' w' a' done' hK (Post.trans (S1:=S) ⟨μ,[],by simp,hpl1,hr1,hp⟩ rfl rfl)⟩))) λe a w h=>by
    rcases h with ⟨rfl,h⟩ | ⟨c,rfl,h⟩
    ·exact h
    ·exact h
  ·simp only [dstsOf,List.mem_filterMap];exact ⟨o,by rw [Array.mem_toList_iff];exact Array.mem_of_getElem? ho,hd⟩
  ·refine ⟨by simp,λi hi=>?_,λi hi=>by cases hi⟩;simp [zS,hi]
end
end Go.Ev
namespace Go.Ev
open Go
structure Ext (B B':Bd):Prop where
 m:∀ j b,zw B.m j=some b->zw B'.m j=some b
 z:∀ b,b∈B.z->b∈B'.z
 y:∀ b,b∈B.y->b∈B'.y
theorem Ext.refl (B:Bd):Ext B B:=⟨λ_ _ h=>h,λ_ h=>h,λ_ h=>h⟩
theorem Ext.trans {A B C:Bd} (h:Ext A B) (h':Ext B C):Ext A C:=⟨λj b hh=>h'.m j b (h.m j b hh),λb hh=>h'.z b (h.z b hh),λb hh=>h'.y b (h.y b hh)⟩
theorem eqON_eq:∀ {x y:Option Nat},eqON x y=true->x=y
 | none,none,_=>rfl
 | some _,some _,h=>by rw [xi h]
 | none,some _,h=>by cases h
 | some _,none,h=>by cases h
theorem xt {α:Type} {r:α} {B:Bd} {j:Nat} {b:Option Nat} {K:Bd->Option α} (h:vA B j b K=some r):∃ B',K B'=some r/\Ext B B'/\zw B'.m j=some b:=by
 unfold vA at h
 cases hf:zw B.m j with
 | none =>
  simp only [hf] at h;refine ⟨_,h,⟨λk c hk=>?_,λ_ h=>h,λ_ h=>h⟩,by simp [zw]⟩;have hne:Nat.beq j k=false:=Bool.eq_false_iff.2 λe=>by rw [xi e,hk] at hf;cases hf
  simp [zw,hne,hk]
 | some b' =>
  simp only [hf] at h;obtain ⟨h1,h2⟩:=zB h;rw [eqON_eq h1] at hf;exact ⟨B,h2,Ext.refl B,hf⟩
def Bd.bs (B:Bd):List Nat:=B.m.filterMap (·.2)
theorem findB_mem:∀ {m:List (Nat×Option Nat)} {j b:Nat},zw m j=some (some b)->b∈m.filterMap (·.2)
 | [],_,_,h=>by simp [zw] at h
 | (k,o)::m,j,b,h=>by
  simp only [zw] at h
  cases hk:Nat.beq k j with
  | true=>simp only [hk,zI,y5] at h;subst h;simp
  | false =>
   simp only [hk,zK] at h
   have:=findB_mem h
   simp only [List.mem_filterMap] at this ⊢;obtain ⟨q,hq,he⟩:=this;exact ⟨q,List.mem_cons_of_mem _ hq,he⟩
theorem nodupN_ok:∀ {l:List Nat},t8 l=true->l.Nodup
 | [],_=>List.nodup_nil
 | x::l,h=>by
  simp only [t8,yR,Bool.not_eq_true'] at h;refine List.nodup_cons.2 ⟨λhm=>?_,nodupN_ok h.2⟩;have:(l.any λy=>Nat.beq x y)=true:=List.any_eq_true.2 ⟨x,hm,Nat.beq_refl x⟩;rw [this] at h;exact absurd h.1 (by simp)
theorem nodup_tail {k:Nat} {o:Option Nat} {m:List (Nat×Option Nat)} (hn:(((k,o)::m).filterMap (·.2)).Nodup):(m.filterMap (·.2)).Nodup/\∀ b,o=some b->b∉m.filterMap (·.2):=by
 cases o with
 | none=>exact ⟨by simpa using hn,λb h=>by cases h⟩
 | some c =>
  have h:=List.nodup_cons.1 (show (c::m.filterMap (·.2)).Nodup from hn);exact ⟨h.2,λb hb=>by cases hb;exact h.1⟩
theorem findB_inj:∀ {m:List (Nat×Option Nat)} {j j' b:Nat},(m.filterMap (·.2)).Nodup->zw m j=some (some b)->zw m j'=some (some b)->j=j'
 | [],_,_,_,_,h,_=>by simp [zw] at h
 | (k,o)::m,j,j',b,hn,h,h'=>by
  simp only [zw] at h h';obtain ⟨hn',hn2⟩:=nodup_tail hn
  cases hk:Nat.beq k j with
  | true =>
   simp only [hk,zI,y5] at h;subst h
   cases hk':Nat.beq k j' with
   | true=>rw [<- xi hk,<- xi hk']
   | false =>
    simp only [hk',zK] at h';exact absurd (findB_mem h') (hn2 b rfl)
  | false =>
   simp only [hk,zK] at h
   cases hk':Nat.beq k j' with
   | true =>
    simp only [hk',zI,y5] at h';subst h';exact absurd (findB_mem h) (hn2 b rfl)
   | false =>
    simp only [hk',zK] at h';exact findB_inj hn' h h'
theorem Bd.ok_inj {B:Bd} (h:B.ok=true) {j j' b:Nat} (h1:zw B.m j=some (some b)) (h2:zw B.m j'=some (some b)):j=j':=by
 simp only [Bd.ok,yR] at h;exact findB_inj (nodupN_ok h.1) h1 h2
theorem Bd.ok_z {B:Bd} (h:B.ok=true) {j b:Nat} (h1:zw B.m j=some (some b)):b∉B.z:=λhz=>by
 simp only [Bd.ok,yR] at h
 have:=List.all_eq_true.1 h.2 b (findB_mem h1)
 have h2:(B.z.any λy=>Nat.beq b y)=true:=List.any_eq_true.2 ⟨b,hz,Nat.beq_refl b⟩;rw [h2] at this
 cases this
def wF (μ:Nat->Option Nat) (B:Bd) (j:Nat):Option Nat :=
 match zw B.m j with
 | some (some b)=>μ b
 | _=>none
def From (pin:Nat) (H:Nat->Blk) (B:Bd) (j:Nat) (blk:Blk):Prop :=
 match zw B.m j with
 | some (some b)=>H b≠.dead/\(∀ t l,H b=.data t l->∃ t' l',blk=.data t' l'/\t'.size=t.size/\List.length l'=List.length l)/\(blk.tag≠0->j<pin->b=j)/\(blk.tag≠0->(H b).tag=blk.tag)/\(unm blk=true->unm (H b)=true)
 | some none=>pin<=j/\((∃ t,blk=.data t [])\/(∃ cs,blk=.vars cs)\/∃ kt vt ag l,blk=.mapd kt vt ag l)
 | none=>False
theorem From.ext {pin:Nat} {H:Nat->Blk} {B B':Bd} {j:Nat} {blk:Blk} (he:Ext B B') (h:From pin H B j blk):From pin H B' j blk:=by
 unfold From at *
 cases hf:zw B.m j with
 | none=>simp [hf] at h
 | some b=>rw [he.m j b hf];simpa [hf] using h
def Kin:BSh->Blk->Prop
 | .vars _,b=>∃ cs,b=.vars cs
 | .data t,b=>∃ l,b=.data t l
 | .iter,b=>∃ s p,b=.iter s p
 | .mapd kt vt ag,b=>∃ l,b=.mapd kt vt ag l
theorem Kin.live {s:BSh} {b:Blk} (h:Kin s b):b≠.dead:=by
 cases s <;> simp only [Kin] at h
 ·obtain ⟨_,rfl⟩:=h;simp
 ·obtain ⟨_,rfl⟩:=h;simp
 ·obtain ⟨_,_,rfl⟩:=h;simp
 ·obtain ⟨_,rfl⟩:=h;simp
theorem Kin.tag {s:BSh} {b:Blk} (h:Kin s b):b.tag=s.tag:=by
 cases s <;> simp only [Kin] at h
 ·obtain ⟨_,rfl⟩:=h;rfl
 ·obtain ⟨_,rfl⟩:=h;rfl
 ·obtain ⟨_,_,rfl⟩:=h;rfl
 ·obtain ⟨_,rfl⟩:=h;rfl
theorem unB_kin:∀ (s:BSh) (p:s.den),Kin s (unB s p)
 | .vars _,_=>⟨_,rfl⟩
 | .data _,_=>⟨_,rfl⟩
 | .iter,_=>⟨_,_,rfl⟩
 | .mapd _ _ _,_=>⟨_,rfl⟩
section
variable {T:Tb} {F:Frm T} {μ:Nat->Option Nat} {H:Nat->Blk} {nx:Nat} {w:World} {α:Type} {r:α} {pin:Nat} {bl:List (Nat×BSh)}
structure Fin {T:Tb} (F F':Frm T) (μ:Nat->Option Nat) (pin:Nat) (H:Nat->Blk) (bl:List (Nat×BSh)) (B:Bd) (H':Nat->Blk):Prop where
 ok:B.ok=true
 src:∀ j,H' j≠.dead->From pin H B j (H' j)
 kin:∀ j s,zb bl j=some s->Kin s (H' j)
 sub:∀ g,F' g->Not F μ H g
 hsub:∀ g,F'.hot g->(Not F μ H).trk g
 zsep:∀ b g,b∈B.z->H b≠.dead->μ b=some g->¬ F'.hot g
 ysep:∀ b g,b∈B.y->H b≠.dead->μ b=some g->¬ F' g
 reg:F'.reg=F.reg
 unf:F'.unf=F.unf
variable {F':Frm T} {B:Bd} {H':Nat->Blk}
theorem Fin.trk (h:Fin F F' μ pin H bl B H') {g:Nat} (ht:wy (wF μ B) H' g):wy μ H g:=by
 obtain ⟨j,h1,h2⟩:=ht;have h3:=h.src j h1;unfold From at h3;unfold wF at h2
 cases hf:zw B.m j with
 | none=>simp [hf] at h2
 | some o =>
  cases o with
  | none=>simp [hf] at h2
  | some b=>simp only [hf] at h2 h3;exact ⟨b,h3.1,h2⟩
theorem Fin.not (h:Fin F F' μ pin H bl B H'):Sub w (Not F' (wF μ B) H') (Not F μ H) :=
 ⟨λg _ hn=>hn.elim (h.sub g) λht=>.inr (h.trk ht),λg _ hn=>hn.elim (h.hsub g) λht=>.inr (h.trk ht),λg _ hr=>by show F'.reg g;rw [h.reg];exact hr,λg _ hr=>by have hr:F'.unf g:=hr;rw [h.unf] at hr;exact hr⟩
theorem Fin.y (h:Fin F F' μ pin H bl B H') (hp:Hp F μ H nx w) {b g:Nat} (hb:b∈B.z) (hy:b∈B.y) (hl:H b≠.dead) (hg:μ b=some g):¬ Not F' (wF μ B) H' g:=by
 rintro (hF | ⟨j,h1,h2⟩)
 ·exact h.ysep b g hy hl hg hF
 ·have h3:=h.src j h1;unfold From at h3;unfold wF at h2
  cases hf:zw B.m j with
  | none=>simp [hf] at h2
  | some o =>
   cases o with
   | none=>simp [hf] at h2
   | some b' =>
    simp only [hf] at h2 h3
    have:=hp.inj b b' g hl h3.1 hg h2
    subst this;exact Bd.ok_z h.ok hf hb
theorem Fin.z (h:Fin F F' μ pin H bl B H') (hp:Hp F μ H nx w) {b g:Nat} (hb:b∈B.z) (hl:H b≠.dead) (hg:μ b=some g):¬ (Not F' (wF μ B) H').trk g:=by
 rintro (hF | ⟨j,h1,h2⟩)
 ·exact h.zsep b g hb hl hg hF
 ·have h3:=h.src j h1;unfold From at h3;unfold wF at h2
  cases hf:zw B.m j with
  | none=>simp [hf] at h2
  | some o =>
   cases o with
   | none=>simp [hf] at h2
   | some b' =>
    simp only [hf] at h2 h3
    have:=hp.inj b b' g hl h3.1 hg h2
    subst this;exact Bd.ok_z h.ok hf hb
theorem vZ (w:World) {N:Nat->Prop}:Keep N w w:=Keep.refl w
theorem plain_of_rows (h:Fin F F' μ pin H bl B H') (hp:Hp F μ H nx w) {t:Ty} {l:List t.den} {v:Value} (ht:xn t=true) (hs:SlRow w (Not F μ H) t l v) (hg:∀ g o n c,v=.slice (some ⟨g,o,none⟩) n c->0<n->∃ b,b∈B.z/\b∈B.y/\H b≠.dead/\μ b=some g) :
  zA w (Not F' (wF μ B) H') (wF μ B) H' (.sl t l) v:=by
 obtain ⟨a,c,rfl,hc,hr⟩:=hs;simp only [zA,RelD];refine ⟨a,c,rfl,hc,λhpos=>?_⟩;obtain ⟨g,o,rfl,hgl,hu,hrow⟩:=hr hpos;obtain ⟨b,hb,hy,hl,hm⟩:=hg g o _ _ rfl hpos;refine ⟨g,o,rfl,λhn=>h.y hp hb hy hl hm (lnN_le ht hn),hgl,hu.keep hgl rfl h.not,λi hi=>?_⟩;obtain ⟨es,e1,e2,e3⟩:=hrow i hi;exact ⟨es,e1,e2,e3.keep (vZ w) h.not⟩
theorem lent_of_rows (h:Fin F F' μ pin H bl B H') (hp:Hp F μ H nx w) {t:Ty} {l:List t.den} {v:Value} (hs:SlRow w (Not F μ H) t l v) (hg:∀ g o n c,v=.slice (some ⟨g,o,none⟩) n c->0<n->∃ b,b∈B.z/\H b≠.dead/\μ b=some g) :
  zA w (Not F' (wF μ B) H') (wF μ B) H' (.sl (.ln t) l) v:=by
 obtain ⟨a,c,rfl,hc,hr⟩:=hs;simp only [zA,RelD];refine ⟨a,c,rfl,hc,λhpos=>?_⟩;obtain ⟨g,o,rfl,hgl,hu,hrow⟩:=hr hpos;obtain ⟨b,hb,hl,hm⟩:=hg g o _ _ rfl hpos;refine ⟨g,o,rfl,λhn=>h.z hp hb hl hm hn,hgl,hu.keep hgl rfl h.not,λi hi=>?_⟩;obtain ⟨es,e1,e2,e3⟩:=hrow i hi;exact ⟨es,e1,e2,e3.keep (vZ w) h.not⟩
theorem packSl_ok (hp:Hp F μ H nx w) {t:Ty} {x:AV} {B:Bd} {K:List t.den->Bd->Option α} {val:Value} (hx:zA w (Not F μ H) μ H x val) (h:packSl H t x B K=some r) :
  ∃ p B',K p B'=some r/\Ext B B'/\∀ (F':Frm T) Bf H',Ext B' Bf->Fin F F' μ pin H bl Bf H'->zA w (Not F' (wF μ Bf) H') (wF μ Bf) H' (.sl t p) val:=by
 have zext:∀ b,Ext B ⟨B.m,b::B.z,B.y⟩:=λb=>⟨λ_ _ h=>h,λ_ h=>List.mem_cons_of_mem _ h,λ_ h=>h⟩
 have yext:∀ b,Ext B ⟨B.m,b::B.z,b::B.y⟩:=λb=>⟨λ_ _ h=>h,λ_ h=>List.mem_cons_of_mem _ h,λ_ h=>List.mem_cons_of_mem _ h⟩
 cases x <;> try (simp only [packSl,uu,reduceCtorEq] at h;done)
 case sl t' l =>
  simp only [packSl] at h;split at h
  ·rename_i ht;subst ht;refine ⟨l,B,h,Ext.refl B,λF' Bf H' _ hf=>?_⟩;simp only [zA] at hx ⊢;exact hx.keep (vZ w) hf.not
  ·split at h
   ·rename_i ht;subst ht;refine ⟨_,B,h,Ext.refl B,λF' Bf H' _ hf=>?_⟩;simp only [zA] at hx ⊢
    have:=(hx.keep (vZ w) hf.not).inn
    simp only [Ty.inn] at this;exact this
   ·cases h
 case c u =>
  simp only [zA] at hx;subst hx;have h':(uu H t (.c val) λl=>K l B)=some r:=h
  have hnil:val=.slice none 0 0/\K [] B=some r:=by
   simp only [uu] at h'
   split at h' <;> first
    | (cases h';done)
    | (rename_i heq;cases heq;done)
    | (rename_i heq;cases heq;exact ⟨rfl,h'⟩)
    | (rename_i heq;subst heq;exact ⟨rfl,h'⟩)
    | exact ⟨rfl,h'⟩
  obtain ⟨rfl,hK⟩:=hnil;refine ⟨[],B,hK,Ext.refl B,λF' Bf H' _ hf=>?_⟩;simp only [zA,RelD];exact ⟨none,0,rfl,Nat.le_refl _,λhh=>absurd hh (by simp)⟩
 case wh b =>
  have at_:∀ g o n c,val=.slice (some ⟨g,o,none⟩) n c->H b≠.dead/\μ b=some g:=λg o n c hv=>by
   simp only [zA] at hx;obtain ⟨t',l',hb,⟨g',c',hg,hv',_⟩ | ⟨_,_,hv'⟩⟩:=hx
   ·rw [hv'] at hv;simp only [Value.slice.injEq,y5,Addr.mk.injEq] at hv;exact ⟨by simp [hb],by rw [<- hv.1.1];exact hg⟩
   ·rw [hv'] at hv;simp at hv
  simp only [packSl] at h;split at h
  ·rename_i t' ht _;subst ht;obtain ⟨l,hK,hs⟩:=tW hp hx h;refine ⟨_,_,hK,zext b,λF' Bf H' he hf=>?_⟩
   have:=lent_of_rows hf hp hs λg o n c hv _=>⟨b,he.z b (by simp),at_ g o n c hv⟩
   simp only [zA] at this ⊢
   have:=this.inn
   simp only [Ty.inn] at this;exact this
  ·split at h
   ·rename_i u hu _;subst hu;obtain ⟨l,hK,hs⟩:=tW hp hx h;refine ⟨_,_,hK,zext b,λF' Bf H' he hf=>?_⟩;refine lent_of_rows (t:=u.inn) hf hp ?_ λg o n c hv _=>⟨b,he.z b (by simp),at_ g o n c hv⟩
    obtain ⟨a,c,e1,e2,e3⟩:=hs;refine ⟨a,c,by rw [e1];simp,by simpa using e2,λhl=>?_⟩;obtain ⟨g,o,f1,f2,f3,f4⟩:=e3 (by simpa using hl);have hsz:(Ty.mx u).size=u.inn.size:=by simp only [Ty.size];exact (y3 u).symm
    rw [hsz] at f3 f4;refine ⟨g,o,f1,f2,by simpa using f3,λi hi=>?_⟩;obtain ⟨es,g1,g2,g3⟩:=f4 i (by simpa using hi);refine ⟨es,g1,g2,?_⟩;simp only [RelD] at g3;simp only [List.getElem_map];exact g3.2.1.lowInn g3.1
   ·obtain ⟨hrg,h⟩:=zB h;obtain ⟨l,hK,hs⟩:=tW hp hx h;exact ⟨l,_,hK,yext b,λF' Bf H' he hf=>plain_of_rows hf hp hrg hs λg o n c hv _=>⟨b,he.z b (by simp),he.y b (by simp),at_ g o n c hv⟩⟩
 case win b lo n =>
  simp only [packSl] at h;obtain ⟨hrg,h'⟩:=zB h;obtain ⟨l,hK,hs⟩:=tW hp hx h';refine ⟨l,_,hK,yext b,λF' Bf H' he hf=>plain_of_rows hf hp hrg hs λg o n c hv _=>⟨b,he.z b (by simp),he.y b (by simp),?_⟩⟩;simp only [zA] at hx;obtain ⟨t',l',hb,_,⟨g',c',o',hg,hv',_⟩ | ⟨_,_,hv'⟩⟩:=hx
  ·rw [hv'] at hv;simp only [Value.slice.injEq,y5,Addr.mk.injEq] at hv;exact ⟨by simp [hb],by rw [<- hv.1.1];exact hg⟩
  ·rw [hv'] at hv;simp at hv
theorem many_ext (B:Bd) (l:List Nat):Ext B ⟨B.m,l++B.z,B.y⟩:=⟨λ_ _ h=>h,λ_ h=>List.mem_append_right _ h,λ_ h=>h⟩
theorem many_extY (B:Bd) (l:List Nat):Ext B ⟨B.m,l++B.z,l++B.y⟩:=⟨λ_ _ h=>h,λ_ h=>List.mem_append_right _ h,λ_ h=>List.mem_append_right _ h⟩
theorem packFp_ok (hp:Hp F μ H nx w) {t:Ty} {b:Nat} {c:Bool} {B:Bd} {K:t.den->Bd->Option α} {val:Value} (hx:zA w (Not F μ H) μ H (.mptr c b 0) val) (h:packFp H t b c B K=some r) :
  ∃ p B',K p B'=some r/\Ext B B'/\∀ (F':Frm T) Bf H',Ext B' Bf->Fin F F' μ pin H bl Bf H'->zA w (Not F' (wF μ Bf) H') (wF μ Bf) H' (.fz t p) val:=by
 unfold packFp at h;split at h
 ·rename_i cs hB;simp only [zA] at hx;obtain ⟨hl,hx⟩:=hx;obtain ⟨t',y,hcps,h⟩:=fzL_cps h
  have key:∀ (N':NN),Gone F μ H w (b::fzs H cs) N'->RelD w N' (.pt t') (cond c (some y) none) [val]/\notAgg val=true:=λN' hG=>by
   rcases hx with ⟨rfl,g,hm,rfl⟩ | ⟨rfl,rfl⟩
   ·obtain ⟨t2,p2,he,_,h1,h2⟩:=fzP_ok hp hG hB (List.mem_cons_self ..) (v:=.pointer (some ⟨g,0,none⟩)) (K:=λt y=>some (⟨t,y⟩:(t:Ty)×t.den)) (by simp only [zA];exact ⟨hl,g,hm,rfl⟩) (hcps _ _)
    cases he;exact ⟨h1,h2⟩
   ·simp only [RelD,zK];exact ⟨⟨none,rfl,.inl ⟨rfl,rfl⟩⟩,rfl⟩
  split at h
  ·rename_i ht;subst ht;refine ⟨_,_,h,many_extY B _,λF' Bf H' he hf=>?_⟩;simp only [zA];exact key _ ⟨hf.not,λb' g hb hl' hm=>hf.y hp (he.z b' (List.mem_append_left _ hb)) (he.y b' (List.mem_append_left _ hb)) hl' hm⟩
  ·split at h
   ·rename_i ht;subst ht;obtain ⟨hc,h⟩:=zB h;refine ⟨_,_,h,many_ext B _,λF' Bf H' he hf=>?_⟩;simp only [zA];obtain ⟨k1,k2⟩:=key (Not F' (wF μ Bf) H').low ⟨⟨λg hg hn=>(Not F μ H).le g (hf.not.trk g hg hn),hf.not.trk,hf.not.reg,hf.not.unf⟩,λb' g hb hl' hm=>hf.z hp (he.z b' (List.mem_append_left _ hb)) hl' hm⟩;exact ⟨RelD.lowLn (t:=.pt t') hc k1,k2⟩
   ·cases h
 ·cases h
theorem packFz_ok (hp:Hp F μ H nx w) {t:Ty} {x:AV} {B:Bd} {K:t.den->Bd->Option α} {val:Value} (hx:zA w (Not F μ H) μ H x val) (h:packFz H t x B K=some r) :
  ∃ p B',K p B'=some r/\Ext B B'/\∀ (F':Frm T) Bf H',Ext B' Bf->Fin F F' μ pin H bl Bf H'->zA w (Not F' (wF μ Bf) H') (wF μ Bf) H' (.fz t p) val:=by
 unfold packFz at h;split at h
 ·split at h
  ·rename_i ht;subst ht;refine ⟨_,B,h,Ext.refl B,λF' Bf H' _ hf=>?_⟩;simp only [zA] at hx ⊢;exact ⟨hx.1.keep (vZ w) hf.not,hx.2⟩
  ·split at h
   ·rename_i ht;subst ht;refine ⟨_,B,h,Ext.refl B,λF' Bf H' _ hf=>?_⟩;simp only [zA] at hx ⊢;exact ⟨(hx.1.keep (vZ w) hf.not).inn,hx.2⟩
   ·cases h
 ·refine packFp_ok hp ?_ h;simp only [zA] at hx ⊢;obtain ⟨h1,g,h2,h3⟩:=hx;exact ⟨h1,.inl ⟨trivial,g,h2,h3⟩⟩
 ·exact packFp_ok hp hx h
 ·cases h
theorem vj {B Bf:Bd} {j b:Nat} (he:Ext B Bf) (h:zw B.m j=some (some b)):wF μ Bf j=μ b:=by
 unfold wF;rw [he.m j _ h]
theorem isNilSl_ok {u:Value} (h:ux u=true):u=.slice none 0 0:=by
 unfold ux at h;split at h
 ·rfl
 ·cases h
theorem isNilPtr_ok {u:Value} (h:wl u=true):u=.pointer none:=by
 unfold wl at h;split at h
 ·rfl
 ·cases h
theorem packOwn_ok {x:AV} {j:Nat} {B:Bd} {K:Bd->Option α} {val:Value} (hx:zA w (Not F μ H) μ H x val) (h:packOwn x j B K=some r) :
  ∃ B',K B'=some r/\Ext B B'/\∀ (F':Frm T) Bf H',Ext B' Bf->Fin F F' μ pin H bl Bf H'->zu bl (.own j)=true->zA w (Not F' (wF μ Bf) H') (wF μ Bf) H' (.wh j) val:=by
 have kind:∀ {F':Frm T} {Bf H'},Fin F F' μ pin H bl Bf H'->zu bl (.own j)=true->∃ t l,H' j=.data t l:=by
  intro F' Bf H' hf hr;simp only [zu] at hr
  cases hk:zb bl j with
  | none=>simp [hk] at hr
  | some s =>
   have:=hf.kin j s hk
   cases s <;> simp only [hk,Bool.false_eq_true] at hr;obtain ⟨l,hl⟩:=this;exact ⟨_,l,hl⟩
 cases x <;> simp only [packOwn,reduceCtorEq] at h
 case c u =>
  obtain ⟨h1,h2⟩:=zB h;obtain ⟨B',hK,he,hb⟩:=xt h2;refine ⟨B',hK,he,λF' Bf H' he' hf hr=>?_⟩;simp only [zA] at hx ⊢;obtain ⟨t,l,hl⟩:=kind hf hr;have h3:=hf.src j (by simp [hl]);unfold From at h3;rw [he'.m j _ hb] at h3;obtain ⟨_,⟨t',h3⟩ | ⟨_,h3⟩ | ⟨_,_,_,_,h3⟩⟩:=h3
  rotate_left
  ·rw [hl] at h3;cases h3
  ·rw [hl] at h3;cases h3
  refine ⟨t',[],h3,.inr ⟨?_,rfl,by rw [hx,isNilSl_ok h1]⟩⟩;unfold wF;rw [he'.m j _ hb]
 case wh b =>
  obtain ⟨B',hK,he,hb⟩:=xt h;refine ⟨B',hK,he,λF' Bf H' he' hf hr=>?_⟩;simp only [zA] at hx ⊢;obtain ⟨t,l,hl,hv⟩:=hx;obtain ⟨t',l',hl'⟩:=kind hf hr;have h3:=hf.src j (by simp [hl']);unfold From at h3;rw [he'.m j _ hb] at h3;obtain ⟨t2,l2,h4,h5,h6⟩:=h3.2.1 t l hl;refine ⟨t2,l2,h4,?_⟩;rw [vj he' hb,h5,h6];rcases hv with hv | ⟨h7,h8,h9⟩
  ·exact .inl hv
  ·exact .inr ⟨h7,by rw [h8] at h6;exact List.length_eq_zero_iff.1 h6,h9⟩
theorem packWin_ok {x:AV} {j:Nat} {B:Bd} {K:Nat×Nat->Bd->Option α} {val:Value} (hx:zA w (Not F μ H) μ H x val) (h:packWin H x j B K=some r) :
  ∃ p B',K p B'=some r/\Ext B B'/\∀ (F':Frm T) Bf H',Ext B' Bf->Fin F F' μ pin H bl Bf H'->zu bl (.win j)=true->zA w (Not F' (wF μ Bf) H') (wF μ Bf) H' (.win j p.1 p.2) val:=by
 have kind:∀ {F':Frm T} {Bf H'},Fin F F' μ pin H bl Bf H'->zu bl (.win j)=true->∃ t l,H' j=.data t l:=by
  intro F' Bf H' hf hr;simp only [zu] at hr
  cases hk:zb bl j with
  | none=>simp [hk] at hr
  | some s =>
   have:=hf.kin j s hk
   cases s <;> simp only [hk,Bool.false_eq_true] at hr;obtain ⟨l,hl⟩:=this;exact ⟨_,l,hl⟩
 cases x <;> simp only [packWin,reduceCtorEq] at h
 case win b lo n =>
  obtain ⟨B',hK,he,hb⟩:=xt h;refine ⟨(lo,n),B',hK,he,λF' Bf H' he' hf hr=>?_⟩;simp only [zA] at hx ⊢;obtain ⟨t,l,hl,hv⟩:=hx;obtain ⟨t',l',hl'⟩:=kind hf hr;have h3:=hf.src j (by simp [hl']);unfold From at h3;rw [he'.m j _ hb] at h3;obtain ⟨t2,l2,h4,h5,h6⟩:=h3.2.1 t l hl;refine ⟨t2,l2,h4,by rw [h6];exact hv.1,?_⟩;rw [vj he' hb,h5,h6];rcases hv with ⟨hle,hv | ⟨h7,h8,h9⟩⟩
  ·exact .inl hv
  ·exact .inr ⟨h7,by rw [h8] at h6;exact List.length_eq_zero_iff.1 h6,h9⟩
 case wh b =>
  simp only [zA] at hx;obtain ⟨t,l,hl,hv⟩:=hx;simp only [hl] at h;obtain ⟨B',hK,he,hb⟩:=xt h;refine ⟨(0,l.length),B',hK,he,λF' Bf H' he' hf hr=>?_⟩;obtain ⟨t',l',hl'⟩:=kind hf hr;have h3:=hf.src j (by simp [hl']);unfold From at h3;rw [he'.m j _ hb] at h3;obtain ⟨t2,l2,h4,hs2,hl2⟩:=h3.2.1 t l hl;simp only [zA];refine ⟨t2,l2,h4,by omega,?_⟩;rw [vj he' hb,hs2,hl2];have hn2:l=[]->l2=[]:=λe=>by rw [e] at hl2;exact List.length_eq_zero_iff.1 hl2
  rcases hv with ⟨g,c,h1,h2,h5,h6⟩ | ⟨h1,h2,h5⟩
  ·exact .inl ⟨g,c,0,h1,by rw [h2];rfl,h5,h6,.inl (by simp)⟩
  ·exact .inr ⟨h1,hn2 h2,by rw [h5]⟩
theorem packMp_ok {x:AV} {j o:Nat} {B:Bd} {K:Bool->Bd->Option α} {val:Value} (hx:zA w (Not F μ H) μ H x val) (h:packMp x j o B K=some r) :
  ∃ p B',K p B'=some r/\Ext B B'/\∀ (F':Frm T) Bf H',Ext B' Bf->Fin F F' μ pin H bl Bf H'->zu bl (.mptr j o)=true->zA w (Not F' (wF μ Bf) H') (wF μ Bf) H' (.mptr p j o) val:=by
 have kind:∀ {F':Frm T} {Bf H'},Fin F F' μ pin H bl Bf H'->zu bl (.mptr j o)=true->H' j≠.dead:=by
  intro F' Bf H' hf hr;simp only [zu,Option.isSome_iff_exists] at hr;obtain ⟨s,hs⟩:=hr;exact (hf.kin j s hs).live
 cases x <;> simp only [packMp,reduceCtorEq] at h
 case ptr b o' =>
  obtain ⟨h1,h2⟩:=zB h
  have:=xi h1
  subst this;obtain ⟨B',hK,he,hb⟩:=xt h2;refine ⟨true,B',hK,he,λF' Bf H' he' hf hr=>?_⟩;simp only [zA] at hx ⊢;obtain ⟨_,g,hg,hv⟩:=hx;exact ⟨kind hf hr,.inl ⟨trivial,g,by rw [vj he' hb];exact hg,hv⟩⟩
 case mptr c b o' =>
  obtain ⟨h1,h2⟩:=zB h
  have:=xi h1
  subst this;obtain ⟨B',hK,he,hb⟩:=xt h2;refine ⟨c,B',hK,he,λF' Bf H' he' hf hr=>?_⟩;simp only [zA] at hx ⊢;obtain ⟨_,hv⟩:=hx;exact ⟨kind hf hr,by rw [vj he' hb];exact hv⟩
 case c u =>
  obtain ⟨h1,h2⟩:=zB h;obtain ⟨B',hK,he,hb⟩:=xt h2;refine ⟨false,B',hK,he,λF' Bf H' he' hf hr=>?_⟩;simp only [zA] at hx ⊢;exact ⟨kind hf hr,.inr ⟨trivial,by rw [hx,isNilPtr_ok h1]⟩⟩
mutual
theorem packV_ok (hp:Hp F μ H nx w):∀ (v:VSh) (x:AV) (B:Bd) (K:v.den->Bd->Option α) (val:Value),zA w (Not F μ H) μ H x val->zr H v x B K=some r ->
  ∃ p B',K p B'=some r/\Ext B B'/\∀ (F':Frm T) Bf H',Ext B' Bf->Fin F F' μ pin H bl Bf H'->zu bl v=true->zA w (Not F' (wF μ Bf) H') (wF μ Bf) H' (w6 v p) val
 | .i k,x,B,K,val,hx,h=>by
  cases x <;> simp only [zr,reduceCtorEq] at h;obtain ⟨h1,h2⟩:=zB h
  have:=of_decide_eq_true h1
  subst this;exact ⟨_,B,h2,Ext.refl B,λ_ _ _ _ _ _=>hx⟩
 | .u,x,B,K,val,hx,h=>by
  cases x <;> simp only [zr,reduceCtorEq] at h;exact ⟨_,B,h,Ext.refl B,λ_ _ _ _ _ _=>hx⟩
 | .b,x,B,K,val,hx,h=>by
  cases x <;> simp only [zr,reduceCtorEq] at h
  ·exact ⟨_,B,h,Ext.refl B,λ_ _ _ _ _ _=>hx⟩
  ·exact ⟨_,B,h,Ext.refl B,λ_ _ _ _ _ _=>hx⟩
 | .s,x,B,K,val,hx,h=>by
  cases x <;> simp only [zr,reduceCtorEq] at h;exact ⟨_,B,h,Ext.refl B,λ_ _ _ _ _ _=>hx⟩
 | .sl t,x,B,K,val,hx,h=>by
  simp only [zr] at h;obtain ⟨p,B',hK,he,hh⟩:=packSl_ok (pin:=pin) (bl:=bl) hp hx h;exact ⟨p,B',hK,he,λF' Bf H' h1 h2 _=>hh F' Bf H' h1 h2⟩
 | .fz t,x,B,K,val,hx,h=>by
  simp only [zr] at h;obtain ⟨p,B',hK,he,hh⟩:=packFz_ok (pin:=pin) (bl:=bl) hp hx h;exact ⟨p,B',hK,he,λF' Bf H' h1 h2 _=>hh F' Bf H' h1 h2⟩
 | .ptr j o,x,B,K,val,hx,h=>by
  cases x <;> simp only [zr,reduceCtorEq] at h;obtain ⟨h1,h2⟩:=zB h
  have:=xi h1
  subst this;obtain ⟨B',hK,he,hb⟩:=xt h2;refine ⟨(),B',hK,he,λF' Bf H' he' hf hr=>?_⟩;simp only [zA,w6] at hx ⊢;obtain ⟨hl,g,hg,hv⟩:=hx;simp only [zu,Option.isSome_iff_exists] at hr;obtain ⟨s,hs⟩:=hr;exact ⟨(hf.kin j s hs).live,g,by rw [vj he' hb];exact hg,hv⟩
 | .mp j,x,B,K,val,hx,h=>by
  cases x <;> simp only [zr,reduceCtorEq] at h;obtain ⟨B',hK,he,hb⟩:=xt h;refine ⟨(),B',hK,he,λF' Bf H' he' hf hr=>?_⟩;simp only [zA,w6] at hx ⊢;obtain ⟨hl,g,hg,hv⟩:=hx;simp only [zu,Option.isSome_iff_exists] at hr;obtain ⟨s,hs⟩:=hr;exact ⟨(hf.kin j s hs).live,g,by rw [vj he' hb];exact hg,hv⟩
 | .mptr j o,x,B,K,val,hx,h=>by
  simp only [zr] at h;obtain ⟨p,B',hK,he,hh⟩:=packMp_ok (pin:=pin) (bl:=bl) hx h;exact ⟨p,B',hK,he,hh⟩
 | .own j,x,B,K,val,hx,h=>by
  simp only [zr] at h;obtain ⟨B',hK,he,hh⟩:=packOwn_ok (pin:=pin) (bl:=bl) hx h;exact ⟨(),B',hK,he,hh⟩
 | .win j,x,B,K,val,hx,h=>by
  simp only [zr] at h;obtain ⟨p,B',hK,he,hh⟩:=packWin_ok (pin:=pin) (bl:=bl) hx h;exact ⟨p,B',hK,he,hh⟩
 | .fn f cs,x,B,K,val,hx,h=>by
  cases x <;> simp only [zr,reduceCtorEq] at h;obtain ⟨h1,h2⟩:=zB h
  have:=xi h1
  subst this;simp only [zA] at hx;obtain ⟨vs,hv,hvs⟩:=hx;obtain ⟨p,B',hK,he,hh⟩:=tO hp cs _ B K vs hvs h2;refine ⟨p,B',hK,he,λF' Bf H' he' hf hr=>?_⟩;simp only [w6,zA];exact ⟨vs,hv,hh F' Bf H' he' hf hr⟩
 | .agg cs,x,B,K,val,hx,h=>by
  cases x <;> simp only [zr,reduceCtorEq] at h;simp only [zA] at hx;obtain ⟨vs,hv,hvs⟩:=hx;obtain ⟨p,B',hK,he,hh⟩:=tO hp cs _ B K vs hvs h;refine ⟨p,B',hK,he,λF' Bf H' he' hf hr=>?_⟩;simp only [w6,zA];exact ⟨vs,hv,hh F' Bf H' he' hf hr⟩
 | .tup cs,x,B,K,val,hx,h=>by
  cases x <;> simp only [zr,reduceCtorEq] at h;simp only [zA] at hx;obtain ⟨vs,hv,hvs⟩:=hx;obtain ⟨p,B',hK,he,hh⟩:=tO hp cs _ B K vs hvs h;refine ⟨p,B',hK,he,λF' Bf H' he' hf hr=>?_⟩;simp only [w6,zA];exact ⟨vs,hv,hh F' Bf H' he' hf hr⟩
 | .ifc t v,x,B,K,val,hx,h=>by
  cases x <;> simp only [zr,reduceCtorEq] at h;obtain ⟨h1,h2⟩:=zB h
  have:=xi h1
  subst this;simp only [zA] at hx;obtain ⟨u,hv,hu⟩:=hx;obtain ⟨p,B',hK,he,hh⟩:=packV_ok hp v _ B K u hu h2;refine ⟨p,B',hK,he,λF' Bf H' he' hf hr=>?_⟩;simp only [w6,zA];exact ⟨u,hv,hh F' Bf H' he' hf hr⟩
 | .may _ _,x,B,K,val,hx,h=>by cases x <;> simp [zr] at h
 | .nil,x,B,K,val,hx,h=>by cases x <;> simp [zr] at h
 | .cons _ _,x,B,K,val,hx,h=>by cases x <;> simp [zr] at h
 | .nilp,x,B,K,val,hx,h=>by
  cases x <;> simp only [zr,reduceCtorEq] at h;obtain ⟨h1,h2⟩:=zB h;simp only [zA] at hx;exact ⟨(),B,h2,Ext.refl B,λ_ _ _ _ _ _=>by simp only [w6,zA];rw [hx,isNilPtr_ok h1]⟩
 | .bad,x,B,K,val,hx,h=>by
  refine ⟨(),B,?_,Ext.refl B,λ_ _ _ _ _ _=>by simp [w6,zA]⟩
  cases x <;> exact h
 | .kb y,x,B,K,val,hx,h=>by
  cases x <;> simp only [zr,reduceCtorEq] at h;obtain ⟨h1,h2⟩:=zB h
  have:=eq_of_beq h1
  subst this;exact ⟨(),B,h2,Ext.refl B,λ_ _ _ _ _ _=>hx⟩
 | .ki k n,x,B,K,val,hx,h=>by
  cases x <;> simp only [zr,reduceCtorEq] at h;obtain ⟨h1,h2⟩:=zB h;simp only [yR,xX] at h1;obtain ⟨rfl,rfl⟩:=h1;exact ⟨(),B,h2,Ext.refl B,λ_ _ _ _ _ _=>hx⟩
 | .ks l,x,B,K,val,hx,h=>by
  cases x <;> simp only [zr,reduceCtorEq] at h;obtain ⟨h1,h2⟩:=zB h
  have:=of_decide_eq_true h1
  subst this;exact ⟨(),B,h2,Ext.refl B,λ_ _ _ _ _ _=>hx⟩
theorem tO (hp:Hp F μ H nx w):∀ (v:VSh) (x:List AV) (B:Bd) (K:v.den->Bd->Option α) (vals:List Value),zC w (Not F μ H) μ H x vals->zt H v x B K=some r ->
  ∃ p B',K p B'=some r/\Ext B B'/\∀ (F':Frm T) Bf H',Ext B' Bf->Fin F F' μ pin H bl Bf H'->zu bl v=true->zC w (Not F' (wF μ Bf) H') (wF μ Bf) H' (unL v p) vals
 | .nil,[],B,K,vals,hx,h=>by
  simp only [zt] at h;exact ⟨(),B,h,Ext.refl B,λ_ _ _ _ _ _=>hx⟩
 | .cons v v2,x::xs,B,K,vals,hx,h=>by
  simp only [zt] at h;simp only [zC] at hx;obtain ⟨val,vr,rfl,h1,h2⟩:=hx;obtain ⟨p,B1,hK1,he1,hh1⟩:=packV_ok hp v x B _ val h1 h;obtain ⟨q,B2,hK2,he2,hh2⟩:=tO hp v2 xs B1 _ vr h2 hK1;refine ⟨(p,q),B2,hK2,he1.trans he2,λF' Bf H' he hf hr=>?_⟩;simp only [zu,yR] at hr;simp only [unL,zC];exact ⟨val,vr,rfl,hh1 F' Bf H' (he2.trans he) hf hr.1,hh2 F' Bf H' he hf hr.2⟩
 | .nil,_::_,B,K,vals,hx,h=>by simp [zt] at h
 | .cons _ _,[],B,K,vals,hx,h=>by simp [zt] at h
 | .i _,x,B,K,vals,hx,h=>by cases x <;> simp [zt] at h
 | .u,x,B,K,vals,hx,h=>by cases x <;> simp [zt] at h
 | .b,x,B,K,vals,hx,h=>by cases x <;> simp [zt] at h
 | .s,x,B,K,vals,hx,h=>by cases x <;> simp [zt] at h
 | .sl _,x,B,K,vals,hx,h=>by cases x <;> simp [zt] at h
 | .ptr _ _,x,B,K,vals,hx,h=>by cases x <;> simp [zt] at h
 | .ifc _ _,x,B,K,vals,hx,h=>by cases x <;> simp [zt] at h
 | .may _ _,x,B,K,vals,hx,h=>by cases x <;> simp [zt] at h
 | .own _,x,B,K,vals,hx,h=>by cases x <;> simp [zt] at h
 | .win _,x,B,K,vals,hx,h=>by cases x <;> simp [zt] at h
 | .mp _,x,B,K,vals,hx,h=>by cases x <;> simp [zt] at h
 | .mptr _ _,x,B,K,vals,hx,h=>by cases x <;> simp [zt] at h
 | .fn _ _,x,B,K,vals,hx,h=>by cases x <;> simp [zt] at h
 | .agg _,x,B,K,vals,hx,h=>by cases x <;> simp [zt] at h
 | .tup _,x,B,K,vals,hx,h=>by cases x <;> simp [zt] at h
 | .nilp,x,B,K,vals,hx,h=>by cases x <;> simp [zt] at h
 | .bad,x,B,K,vals,hx,h=>by cases x <;> simp [zt] at h
 | .kb _,x,B,K,vals,hx,h=>by cases x <;> simp [zt] at h
 | .ki _ _,x,B,K,vals,hx,h=>by cases x <;> simp [zt] at h
 | .ks _,x,B,K,vals,hx,h=>by cases x <;> simp [zt] at h
end
end
end Go.Ev
namespace Go.Ev
open Go
section
variable {T:Tb} {F F':Frm T} {μ:Nat->Option Nat} {H:Nat->Blk} {nx:Nat} {w:World} {α:Type} {r:α} {pin:Nat} {bl:List (Nat×BSh)}
theorem pinned {j b:Nat} (h:(Nat.ble pin j||Nat.beq b j)=true):j<pin->b=j:=λhj=>by
 rw [Bool.or_eq_true] at h;rcases h with h | h
 ·have:=Nat.le_of_ble_eq_true h;omega
 ·exact xi h
theorem yh {B:Bd} {j:Nat} {b:Option Nat} {K:Bd->Option α} (h:vA B j b K=some r):∃ B',K B'=some r/\Ext B B':=by
 obtain ⟨B',h1,h2,_⟩:=xt h;exact ⟨B',h1,h2⟩
theorem ul:∀ (v:VSh) {B:Bd} {K:v.den->Bd->Option α},nilV v B K=some r->∃ q B',K q B'=some r/\Ext B B'
 | .i _,B,K,h=>⟨_,B,h,Ext.refl B⟩
 | .u,B,K,h=>⟨_,B,h,Ext.refl B⟩
 | .b,B,K,h=>⟨_,B,h,Ext.refl B⟩
 | .s,B,K,h=>⟨_,B,h,Ext.refl B⟩
 | .sl _,B,K,h=>⟨_,B,h,Ext.refl B⟩
 | .ptr _ _,B,K,h=>by obtain ⟨B',h1,h2⟩:=yh h;exact ⟨(),B',h1,h2⟩
 | .own _,B,K,h=>by obtain ⟨B',h1,h2⟩:=yh h;exact ⟨(),B',h1,h2⟩
 | .win _,B,K,h=>by obtain ⟨B',h1,h2⟩:=yh h;exact ⟨(0,0),B',h1,h2⟩
 | .mp _,B,K,h=>by obtain ⟨B',h1,h2⟩:=yh h;exact ⟨(),B',h1,h2⟩
 | .mptr _ _,B,K,h=>by obtain ⟨B',h1,h2⟩:=yh h;exact ⟨false,B',h1,h2⟩
 | .fn _ c,B,K,h=>ul c h
 | .agg c,B,K,h=>ul c h
 | .tup c,B,K,h=>ul c h
 | .ifc _ c,B,K,h=>ul c h
 | .may c _,B,K,h=>by
  obtain ⟨q,B',h1,h2⟩:=ul c h;exact ⟨Sum.inl q,B',h1,h2⟩
 | .nil,B,K,h=>⟨_,B,h,Ext.refl B⟩
 | .cons v w,B,K,h=>by
  obtain ⟨p,B1,h1,e1⟩:=ul v h;obtain ⟨q,B2,h2,e2⟩:=ul w h1;exact ⟨(p,q),B2,h2,e1.trans e2⟩
 | .nilp,B,K,h=>⟨_,B,h,Ext.refl B⟩
 | .bad,B,K,h=>⟨_,B,h,Ext.refl B⟩
 | .kb _,B,K,h=>⟨_,B,h,Ext.refl B⟩
 | .ki _ _,B,K,h=>⟨_,B,h,Ext.refl B⟩
 | .ks _,B,K,h=>⟨_,B,h,Ext.refl B⟩
 | .fz _,B,K,h=>⟨_,B,h,Ext.refl B⟩
theorem packSl_cps {t:Ty} {x:AV} {B:Bd} {K:List t.den->Bd->Option α} (h:packSl H t x B K=some r):∃ q B',K q B'=some r/\Ext B B':=by
 have zext:∀ b,Ext B ⟨B.m,b::B.z,B.y⟩:=λb=>⟨λ_ _ h=>h,λ_ h=>List.mem_cons_of_mem _ h,λ_ h=>h⟩
 have yext:∀ b,Ext B ⟨B.m,b::B.z,b::B.y⟩:=λb=>⟨λ_ _ h=>h,λ_ h=>List.mem_cons_of_mem _ h,λ_ h=>List.mem_cons_of_mem _ h⟩
 unfold packSl at h;split at h
 ·split at h
  ·obtain ⟨l,hl⟩:=uD h;exact ⟨_,_,hl,zext _⟩
  ·split at h
   ·obtain ⟨l,hl⟩:=uD h;exact ⟨_,_,hl,zext _⟩
   ·obtain ⟨l,hl⟩:=uD (zB h).2;exact ⟨l,_,hl,yext _⟩
 ·obtain ⟨l,hl⟩:=uD (zB h).2;exact ⟨l,_,hl,yext _⟩
 ·split at h
  ·exact ⟨_,B,h,Ext.refl B⟩
  ·split at h
   ·exact ⟨_,B,h,Ext.refl B⟩
   ·cases h
 ·obtain ⟨l,hl⟩:=uD h;exact ⟨l,_,hl,Ext.refl B⟩
theorem packFp_cps {t:Ty} {b:Nat} {c:Bool} {B:Bd} {K:t.den->Bd->Option α} (h:packFp H t b c B K=some r):∃ q B',K q B'=some r/\Ext B B':=by
 unfold packFp at h;split at h
 ·obtain ⟨_,_,_,h⟩:=fzL_cps h;split at h
  ·exact ⟨_,_,h,many_extY B _⟩
  ·split at h
   ·exact ⟨_,_,(zB h).2,many_ext B _⟩
   ·cases h
 ·cases h
theorem packFz_cps {t:Ty} {x:AV} {B:Bd} {K:t.den->Bd->Option α} (h:packFz H t x B K=some r):∃ q B',K q B'=some r/\Ext B B':=by
 unfold packFz at h;split at h
 ·split at h
  ·exact ⟨_,B,h,Ext.refl B⟩
  ·split at h
   ·exact ⟨_,B,h,Ext.refl B⟩
   ·cases h
 ·exact packFp_cps h
 ·exact packFp_cps h
 ·cases h
mutual
theorem packV_cps:∀ (v:VSh) {x:AV} {B:Bd} {K:v.den->Bd->Option α},zr H v x B K=some r->∃ q B',K q B'=some r/\Ext B B'
 | .i k,x,B,K,h=>by
  cases x <;> simp only [zr,reduceCtorEq] at h;exact ⟨_,B,(zB h).2,Ext.refl B⟩
 | .u,x,B,K,h=>by
  cases x <;> simp only [zr,reduceCtorEq] at h;exact ⟨_,B,h,Ext.refl B⟩
 | .b,x,B,K,h=>by
  cases x <;> simp only [zr,reduceCtorEq] at h
  ·exact ⟨_,B,h,Ext.refl B⟩
  ·exact ⟨_,B,h,Ext.refl B⟩
 | .s,x,B,K,h=>by
  cases x <;> simp only [zr,reduceCtorEq] at h;exact ⟨_,B,h,Ext.refl B⟩
 | .sl t,x,B,K,h=>by
  simp only [zr] at h;exact packSl_cps h
 | .fz t,x,B,K,h=>by
  simp only [zr] at h;exact packFz_cps h
 | .ptr j o,x,B,K,h=>by
  cases x <;> simp only [zr,reduceCtorEq] at h;obtain ⟨B',h1,h2⟩:=yh (zB h).2;exact ⟨(),B',h1,h2⟩
 | .own j,x,B,K,h=>by
  simp only [zr] at h
  cases x <;> simp only [packOwn,reduceCtorEq] at h
  ·obtain ⟨B',h1,h2⟩:=yh (zB h).2;exact ⟨(),B',h1,h2⟩
  ·obtain ⟨B',h1,h2⟩:=yh h;exact ⟨(),B',h1,h2⟩
 | .win j,x,B,K,h=>by
  simp only [zr] at h
  cases x <;> simp only [packWin,reduceCtorEq] at h
  ·split at h
   ·obtain ⟨B',h1,h2⟩:=yh h;exact ⟨_,B',h1,h2⟩
   ·cases h
  ·obtain ⟨B',h1,h2⟩:=yh h;exact ⟨_,B',h1,h2⟩
 | .mp j,x,B,K,h=>by
  cases x <;> simp only [zr,reduceCtorEq] at h;obtain ⟨B',h1,h2⟩:=yh h;exact ⟨(),B',h1,h2⟩
 | .mptr j o,x,B,K,h=>by
  simp only [zr] at h
  cases x <;> simp only [packMp,reduceCtorEq] at h
  ·obtain ⟨B',h1,h2⟩:=yh (zB h).2;exact ⟨_,B',h1,h2⟩
  ·obtain ⟨B',h1,h2⟩:=yh (zB h).2;exact ⟨_,B',h1,h2⟩
  ·obtain ⟨B',h1,h2⟩:=yh (zB h).2;exact ⟨_,B',h1,h2⟩
 | .fn f cs,x,B,K,h=>by
  cases x <;> simp only [zr,reduceCtorEq] at h;exact tP cs (zB h).2
 | .agg cs,x,B,K,h=>by
  cases x <;> simp only [zr,reduceCtorEq] at h;exact tP cs h
 | .tup cs,x,B,K,h=>by
  cases x <;> simp only [zr,reduceCtorEq] at h;exact tP cs h
 | .ifc t v,x,B,K,h=>by
  cases x <;> simp only [zr,reduceCtorEq] at h;exact packV_cps v (zB h).2
 | .may _ _,x,B,K,h=>by cases x <;> simp [zr] at h
 | .nil,x,B,K,h=>by cases x <;> simp [zr] at h
 | .cons _ _,x,B,K,h=>by cases x <;> simp [zr] at h
 | .nilp,x,B,K,h=>by
  cases x <;> simp only [zr,reduceCtorEq] at h;exact ⟨_,B,(zB h).2,Ext.refl B⟩
 | .bad,x,B,K,h=>by
  refine ⟨(),B,?_,Ext.refl B⟩
  cases x <;> exact h
 | .kb y,x,B,K,h=>by
  cases x <;> simp only [zr,reduceCtorEq] at h;exact ⟨_,B,(zB h).2,Ext.refl B⟩
 | .ki k n,x,B,K,h=>by
  cases x <;> simp only [zr,reduceCtorEq] at h;exact ⟨_,B,(zB h).2,Ext.refl B⟩
 | .ks l,x,B,K,h=>by
  cases x <;> simp only [zr,reduceCtorEq] at h;exact ⟨_,B,(zB h).2,Ext.refl B⟩
theorem tP:∀ (v:VSh) {x:List AV} {B:Bd} {K:v.den->Bd->Option α},zt H v x B K=some r->∃ q B',K q B'=some r/\Ext B B'
 | .nil,[],B,K,h=>⟨(),B,by simpa only [zt] using h,Ext.refl B⟩
 | .cons v v2,x::xs,B,K,h=>by
  simp only [zt] at h;obtain ⟨p,B1,h1,e1⟩:=packV_cps v h;obtain ⟨q,B2,h2,e2⟩:=tP v2 h1;exact ⟨(p,q),B2,h2,e1.trans e2⟩
 | .nil,_::_,B,K,h=>by simp [zt] at h
 | .cons _ _,[],B,K,h=>by simp [zt] at h
 | .i _,x,B,K,h=>by cases x <;> simp [zt] at h
 | .u,x,B,K,h=>by cases x <;> simp [zt] at h
 | .b,x,B,K,h=>by cases x <;> simp [zt] at h
 | .s,x,B,K,h=>by cases x <;> simp [zt] at h
 | .sl _,x,B,K,h=>by cases x <;> simp [zt] at h
 | .ptr _ _,x,B,K,h=>by cases x <;> simp [zt] at h
 | .own _,x,B,K,h=>by cases x <;> simp [zt] at h
 | .win _,x,B,K,h=>by cases x <;> simp [zt] at h
 | .mp _,x,B,K,h=>by cases x <;> simp [zt] at h
 | .mptr _ _,x,B,K,h=>by cases x <;> simp [zt] at h
 | .fn _ _,x,B,K,h=>by cases x <;> simp [zt] at h
 | .agg _,x,B,K,h=>by cases x <;> simp [zt] at h
 | .tup _,x,B,K,h=>by cases x <;> simp [zt] at h
 | .nilp,x,B,K,h=>by cases x <;> simp [zt] at h
 | .bad,x,B,K,h=>by cases x <;> simp [zt] at h
 | .kb _,x,B,K,h=>by cases x <;> simp [zt] at h
 | .ki _ _,x,B,K,h=>by cases x <;> simp [zt] at h
 | .ks _,x,B,K,h=>by cases x <;> simp [zt] at h
end
theorem mapB_ok {β:Type} {r:β} {B:Bd} {j:Nat} {K:Option Nat->Bd->Option β} (h:mapB pin B j K=some r):∃ o B',K o B'=some r/\Ext B B'/\zw B'.m j=some o:=by
 unfold mapB at h
 cases hf:zw B.m j with
 | some o=>simp only [hf] at h;exact ⟨o,B,h,Ext.refl B,hf⟩
 | none =>
  simp only [hf] at h;obtain ⟨_,h2⟩:=zB h;obtain ⟨B',h3,h4,h5⟩:=xt h2;exact ⟨_,B',h3,h4,h5⟩
theorem packBlk_ok (hp:Hp F μ H nx w) {j:Nat}:∀ (s:BSh) {B:Bd} {K:s.den->Bd->Option α},packBlk pin H j s B K=some r ->
  ∃ q B',K q B'=some r/\Ext B B'/\From pin H B' j (unB s q)/\∀ (F':Frm T) Bf H',Ext B' Bf->Fin F F' μ pin H bl Bf H'->bshOK bl s=true->za w (Not F' (wF μ Bf) H') (wF μ Bf) H' j (unB s q)
 | .vars cs,B,K,h=>by
  simp only [packBlk] at h
  cases hf:zw B.m j with
  | none=>simp [hf] at h
  | some o =>
   cases o with
   | none =>
    simp only [hf] at h;obtain ⟨h1,h2⟩:=zB h;obtain ⟨q,B',hK,he⟩:=ul cs h2;have hf':=he.m j _ hf;refine ⟨q,B',hK,he,?_,λF' Bf H' he' hfin hok=>?_⟩
    ·unfold From;rw [hf'];exact ⟨Nat.le_of_ble_eq_true h1,.inr (.inl ⟨_,rfl⟩)⟩
    ·simp only [unB,za];refine .inl ?_;unfold wF;rw [he'.m j _ hf']
   | some b =>
    simp only [hf] at h;obtain ⟨h1,h2⟩:=zB h
    cases hb:H b <;> simp only [hb,reduceCtorEq] at h2;rename_i l;have hB:=hp.blk b;simp only [hb,za] at hB;rcases hB with hB | ⟨g,vs,hg,hvs,hrow,hroom⟩
    ·obtain ⟨q,B',hK,he⟩:=tP cs h2;have hf':=he.m j _ hf;refine ⟨q,B',hK,he,?_,λF' Bf H' he' hfin hok=>?_⟩
     ·unfold From;rw [hf'];exact ⟨by simp [hb],by simp [hb],λ_=>pinned h1,λ_=>by rw [hb];rfl,λh=>by cases h⟩
     ·simp only [unB,za];exact .inl (by rw [vj he' hf'];exact hB)
    obtain ⟨q,B',hK,he,hh⟩:=tO (pin:=pin) (bl:=bl) hp cs l B K vs hvs h2;have hf':=he.m j _ hf;refine ⟨q,B',hK,he,?_,λF' Bf H' he' hfin hok=>?_⟩
    ·unfold From;rw [hf'];exact ⟨by simp [hb],by simp [hb],λ_=>pinned h1,λ_=>by rw [hb];rfl,λh=>by cases h⟩
    ·simp only [unB,za];exact .inr ⟨g,vs,by rw [vj he' hf'];exact hg,hh F' Bf H' he' hfin hok,hrow,hroom⟩
 | .data t,B,K,h=>by
  simp only [packBlk] at h
  cases hf:zw B.m j with
  | none=>simp [hf] at h
  | some o =>
   cases o with
   | none =>
    simp only [hf] at h;obtain ⟨h1,h2⟩:=zB h;refine ⟨[],B,h2,Ext.refl B,?_,λF' Bf H' he' hfin hok=>?_⟩
    ·unfold From;rw [hf];exact ⟨Nat.le_of_ble_eq_true h1,.inl ⟨t,rfl⟩⟩
    ·simp only [unB,za];refine .inl ⟨?_,trivial⟩;unfold wF;rw [he'.m j _ hf]
   | some b =>
    simp only [hf] at h;have h2:=h
    cases hb:H b <;> simp only [hb,reduceCtorEq] at h2;rename_i t' l;obtain ⟨l2,h2,hs2,hl2,hu2,hr2⟩:=convD_ok h2;have hB:=hp.blk b;simp only [hb,za] at hB;refine ⟨l2,B,h2,Ext.refl B,?_,λF' Bf H' he' hfin hok=>?_⟩
    ·unfold From;rw [hf];refine ⟨by simp [hb],λt3 l3 h3=>by rw [hb] at h3;cases h3;exact ⟨t,l2,rfl,hs2,hl2⟩,λht=>absurd rfl ht,λht=>absurd rfl ht,λhu=>by rw [hb];exact hu2 hu⟩
    ·simp only [unB,za];rw [vj he' hf];rcases hB with ⟨hB,h0⟩ | ⟨g,g1,g2,g3⟩
     ·exact .inl ⟨hB,List.length_eq_zero_iff.1 (by rw [hl2,h0];rfl)⟩
     ·refine .inr ⟨g,g1,by rw [hs2,hl2];exact g2,λi hi=>?_⟩;obtain ⟨es,e1,e2,e3⟩:=g3 i (by rw [<- hl2];exact hi);exact ⟨es,by rw [hs2];exact e1,by rw [hs2];exact e2,(hr2 w _ i _ hi es e3).keep (vZ w) hfin.not⟩
 | .iter,B,K,h=>by
  simp only [packBlk] at h
  cases hf:zw B.m j with
  | none=>simp [hf] at h
  | some o =>
   cases o with
   | none=>simp [hf] at h
   | some b =>
    simp only [hf] at h;obtain ⟨h1,h2⟩:=zB h
    cases hb:H b <;> simp only [hb,reduceCtorEq] at h2;rename_i s pos;have hB:=hp.blk b;simp only [hb,za] at hB;refine ⟨(s,pos),B,h2,Ext.refl B,?_,λF' Bf H' he' hfin hok=>?_⟩
    ·unfold From;rw [hf];exact ⟨by simp [hb],by simp [hb],λ_=>pinned h1,λht=>absurd rfl ht,λh=>by cases h⟩
    ·simp only [unB,za];rw [vj he' hf];exact hB
 | .mapd kt vt ag,B0,K,h=>by
  simp only [packBlk] at h;obtain ⟨o,B,h,he0,hf⟩:=mapB_ok h
  ·cases o with
   | none =>
    simp only at h;obtain ⟨h1,h2⟩:=zB h;refine ⟨[],B,h2,he0,?_,λF' Bf H' he' hfin hok=>?_⟩
    ·unfold From;rw [hf];exact ⟨Nat.le_of_ble_eq_true h1,.inr (.inr ⟨_,_,_,_,rfl⟩)⟩
    ·simp only [unB,za];refine .inl ?_;unfold wF;rw [he'.m j _ hf]
   | some b =>
    simp only at h;have h2:=h
    cases hb:H b <;> simp only [hb,reduceCtorEq] at h2;rename_i kt' vt' ag' l;split at h2
    ·rename_i e1;split at h2
     ·rename_i e2;subst e1;subst e2;obtain ⟨h3,h4⟩:=zB h2
      have:=eq_of_beq h3
      subst this;have hB:=hp.blk b;simp only [hb,za] at hB;refine ⟨l,B,h4,he0,?_,λF' Bf H' he' hfin hok=>?_⟩
      ·unfold From;rw [hf];exact ⟨by simp [hb],by simp [hb],λht=>absurd rfl ht,λht=>absurd rfl ht,λh=>by cases h⟩
      ·simp only [unB,za];rw [vj he' hf];rcases hB with hB | ⟨g,es,c,g1,g2,g3,g4⟩
       ·exact .inl hB
       exact .inr ⟨g,es,c,g1,g2,g3,g4.keep (vZ w) hfin.not⟩
     ·cases h2
    ·cases h2
theorem beq_ne {j k:Nat} (h:j≠k):Nat.beq j k=false:=Bool.eq_false_iff.2 λe=>h (xi e)
theorem uk (hp:Hp F μ H nx w):∀ (l:List (Nat×BSh)) {B:Bd} {K:yc l->Bd->Option α},uN pin H l B K=some r ->
  ∃ q B',K q B'=some r/\Ext B B'/\(∀ j,zT l q j≠.dead->From pin H B' j (zT l q j))/\(∀ j s,zb l j=some s->Kin s (zT l q j))/\(∀ j,zT l q j≠.dead->∃ p∈l,p.1=j) /\
   ∀ (F':Frm T) Bf H',Ext B' Bf->Fin F F' μ pin H bl Bf H'->(l.all λp=>bshOK bl p.2)=true->∀ j,za w (Not F' (wF μ Bf) H') (wF μ Bf) H' j (zT l q j)
 | [],B,K,h=>by
  simp only [uN] at h;exact ⟨(),B,h,Ext.refl B,λj hj=>absurd rfl hj,λj s hs=>by simp [zb] at hs,λj hj=>absurd rfl hj,λ_ _ _ _ _ _ _=>by simp [zT,za]⟩
 | (j0,s0)::l,B,K,h=>by
  simp only [uN] at h;obtain ⟨p,B1,hK1,he1,hf1,hr1⟩:=packBlk_ok (bl:=bl) hp s0 h;obtain ⟨q,B2,hK2,he2,hf2,hk2,hm2,hr2⟩:=uk hp l hK1;refine ⟨(p,q),B2,hK2,he1.trans he2,λj hj=>?_,λj s hs=>?_,λj hj=>?_,λF' Bf H' he hfin hall j=>?_⟩
  ·simp only [zT] at hj ⊢;by_cases hjj:j=j0
   ·subst hjj;rw [zf];exact hf1.ext he2
   ·rw [zX hjj] at hj ⊢; exact hf2 j hj
  ·simp only [zb] at hs;simp only [zT];by_cases hjj:j=j0
   ·subst hjj;rw [zf];simp only [Nat.beq_refl,zI,y5] at hs;subst hs;exact unB_kin _ _
   ·rw [zX hjj];simp only [beq_ne (Ne.symm hjj),zK] at hs;exact hk2 j s hs
  ·simp only [zT] at hj;by_cases hjj:j=j0
   ·exact ⟨_,List.mem_cons_self,hjj.symm⟩
   ·rw [zX hjj] at hj;obtain ⟨p,hp,e⟩:=hm2 j hj;exact ⟨p,List.mem_cons_of_mem _ hp,e⟩
  ·simp only [List.all_cons,yR] at hall;simp only [zT];by_cases hjj:j=j0
   ·subst hjj;rw [zf];exact hr1 F' Bf H' (he2.trans he) hfin hall.1
   ·rw [zX hjj];exact hr2 F' Bf H' he hfin hall.2 j
theorem unV_noGd:∀ (v:VSh) (p:v.den),∀ j b x,w6 v p≠.gd j b x:=by
 intro v;induction v with
 | may v w h1 h2 =>
  intro p j b x
  show (match (p:v.den⊕w.den) with
   | .inl p=>w6 v p
   | .inr p=>.pan (w6 w p))≠_
  cases (show v.den⊕w.den from p) with
  | inl p=>exact h1 p j b x
  | inr p=>simp
 | _=>intro p j b x;simp [w6]
theorem packSlots_ok {S:St} {tmps:Array Value} (hp:Hp F μ S.H nx w) (hE:∀ t,zA w (Not F μ S.H) μ S.H (S.E t) (tmps.getD t undef)):∀ (l:List (Nat×VSh)) {B:Bd} {K:uJ l->Bd->Option α},tN S l B K=some r ->
  ∃ q B',K q B'=some r/\Ext B B'/\∀ (F':Frm T) Bf H',Ext B' Bf->Fin F F' μ pin S.H bl Bf H'->(l.all λp=>zu bl p.2)=true->∀ t,zA w (Not F' (wF μ Bf) H') (wF μ Bf) H' (wK l q t) (tmps.getD t undef)/\∀ j b x,wK l q t≠.gd j b x
 | [],B,K,h=>by
  simp only [tN] at h;exact ⟨(),B,h,Ext.refl B,λ_ _ _ _ _ _ _=>by simp [wK,zA]⟩
 | (t0,v)::l,B,K,h=>by
  simp only [tN] at h;obtain ⟨p,B1,hK1,he1,hr1⟩:=packV_ok (pin:=pin) (bl:=bl) hp v _ B _ _ (hE t0) h;obtain ⟨q,B2,hK2,he2,hr2⟩:=packSlots_ok hp hE l hK1;refine ⟨(p,q),B2,hK2,he1.trans he2,λF' Bf H' he hfin hall t=>?_⟩;simp only [List.all_cons,yR] at hall;simp only [wK];by_cases htt:t=t0
  ·subst htt;rw [wc];exact ⟨hr1 F' Bf H' (he2.trans he) hfin hall.1,unV_noGd v p⟩
  ·rw [xc htt];exact hr2 F' Bf H' he hfin hall.2 t
theorem Fin.hp {B:Bd} {H':Nat->Blk} {nx':Nat} (hp:Hp F μ H nx w) (hfin:Fin F F' μ pin H bl B H') (hb:∀ j,za w (Not F' (wF μ B) H') (wF μ B) H' j (H' j)) (hd:∀ j,nx'<=j->H' j=.dead)
  (far:∀ j b g,H' j≠.dead->zw B.m j=some (some b)->H b≠.dead->μ b=some g->¬ F' g) (flt:∀ g,F' g->g<w.heap.size):Hp F' (wF μ B) H' nx' w where
 blk:=hb
 lt:=λj g hl hg=>by
  obtain ⟨b,h1,h2⟩:=hfin.trk ⟨j,hl,hg⟩;exact hp.lt b g h1 h2
 inj:=λj j' g hl hl' hg hg'=>by
  have key:∀ k,H' k≠.dead->wF μ B k=some g->∃ b,zw B.m k=some (some b)/\H b≠.dead/\μ b=some g:=λk hk hm=>by
   have h3:=hfin.src k hk;unfold From at h3;unfold wF at hm
   cases hf:zw B.m k with
   | none=>simp [hf] at hm
   | some o =>
    cases o with
    | none=>simp [hf] at hm
    | some b=>simp only [hf] at hm h3;exact ⟨b,rfl,h3.1,hm⟩
  obtain ⟨b,b1,b2,b3⟩:=key j hl hg;obtain ⟨c,c1,c2,c3⟩:=key j' hl' hg'
  have:=hp.inj b c g b2 c2 b3 c3
  subst this;exact Bd.ok_inj hfin.ok b1 c1
 dead:=hd
 apart:=λj g hl hg=>by
  have h3:=hfin.src j hl;unfold From at h3;unfold wF at hg
  cases hf:zw B.m j with
  | none=>simp [hf] at hg
  | some o =>
   cases o with
   | none=>simp [hf] at hg
   | some b=>simp only [hf] at hg h3;exact far j b g hl hf h3.1 hg
 flt:=flt
 tab:=hp.tab
 tapart:=λj g hl hg=>by
  obtain ⟨b,h1,h2⟩:=hfin.trk ⟨j,hl,hg⟩;exact hp.tapart b g h1 h2
 mark:=λj g hl hg=>by
  have h3:=hfin.src j (λh=>by (rw [h] at hl;cases hl));unfold From at h3;unfold wF at hg
  cases hf:zw B.m j with
  | none=>simp [hf] at hg
  | some o =>
   cases o with
   | none=>simp [hf] at hg
   | some b=>simp only [hf] at hg h3;exact hp.mark b g (h3.2.2.2.2 hl) hg
 wfm:=λj g hl hg=>by
  have h3:=hfin.src j hl;unfold From at h3;unfold wF at hg
  cases hf:zw B.m j with
  | none=>simp [hf] at hg
  | some o =>
   cases o with
   | none=>simp [hf] at hg
   | some b=>simp only [hf] at hg h3;exact hp.wfm b g h3.1 hg
theorem Fin.pinned {B:Bd} {H':Nat->Blk} (hfin:Fin F F' μ pin H bl B H'):∀ j,j<pin->Pin (H' j) (H j) (wF μ B j) (μ j):=by
 intro j hj ht;have h3:=hfin.src j (λh=>ht (by rw [h];rfl));unfold From at h3;unfold wF
 cases hf:zw B.m j with
 | none=>simp [hf] at h3
 | some o =>
  cases o with
  | none=>simp only [hf] at h3;omega
  | some b =>
   simp only [hf] at h3 ⊢;obtain ⟨_,_,h4,h5,_⟩:=h3
   have:=h4 ht hj
   subst this;exact ⟨h5 ht,rfl⟩
structure Shaped {T:Tb} (F:Frm T) (pin:Nat) (μ:Nat->Option Nat) (S:St) (w:World) (μ':Nat->Option Nat) (S':St):Prop where
 hp:Hp F μ' S'.H S'.nx w
 trk:∀ g,wy μ' S'.H g->wy μ S.H g
 pinned:∀ j,j<pin->Pin (S'.H j) (S.H j) (μ' j) (μ j)
 le:pin<=S'.nx
theorem vy {S:St} {a:Act} {sh:Shape} {K:sh.den->Option α} (hr:Rg F μ [] S a w) (h:pack pin sh S K=some r) :
  ∃ p μ',K p=some r/\Shaped F pin μ S w μ' (zZ sh p)/\Rg F μ' [] (zZ sh p) a w:=by
 unfold pack at h;obtain ⟨hok,h1⟩:=zB h;simp only [shapeOK,yR] at hok;obtain ⟨⟨hpin,hslots⟩,hblks⟩:=hok
 have hE:∀ t,zA w (Not F μ S.H) μ S.H (S.E t) (a.tmps.getD t undef):=λt=>by
  have:=hr.e t
  cases hE:S.E t <;> simp only [hE] at this ⊢ <;> first | exact this | simp [zA]
 obtain ⟨p,B1,hK1,he1,hr1⟩:=packSlots_ok (pin:=pin) (bl:=sh.blks) hr.hp hE sh.slots h1;obtain ⟨q,B2,hK2,he2,hf2,hk2,hm2,hr2⟩:=uk (bl:=sh.blks) hr.hp sh.blks hK1;obtain ⟨hB,hK3⟩:=zB hK2;have hfin:Fin F F μ pin S.H sh.blks B2 (zT sh.blks q):=⟨hB,hf2,hk2,λ_ h=>.inl h,λ_ h=>.inl h,λb g _ hl hm hh=>hr.hp.apart b g hl hm (F.le g hh),λb g _ hl hm=>hr.hp.apart b g hl hm,rfl,rfl⟩
 have hall:(sh.blks.all λp=>bshOK sh.blks p.2)=true:=by
  simp only [blksOK,List.all_eq_true,yR] at hblks ⊢;exact λp hp=>(hblks p hp).2
 have hhp:Hp F (wF μ B2) (zT sh.blks q) sh.nx w:=hfin.hp hr.hp (λj=>hr2 F B2 _ (Ext.refl B2) hfin hall j) (λj hj=>by
  cases hd:zT sh.blks q j with
  | dead=>rfl
  | _ =>
   all_goals
    obtain ⟨p,hp,e⟩:=hm2 j (by simp [hd]);simp only [blksOK,List.all_eq_true,yR] at hblks
    have:=Nat.le_of_ble_eq_true (hblks p hp).1
    omega) (λ_ b g _ _ hl hm=>hr.hp.apart b g hl hm) hr.hp.flt
 have hrel:=λt=>hr1 F B2 (zT sh.blks q) he2 hfin hslots t
 refine ⟨(p,q),wF μ B2,hK3,⟨hhp,λg=>hfin.trk,hfin.pinned,Nat.le_of_ble_eq_true hpin⟩,hhp,λt=>?_,λt j b x hE=>absurd hE ((hrel t).2 j b x)⟩;obtain ⟨h1,h2⟩:=hrel t
 show (match wK sh.slots p t with
  | .gd j b x=>_
  | x=>zA w _ _ _ x (a.tmps.getD t undef))
 cases hu:wK sh.slots p t <;> rw [hu] at h1 h2 <;> first | exact h1 | exact absurd rfl (h2 _ _ _)
end
end Go.Ev
namespace Go.Ev
open Go
def exOf:Ex->Exit
 | .normal=>.normal
 | .exit id=>.exit id
 | .ret=>.ret
 | .pan=>.ret
def XR (ex:Ex) (e:Exit) (a' av:Act):Prop :=
 match ex with
 | .pan=>e=.panic [{ v:=av.tmps.getD 0 undef,recovered:=false }]/\a'.defers=av.defers
 | ex=>e=exOf ex/\a'=av
def wm:HT->Bool
 | .leaf=>true
 | _=>false
structure CP (lf:Bool) {T:Tb} (F:Frm T) (pin:Nat) (μ:Nat->Option Nat) (S:St) (w:World) (a:Act) (μ':Nat->Option Nat) (S':St) (w':World) (a':Act):Prop where
 chg:Chg (wy μ S.H) w w'
 new:∀ g,wy μ' S'.H g->wy μ S.H g\/w.heap.size<=g
 pinned:∀ j,j<pin->Pin (S'.H j) (S.H j) (μ' j) (μ j)
 le:pin<=S'.nx
 rg:Rg F μ' [] S' a' w'
 size:a'.tmps.size=a.tmps.size
 defers:a'.defers=a.defers
 pl:lf=true->∃ kl,S'.kl=S.kl++kl/\Pl F μ S.H S.nx w kl μ' S'.H S'.nx w'
section
variable {P:Program} {F:Frm (zJ P)} {μ μ' μ'':Nat->Option Nat} {S S' S'':St} {w w' w'':World} {a a' a'':Act} {α:Type} {r:α} {M:FuncId->Bool} {pin:Nat} {lf lf':Bool}
theorem CP.refl (hr:Rg F μ [] S a w) (hp:pin<=S.nx):CP lf F pin μ S w a μ S w a :=
 ⟨Chg.refl w,λ_ h=>.inl h,λ_ _=>Pin.refl _ _,hp,hr,rfl,rfl,λ_=>⟨[],by simp,Pl.refl hr.hp⟩⟩
theorem CP.trans (h:CP lf F pin μ S w a μ' S' w' a') (h':CP lf F pin μ' S' w' a' μ'' S'' w'' a''):CP lf F pin μ S w a μ'' S'' w'' a'' where
 chg:=h.chg.trans h'.chg λg hg ht=>(h.new g ht).resolve_right (by omega)
 new:=λg hg=>by
  rcases h'.new g hg with h1 | h1
  ·exact h.new g h1
  ·exact .inr (Nat.le_trans h.chg.size h1)
 pinned:=λj hj=>(h'.pinned j hj).trans (h.pinned j hj)
 le:=h'.le
 rg:=h'.rg
 size:=h'.size.trans h.size
 defers:=h'.defers.trans h.defers
 pl:=λhl=>by
  obtain ⟨kl,k1,k2⟩:=h.pl hl;obtain ⟨kl',k3,k4⟩:=h'.pl hl;exact ⟨kl++kl',by rw [k3,k1,lAs],k2.trans k4⟩
theorem CP.weak (h:CP lf F pin μ S w a μ' S' w' a') (hl:lf'=true->lf=true):CP lf' F pin μ S w a μ' S' w' a' :=
 ⟨h.chg,h.new,h.pinned,h.le,h.rg,h.size,h.defers,λhh=>h.pl (hl hh)⟩
theorem CP.shaped (hs:Shaped F pin μ S w μ' S') (hr:Rg F μ' [] S' a w):CP false F pin μ S w a μ' S' w a :=
 ⟨Chg.refl w,λg h=>.inl (hs.trk g h),hs.pinned,hs.le,hr,rfl,rfl,λh=>by cases h⟩
theorem CP.of_post {done':List Nat} (hpin:pin<=S.nx) (h:Post F μ S w a done' S' w' a'):∃ μ',CP true F pin μ S w a μ' ⟨λt=>yr (S'.E t),S'.H,S'.nx,S'.kl⟩ w' a':=by
 obtain ⟨⟨μ',kl,h1,h2,h3⟩,h4,h5⟩:=h;refine ⟨μ',h2.chg,h2.new,λj hj=>h2.pin j (Nat.lt_of_lt_of_le hj hpin),Nat.le_trans hpin h2.mono,⟨h3.hp,λt=>?_,λt j b x hE=>absurd hE (noGd_ne _ j b x)⟩,h4,h5,λ_=>⟨kl,h1,h2⟩⟩;have he:=h3.e t
 show (match yr (S'.E t) with
  | .gd j b x=>_
  | x=>zA w' _ _ _ x (a'.tmps.getD t undef))
 cases hE:S'.E t <;> simp only [hE] at he <;> first | exact he | simp [yr,zA]
theorem CP.of_ppost {x:AV} {val:Value} (hpin:pin<=S.nx) (h1:1<=a.tmps.size) (h:PPost F μ S.H S.nx S.kl w a x S' w' a' val) :
  ∃ μ',CP true F pin μ S w a μ' ⟨upd (λ_=>.bad) 0 (yr x),S'.H,S'.nx,S'.kl⟩ w' (a.put (some 0) val)/\(a.put (some 0) val).tmps.getD 0 undef=val:=by
 obtain ⟨⟨μ',kl,h2,h3,h4,h5⟩,_⟩:=h
 have hg:(a.put (some 0) val).tmps.getD 0 undef=val:=by
  simp only [Act.put];rw [getD_set (by omega),if_pos rfl]
 have hng:∀ t j b y,upd (λ_=>AV.bad) 0 (yr x) t≠.gd j b y:=λt j b y=>by
  by_cases ht:t=0
  ·subst ht;rw [wc];exact noGd_ne _ _ _ _
  ·rw [xc ht];simp
 refine ⟨μ',⟨h3.chg,h3.new,λj hj=>h3.pin j (Nat.lt_of_lt_of_le hj hpin),Nat.le_trans hpin h3.mono,⟨h4,λt=>?_,λt j b y hE=>absurd hE (hng t j b y)⟩,Act.put_size _ _ _,Act.put_defers' _ _ _,λ_=>⟨kl,h2,h3⟩⟩,hg⟩
 have hr:zA w' (Not F μ' S'.H) μ' S'.H (upd (λ_=>AV.bad) 0 (yr x) t) ((a.put (some 0) val).tmps.getD t undef):=by
  by_cases ht:t=0
  ·subst ht;rw [wc,hg];exact noGd_rel h5
  ·rw [xc ht];simp [zA]
 have hn:=hng t
 show (match upd (λ_=>AV.bad) 0 (yr x) t with
  | .gd j b y=>_
  | y=>zA w' _ _ _ y _)
 cases hE:upd (λ_=>AV.bad) 0 (yr x) t <;> rw [hE] at hr hn <;> first | exact hr | exact absurd rfl (hn _ _ _)
def EvOK (P:Program) (C:zW) (M:FuncId->Bool) (pin n:Nat) (c:Code) (h:HT):Prop :=
 ∀ (S:St) (α:Type) (K:Ex->St->Option α) (r:α),ev P C M pin n c h S K=some r->∀ (F:Frm (zJ P)) μ w a,n=a.tmps.size->pin<=S.nx->Rg F μ [] S a w ->
  c.wp P (λe a' w'=>∃ ex S' μ' av,XR ex e a' av/\K ex S'=some r/\CP (wm h) F pin μ S w a μ' S' w' av) a w
def JOK (P:Program) (C:zW) (M:FuncId->Bool) (pin n:Nat) (c:Code) (h:HT):Prop :=
 ∀ (S:St) (α:Type) (K:Ex->St->Option α) (r:α),xp pin h (λh=>ev P C M pin n c h S) K=some r->∀ (F:Frm (zJ P)) μ w a,n=a.tmps.size->pin<=S.nx->Rg F μ [] S a w ->
  c.wp P (λe a' w'=>∃ ex S' μ' av,XR ex e a' av/\K ex S'=some r/\CP (wm h) F pin μ S w a μ' S' w' av) a w
theorem eqEx_eq:∀ {x y:Ex},eqEx x y=true->x=y
 | .normal,.normal,_=>rfl
 | .ret,.ret,_=>rfl
 | .pan,.pan,_=>rfl
 | .exit _,.exit _,h=>by rw [xi h]
 | .normal,.ret,h=>by cases h
 | .normal,.exit _,h=>by cases h
 | .normal,.pan,h=>by cases h
 | .ret,.normal,h=>by cases h
 | .ret,.exit _,h=>by cases h
 | .ret,.pan,h=>by cases h
 | .exit _,.normal,h=>by cases h
 | .exit _,.ret,h=>by cases h
 | .exit _,.pan,h=>by cases h
 | .pan,.normal,h=>by cases h
 | .pan,.ret,h=>by cases h
 | .pan,.exit _,h=>by cases h
theorem vW {ex:Ex} (hr:Rg F μ [] S a w):∀ (o:yD) {K:ym o->Option α},xF pin S ex o K=some r ->
  ∃ (q:ym o) (S':St) (μ':Nat->Option Nat),K q=some r/\(∀ (β:Type) (K':Ex->St->Option β),vi o q K'=K' ex S')/\Shaped F pin μ S w μ' S'/\Rg F μ' [] S' a w
 | [],K,h=>by simp [xF] at h
 | [(e,s)],K,h=>by
  simp only [xF] at h;obtain ⟨h1,h2⟩:=zB h;obtain ⟨p,μ',h3,h4,h5⟩:=vy hr h2;exact ⟨p,_,μ',h3,λβ K'=>by rw [<- eqEx_eq h1];rfl,h4,h5⟩
 | (e,s)::y::o,K,h=>by
  simp only [xF] at h
  cases he:eqEx e ex with
  | true =>
   simp only [he,zI] at h;obtain ⟨p,μ',h3,h4,h5⟩:=vy hr h;exact ⟨.inl p,_,μ',h3,λβ K'=>by rw [<- eqEx_eq he];rfl,h4,h5⟩
  | false =>
   simp only [he,zK] at h;obtain ⟨q,S',μ',h3,h4,h5,h6⟩:=vW hr (y::o) h;exact ⟨.inr q,S',μ',h3,λβ K'=>h4 β K',h5,h6⟩
def xY:HT->HT
 | .join _ h=>h
 | h=>h
theorem xy {C:zW} {n:Nat} {c:Code} {h:HT} (hok:EvOK P C M pin n c (xY h)):JOK P C M pin n c h:=by
 intro S α K r he F μ w a hn hp hr
 cases h with
 | join o h =>
  simp only [xp] at he
  cases hq:(ev P C M pin n c h S λex S=>xF pin S ex o some) with
  | none=>simp [hq] at he
  | some q =>
   simp only [hq,zE] at he;refine wp_mono (hok S _ _ _ hq F μ w a hn hp hr) λe a' w' ⟨ex,S',μ',av,h1,h2,h3⟩=>?_
   obtain ⟨q',S2,μ2,h4,h5,h6,h7⟩:=vW h3.rg o h2
   cases h4;exact ⟨ex,S2,μ2,av,h1,by rw [<- h5 α K];exact he,(h3.weak (λh=>by cases h)).trans (CP.shaped h6 h7)⟩
 | _=>exact hok S α K r he F μ w a hn hp hr
structure LoopRec where
 c:Code
 h:HT
 sh:Shape
 o:yD
 run:sh.den->Option (ym o)
def SemOK (P:Program) (pin n:Nat) (c:Code) (sh:Shape) (o:yD) (run:sh.den->Option (ym o)):Prop :=
 ∀ (p:sh.den) (q:ym o),run p=some q->∀ (F:Frm (zJ P)) μ w a,n=a.tmps.size->pin<=sh.nx->Rg F μ [] (zZ sh p) a w ->
  c.wp P (λe a' w'=>∃ ex S' μ' av,XR ex e a' av/\(∀ (β:Type) (K:Ex->St->Option β),vi o q K=K ex S')/\CP false F pin μ (zZ sh p) w a μ' S' w' av) a w
def LoopRec.OK (P:Program) (C:zW) (M:FuncId->Bool) (pin n:Nat) (l:LoopRec):Prop :=
 match l.h with
 | .loop _ _ _ _=>SemOK P pin n l.c l.sh l.o l.run
 | _=>∀ p r,l.run p=some r->∃ m,iter (round P C M pin n l.c l.h l.sh l.o) m p=some r
theorem LoopRec.OK.iter {C:zW} {n:Nat} {l:LoopRec} (h:l.OK P C M pin n) (hn:isLoopH l.h=false):∀ p r,l.run p=some r->∃ m,Go.Ev.iter (round P C M pin n l.c l.h l.sh l.o) m p=some r:=by
 unfold LoopRec.OK at h
 cases hh:l.h <;> simp only [hh] at h hn ⊢ <;> first | exact h | cases hn
def zx:Code->HT->List LoopRec
 | .seq a b,h=>match h with
  | .loop sh o run h'=>[⟨.seq a b,.loop sh o run h',sh,o,run⟩]
  | h=>zx a (xY h.fst)++zx b (xY h.snd)
 | .cond _ a b,h=>zx a (xY h.fst)++zx b (xY h.snd)
 | .block id c,h=>match h with
  | .loop sh o run h'=>[⟨.block id c,.loop sh o run h',sh,o,run⟩]
  | h=>zx c (xY h.fst)
 | .scope c,h=>zx c (xY h.fst)
 | .loop c,.loop sh o run h=>⟨c,h,sh,o,run⟩::zx c (xY h)
 | _,_=>[]
theorem wp_loop_n {c:Code} {Q:Exit->Act->World->Prop} (I:Nat->Act->World->Prop) (h0:∀ a w,¬ I 0 a w)
  (round:∀ m a w,I (m+1) a w->c.wp P (Exit.then (λa' w'=>I m a' w') Q) a w) (m:Nat) (h:I m a w):(Code.loop c).wp P Q a w:=by
 intro b k cs
 have key:∀ m a w,I m a w->∃ e a' w',Q e a' w'/\Arrives P (lone (b.at a (.code c::.inLoop c::k)) cs w) b k cs e a' w':=by
  intro m;induction m with
  | zero=>exact λa w h=>absurd h (h0 a w)
  | succ m ih =>
   intro a w hI;obtain ⟨e,a₁,w₁,hq,harr⟩:=round m a w hI b (.inLoop c::k) cs
   cases e with
   | normal =>
    obtain ⟨e₂,a₂,w₂,hq₂,harr₂⟩:=ih a₁ w₁ hq;exact ⟨e₂,a₂,w₂,hq₂,.of_steps (Steps.trans harr (.one step_inLoop)) harr₂⟩
   | exit id=>exact ⟨_,a₁,w₁,hq,.pass (x:=.inLoop c) rfl (λ_ _=>.inl (by simp)) harr⟩
   | goto l=>exact ⟨_,a₁,w₁,hq,.pass (x:=.inLoop c) rfl (λ_ _=>.inl (by simp)) harr⟩
   | ret=>exact ⟨_,a₁,w₁,hq,.pass (x:=.inLoop c) rfl (λ_ _=>.inl (by simp)) harr⟩
   | panic ch=>exact ⟨_,a₁,w₁,hq,.pass (x:=.inLoop c) rfl (λ_ _=>.inl (by simp)) harr⟩
   | outgrown=>exact ⟨_,a₁,w₁,hq,.pass (x:=.inLoop c) rfl (λ_ _=>.inl (by simp)) harr⟩
 obtain ⟨e,a',w',hq,harr⟩:=key m a w h;exact ⟨e,a',w',hq,.of_steps (.one step_loop) harr⟩
theorem leaf_fst {h:HT} (hl:wm h=true):wm h.fst=true:=by cases h <;> first | rfl | cases hl
theorem leaf_snd {h:HT} (hl:wm h=true):wm h.snd=true:=by cases h <;> first | rfl | cases hl
theorem ev_ok (hm:P.follows .mixedOrders=true) {C:zW} (hC:xw P C M) {n:Nat}:∀ (c:Code) (h:HT),(∀ x∈zx c h,x.OK P C M pin n)->EvOK P C M pin n c h
 | .skip,h,_=>by
  intro S α K r he F μ w a hn hp hr;simp only [ev] at he;exact wp_skip ⟨.normal,S,μ,_,⟨rfl,rfl⟩,he,CP.refl hr hp⟩
 | .exit id,h,_=>by
  intro S α K r he F μ w a hn hp hr;simp only [ev] at he;exact wp_exit ⟨.exit id,S,μ,_,⟨rfl,rfl⟩,he,CP.refl hr hp⟩
 | .ret,h,_=>by
  intro S α K r he F μ w a hn hp hr;simp only [ev] at he;exact wp_ret ⟨.ret,S,μ,_,⟨rfl,rfl⟩,he,CP.refl hr hp⟩
 | .region id ops draw,h,_=>by
  intro S α K r he F μ w a hn hp hr;simp only [ev] at he
  cases hts:turnsOf P M ops draw with
  | none=>simp [hts] at he
  | some ts =>
   simp only [hts] at he;rw [hn] at he;refine evRegion_ok hm hC hr hts he (λc a1 a2 w1 hd h=>?_) (λx S' w' a' val hK hpp=>?_) λS' w' a' done' hK hpost=>?_
   ·obtain ⟨ex,S',μ',av,h1,h2⟩:=h
    cases ex with
    | pan=>exact ⟨.pan,S',μ',av,⟨h1.1,hd.trans h1.2⟩,h2⟩
    | normal=>exact absurd h1.1 (by simp [exOf])
    | exit id=>exact absurd h1.1 (by simp [exOf])
    | ret=>exact absurd h1.1 (by simp [exOf])
   ·obtain ⟨h1,h2⟩:=zB hK;obtain ⟨μ',hcp,hg⟩:=CP.of_ppost hp (Nat.le_of_ble_eq_true h1) hpp;exact ⟨.pan,_,μ',_,⟨by rw [hg],hpp.defers.trans (Act.put_defers' _ _ _).symm⟩,h2,hcp.weak λ_=>rfl⟩
   ·obtain ⟨μ',hcp⟩:=CP.of_post hp hpost;exact ⟨.normal,_,μ',_,⟨rfl,rfl⟩,hK,hcp.weak λ_=>rfl⟩
 | .seq x y,h,hl=>by
  intro S α K r he F μ w a hn hp hr;by_cases hlo:∃ sh o run h',h=.loop sh o run h'
  ·obtain ⟨sh,o,run,h',rfl⟩:=hlo;simp only [ev] at he;have hs:SemOK P pin n (.seq x y) sh o run:=hl ⟨.seq x y,.loop sh o run h',sh,o,run⟩ (by simp [zx]);obtain ⟨p,μ1,h1,h2,h3⟩:=vy hr he
   cases hrun:run p with
   | none=>simp [hrun] at h1
   | some q =>
    simp only [hrun,zE] at h1;refine wp_mono (hs p q hrun F μ1 w a hn h2.le h3) λe a' w' ⟨ex,S',μ',av,g1,g2,g3⟩=>?_
    exact ⟨ex,S',μ',av,g1,by rw [<- g2 α K];exact h1,(CP.shaped h2 h3).trans g3⟩
  have he:(xp pin h.fst (λh=>ev P C M pin n x h S) λex S'=>match ex with
   | .normal=>xp pin h.snd (λh=>ev P C M pin n y h S') K
   | ex=>K ex S')=some r:=by
   cases h <;> first | exact absurd ⟨_,_,_,_,rfl⟩ hlo | exact he
  have hll:zx (.seq x y) h=zx x (xY h.fst)++zx y (xY h.snd):=by
   cases h <;> first | exact absurd ⟨_,_,_,_,rfl⟩ hlo | rfl
  have hx:=xy (ev_ok hm hC x (xY h.fst) λz hz=>hl z (by rw [hll];simp [hz]));have hy:=xy (ev_ok hm hC y (xY h.snd) λz hz=>hl z (by rw [hll];simp [hz]));refine wp_seq (wp_mono (hx S α _ r he F μ w a hn hp hr) λe a' w' ⟨ex,S',μ',av,h1,h2,h3⟩=>?_);have h3':CP (wm h) F pin μ S w a μ' S' w' av:=h3.weak leaf_fst
  cases ex with
  | normal =>
   obtain ⟨rfl,rfl⟩:=h1;refine wp_mono (hy S' α K r h2 F μ' w' a' (hn.trans h3.size.symm) h3.le h3.rg) λe2 a2 w2 ⟨ex2,S2,μ2,av2,g1,g2,g3⟩=>?_
   exact ⟨ex2,S2,μ2,av2,g1,g2,h3'.trans (g3.weak leaf_snd)⟩
  | exit id=>obtain ⟨rfl,rfl⟩:=h1;exact ⟨.exit id,S',μ',_,⟨rfl,rfl⟩,h2,h3'⟩
  | ret=>obtain ⟨rfl,rfl⟩:=h1;exact ⟨.ret,S',μ',_,⟨rfl,rfl⟩,h2,h3'⟩
  | pan=>obtain ⟨rfl,hd⟩:=h1;exact ⟨.pan,S',μ',_,⟨rfl,hd⟩,h2,h3'⟩
 | .cond c x y,h,hl=>by
  intro S α K r he F μ w a hn hp hr;simp only [ev] at he;have hx:=xy (ev_ok hm hC x (xY h.fst) λz hz=>hl z (by simp [zx,hz]));have hy:=xy (ev_ok hm hC y (xY h.snd) λz hz=>hl z (by simp [zx,hz]))
  have hX:xp pin h.fst (λh=>ev P C M pin n x h S) K=some r->x.wp P (λe a' w'=>∃ ex S' μ' av,XR ex e a' av/\K ex S'=some r/\CP (wm h) F pin μ S w a μ' S' w' av) a w:=λhe =>
   wp_mono (hx S α K r he F μ w a hn hp hr) λe a' w' ⟨ex,S',μ',av,h1,h2,h3⟩=>⟨ex,S',μ',av,h1,h2,h3.weak leaf_fst⟩
  have hY:xp pin h.snd (λh=>ev P C M pin n y h S) K=some r->y.wp P (λe a' w'=>∃ ex S' μ' av,XR ex e a' av/\K ex S'=some r/\CP (wm h) F pin μ S w a μ' S' w' av) a w:=λhe =>
   wp_mono (hy S α K r he F μ w a hn hp hr) λe a' w' ⟨ex,S',μ',av,h1,h2,h3⟩=>⟨ex,S',μ',av,h1,h2,h3.weak leaf_snd⟩
  have hc:=(opd_ok hr.e c).rel
  cases hcv:opd S.E c <;> simp only [hcv,reduceCtorEq] at he hc
  case b q =>
   simp only [zA] at hc
   cases q with
   | true=>exact wp_cond_true hc (hX he)
   | false=>exact wp_cond_false hc (hY he)
  case kb q =>
   simp only [zA] at hc
   cases q with
   | true=>exact wp_cond_true hc (hX he)
   | false=>exact wp_cond_false hc (hY he)
 | .block id c,h,hl=>by
  intro S α K r he F μ w a hn hp hr;by_cases hlo:∃ sh o run h',h=.loop sh o run h'
  ·obtain ⟨sh,o,run,h',rfl⟩:=hlo;simp only [ev] at he;have hs:SemOK P pin n (.block id c) sh o run:=hl ⟨.block id c,.loop sh o run h',sh,o,run⟩ (by simp [zx]);obtain ⟨p,μ1,h1,h2,h3⟩:=vy hr he
   cases hrun:run p with
   | none=>simp [hrun] at h1
   | some q =>
    simp only [hrun,zE] at h1;refine wp_mono (hs p q hrun F μ1 w a hn h2.le h3) λe a' w' ⟨ex,S',μ',av,g1,g2,g3⟩=>?_
    exact ⟨ex,S',μ',av,g1,by rw [<- g2 α K];exact h1,(CP.shaped h2 h3).trans g3⟩
  have he:(xp pin h.fst (λh=>ev P C M pin n c h S) λex S'=>match ex with
   | .exit id'=>cond (Nat.beq id' id) (K .normal S') (K (.exit id') S')
   | ex=>K ex S')=some r:=by
   cases h <;> first | exact absurd ⟨_,_,_,_,rfl⟩ hlo | exact he
  have hll:zx (.block id c) h=zx c (xY h.fst):=by
   cases h <;> first | exact absurd ⟨_,_,_,_,rfl⟩ hlo | rfl
  have hx:=xy (ev_ok hm hC c (xY h.fst) λz hz=>hl z (by rw [hll];exact hz));refine wp_block (wp_mono (hx S α _ r he F μ w a hn hp hr) λe a' w' ⟨ex,S',μ',av,h1,h2,h3⟩=>?_);have h3':CP (wm h) F pin μ S w a μ' S' w' av:=h3.weak leaf_fst
  cases ex with
  | normal=>obtain ⟨rfl,rfl⟩:=h1;exact ⟨.normal,S',μ',_,⟨rfl,rfl⟩,h2,h3'⟩
  | ret=>obtain ⟨rfl,rfl⟩:=h1;exact ⟨.ret,S',μ',_,⟨rfl,rfl⟩,h2,h3'⟩
  | pan=>obtain ⟨rfl,hd⟩:=h1;exact ⟨.pan,S',μ',_,⟨rfl,hd⟩,h2,h3'⟩
  | exit id' =>
   obtain ⟨rfl,rfl⟩:=h1;simp only [exOf,Exit.inBlock];by_cases hid:id'=id
   ·subst hid;simp only [Nat.beq_refl,zI] at h2;rw [if_pos rfl];exact ⟨.normal,S',μ',_,⟨rfl,rfl⟩,h2,h3'⟩
   ·simp only [beq_ne hid,zK] at h2;rw [if_neg hid];exact ⟨.exit id',S',μ',_,⟨rfl,rfl⟩,h2,h3'⟩
 | .loop c,h,hl=>by
  intro S α K r he F μ w a hn hp hr
  cases h with
  | loop sh o run h =>
   simp only [ev] at he
   have hnl:isLoopH h=false:=by
    cases hh:isLoopH h with
    | false=>rfl
    | true=>rw [hh] at he;cases he
   rw [hnl] at he;simp only [zK] at he;have hx:=xy (ev_ok hm hC c (xY h) λz hz=>hl z (by simp [zx,hz]));have hlo:=(hl ⟨c,h,sh,o,run⟩ (by simp [zx])).iter hnl;obtain ⟨p,μ1,h1,h2,h3⟩:=vy hr he
   cases hrun:run p with
   | none=>simp [hrun] at h1
   | some q =>
    simp only [hrun,zE] at h1;obtain ⟨m,hm1⟩:=hlo p q hrun;refine wp_loop_n (λm a' w'=>∃ p μ',iter (round P C M pin n c h sh o) m p=some q/\CP false F pin μ S w a μ' (zZ sh p) w' a') (λa w ⟨p,_,hi,_⟩=>by simp [iter] at hi) (λm a' w' ⟨p,μ',hi,hcp⟩=>?_) m ⟨p,μ1,hm1,CP.shaped h2 h3⟩;simp only [iter] at hi
    cases hro:round P C M pin n c h sh o p with
    | none=>simp [hro] at hi
    | some z =>
     refine wp_mono (hx (zZ sh p) _ _ z hro F μ' w' a' (hn.trans hcp.size.symm) hcp.le hcp.rg) λe a2 w2 ⟨ex,S2,μ2,av,g1,g2,g3⟩=>?_
     have g4:CP false F pin μ S w a μ2 S2 w2 av:=hcp.trans (g3.weak λh=>by cases h)
     have out:∀ {ex},XR ex e a2 av->(xF pin S2 ex o λr=>some (Sum.inr r))=some z->∃ ex' S' μ' av',XR ex' e a2 av'/\K ex' S'=some r/\CP (wm (.loop sh o run h)) F pin μ S w a μ' S' w2 av':=λ{ex} g1 hpo=>by
      obtain ⟨q',S',μ3,k1,k2,k3,k4⟩:=vW g3.rg o hpo;simp only [y5] at k1;rw [hro,<- k1] at hi;simp only [y5] at hi;subst hi;exact ⟨ex,S',μ3,av,g1,by rw [<- k2 α K];exact h1,g4.trans (CP.shaped k3 k4)⟩
     cases ex with
     | normal =>
      obtain ⟨rfl,rfl⟩:=g1;obtain ⟨p',μ3,k1,k2,k3⟩:=vy g3.rg g2;simp only [y5] at k1;rw [hro,<- k1] at hi;exact ⟨p',μ3,hi,g4.trans (CP.shaped k2 k3)⟩
     | exit id=>have g5:=g1;obtain ⟨rfl,rfl⟩:=g1;exact out g5 g2
     | ret=>have g5:=g1;obtain ⟨rfl,rfl⟩:=g1;exact out g5 g2
     | pan=>have g5:=g1;obtain ⟨rfl,hd⟩:=g1;exact out g5 g2
  | _=>simp [ev] at he
 | .label _,h,_=>by
  intro S α K r he F μ w a hn hp hr;simp only [ev] at he;exact wp_label ⟨.normal,S,μ,_,⟨rfl,rfl⟩,he,CP.refl hr hp⟩
 | .goto _,h,_=>by intro S α K r he;simp [ev] at he
 | .scope c,h,hl=>by
  intro S α K r he F μ w a hn hp hr;simp only [ev] at he;have hx:=xy (ev_ok hm hC c (xY h.fst) λz hz=>hl z (by simp [zx,hz]));refine wp_scope_straight (wp_mono (hx S α _ r he F μ w a hn hp hr) λe a' w' ⟨ex,S',μ',av,h1,h2,h3⟩=>?_);have h3':CP (wm h) F pin μ S w a μ' S' w' av:=h3.weak leaf_fst
  cases ex with
  | normal=>obtain ⟨rfl,rfl⟩:=h1;exact ⟨.normal,S',μ',_,⟨rfl,rfl⟩,h2,h3'⟩
  | ret=>obtain ⟨rfl,rfl⟩:=h1;exact ⟨.ret,S',μ',_,⟨rfl,rfl⟩,h2,h3'⟩
  | exit id'=>obtain ⟨rfl,rfl⟩:=h1;exact ⟨.exit id',S',μ',_,⟨rfl,rfl⟩,h2,h3'⟩
  | pan=>obtain ⟨rfl,hd⟩:=h1;exact ⟨.pan,S',μ',_,⟨rfl,hd⟩,h2,h3'⟩
 | .rangeFunc _ _ _ _,h,_=>by intro S α K r he;simp [ev] at he
 | .refuse _,h,_=>by intro S α K r he;simp [ev] at he
end
end Go.Ev
namespace Go.Ev
open Go
section
variable {P:Program} {F:Frm (zJ P)} {μ μ':Nat->Option Nat} {S S':St} {w w':World} {a a':Act} {α:Type} {r:α} {M:FuncId->Bool} {pin:Nat}
def resStep (tmps:Array Value):ResultVar->Sem Value
 | .tmp t=>pure (tmps.getD t undef)
 | .cell a t=>do loadVar t (<- asAddr (tmps.getD a undef))
theorem results_eq (fn:Func) (tmps:Array Value):results fn tmps=(do
  let vs <- fn.results.toList.mapM (resStep tmps)
  pure (if h:vs.toArray.size=1 then vs.toArray[0] else .tuple vs.toArray)):=by
 unfold results;rw [Array.mapM_eq_mapM_toList];simp only [bind_map_left];congr 1
theorem resAV_ok (hr:Rg F μ [] S a w):∀ (rs:List ResultVar) {K:List AV->Option α},resAV P S rs K=some r ->
  ∃ vs vals,K vs=some r/\zC w (Not F μ S.H) μ S.H vs vals/\(rs.mapM (resStep a.tmps)).run P w=.ok vals w
 | [],K,h=>by
  simp only [resAV] at h;exact ⟨[],[],h,by simp [zC],by simp⟩
 | .tmp t::rs,K,h=>by
  simp only [resAV] at h;obtain ⟨vs,vals,h1,h2,h3⟩:=resAV_ok hr rs h;refine ⟨_,a.tmps.getD t undef::vals,h1,?_,?_⟩
  ·simp only [zC];exact ⟨_,_,rfl,hr.e.slot λj b y hh=>absurd (hr.tags _ _ _ _ hh) (by simp),h2⟩
  ·simp [resStep,h3]
 | .cell b t::rs,K,h=>by
  simp only [resAV] at h;have hs:=hr.e.slot (t:=b) λj b' y hh=>absurd (hr.tags _ _ _ _ hh) (by simp)
  obtain ⟨y,val,hK,hy,hrun⟩:=loadAV_ok (P:=P) (X:=λ_ _=>False) hr.hp hs (λ_ _ _ _ _ h=>h) h;obtain ⟨vs,vals,h1,h2,h3⟩:=resAV_ok hr rs hK;refine ⟨_,val::vals,h1,?_,?_⟩
  ·simp only [zC];exact ⟨_,_,rfl,hy,h2⟩
  ·have h4:=hrun w (Agr.refl _)
   have hp:∃ ad,a.tmps.getD b undef=.pointer (some ad):=by
    unfold loadAV at h
    cases hu:P.underlying t with
    | none=>simp [hu] at h
    | some d =>
     simp only [hu] at h
     cases hE:S.E b <;> simp only [hE,zA,reduceCtorEq] at h hs
     ·obtain ⟨_,g,o,_,_,h5,_⟩:=hs;exact ⟨_,h5⟩
     ·obtain ⟨_,g,_,h5⟩:=hs;exact ⟨_,h5⟩
     ·obtain ⟨_,g,_,_,_,h5⟩:=hs;exact ⟨_,h5⟩
   obtain ⟨ad,had⟩:=hp;rw [had] at h4
   have h5:(loadVar t ad).run P w=.ok val w:=by
    simpa [Instr.loadAt,Instr.sureAddr] using h4
   simp [resStep,had,asAddr,h3,h5]
theorem argsE_ok {N:NN} {H:Nat->Blk}:∀ (args:List AV) (vals:List Value) (k:Nat) (tmps:Array Value),zC w N μ H args vals->(∀ i,(h:i<vals.length)->tmps.getD (k+i) undef=vals[i]) ->
  ∀ t,zA w N μ H (argsE k args t) (tmps.getD t undef)/\∀ j b x,argsE k args t≠.gd j b x
 | [],_,_,_,_,_,t=>by simp [argsE,zA]
 | x::r,vals,k,tmps,h,ht,t=>by
  simp only [zC] at h;obtain ⟨v,vr,rfl,h1,h2⟩:=h;simp only [argsE];by_cases hk:t=k
  ·subst hk;rw [wc]
   have:=ht 0 (by simp)
   simp only [Nat.add_zero,List.getElem_cons_zero] at this;rw [this];exact ⟨noGd_rel h1,noGd_ne _⟩
  ·rw [xc hk];refine argsE_ok r vr (k+1) tmps h2 (λi hi=>?_) t
   have:=ht (i+1) (by simp<;>omega)
   simpa [Nat.add_assoc,Nat.add_comm 1 i] using this
theorem resVal {vs:List AV} {vals:List Value} {K:AV->Option α} {N:NN} {H:Nat->Blk} (hK:(match vs with
      | [v]=>K v
      | vs=>K (.tup vs))=some r) (h:zC w N μ H vs vals):∃ v,K v=some r/\zA w N μ H v (if h:vals.toArray.size=1 then vals.toArray[0] else .tuple vals.toArray):=by
  have hl:=yU h;split at hK
  . rename_i v;simp only [zC] at h;obtain ⟨x,y,rfl,h1,rfl⟩:=h;exact ⟨v,hK,by simpa using h1⟩
  . rename_i hne;refine ⟨_,hK,?_⟩
    have:¬ vals.toArray.size=1:=by
      intro h1;simp only [List.size_toArray] at h1;rw [h1] at hl
      cases vs with
      | nil=>simp at hl
      | cons x r=>cases r with
        | nil=>exact hne x rfl
        | cons _ _=>simp at hl
    rw [dif_neg this];simp only [zA];exact ⟨vals,rfl,h⟩
def inSt (args:List AV) (S:St):St:=⟨argsE 0 args,S.H,S.nx,[]⟩
theorem evFn_ok (hm:P.follows .mixedOrders=true) {C:zW} (hC:xw P C M) {f:FuncId} {fn:Func} (hf:P.funcs[f]?=some fn) {h:HT} {args:List AV} {K:AV->St->Option α}
  (hl:∀ c,fn.body=some c->∀ x∈zx c (xY h),x.OK P C M pin fn.ntmps) (he:evFn P C M pin fn h args S K=some r)
  {vals:List Value} (hp:Hp F μ S.H S.nx w) (hargs:zC w (Not F μ S.H) μ S.H args vals) (hpin:pin<=S.nx) :
  Calls P f vals.toArray w (λe w'=>∃ v S' μ' a a' val,EndR e v val/\K v ⟨yL S'.kl S.E,S'.H,S'.nx,S.kl++S'.kl⟩=some r /\
   zA w' (Not F μ' S'.H) μ' S'.H v val/\CP (wm h) F pin μ (inSt args S) w a μ' S' w' a'):=by
 unfold evFn at he
 cases hb:fn.body with
 | none=>simp [hb] at he
 | some c =>
  simp only [hb] at he;obtain ⟨hle,he⟩:=zB he;have hle:=Nat.le_of_ble_eq_true hle;have hlen:=yU hargs;refine calls_of_wp hf hb ?_;have hsz:(vals.toArray++Array.replicate (fn.ntmps-vals.toArray.size) undef).size=fn.ntmps:=by simp;omega
  have hE:=argsE_ok args vals 0 (vals.toArray++Array.replicate (fn.ntmps-vals.toArray.size) undef) hargs (λi hi=>by simp [Array.getD_eq_getD_getElem?,Array.getElem?_append,hi])
  have hrg:Rg F μ [] (inSt args S) ⟨vals.toArray++Array.replicate (fn.ntmps-vals.toArray.size) undef,[]⟩ w:=by
   refine ⟨hp,λt=>?_,λt j b x hh=>absurd hh ((hE t).2 j b x)⟩;obtain ⟨h1,h2⟩:=hE t
   show (match argsE 0 args t with
    | .gd j b x=>_
    | x=>zA w _ _ _ x _)
   cases hu:argsE 0 args t <;> rw [hu] at h1 h2 <;> first | exact h1 | exact absurd rfl (h2 _ _ _)
  have hj:=xy (ev_ok hm hC c (xY h) (hl c hb));refine wp_mono (hj (inSt args S) α _ r he F μ w _ hsz.symm hpin hrg) λe a' w' ⟨ex,S',μ',av,h1,h2,h3⟩=>?_
  have key:a'=av->(resAV P S' fn.results.toList λvs=>match vs with
   | [v]=>cond (wk v) (K v ⟨yL S'.kl S.E,S'.H,S'.nx,S.kl++S'.kl⟩) none
   | vs=>K (.tup vs) ⟨yL S'.kl S.E,S'.H,S'.nx,S.kl++S'.kl⟩)=some r->a'.defers=[]/\∃ v,(results fn a'.tmps).run P w'=.ok v w' /\
    ∃ v' S' μ' a a' val,EndR (Ending.returned v) v' val/\K v' ⟨yL S'.kl S.E,S'.H,S'.nx,S.kl++S'.kl⟩=some r/\zA w' (Not F μ' S'.H) μ' S'.H v' val/\CP (wm h) F pin μ (inSt args S) w a μ' S' w' a':=λhav hres=>by
   subst hav;obtain ⟨vs,us,k1,k2,k3⟩:=resAV_ok (P:=P) h3.rg _ hres
   obtain ⟨v,k4,k5⟩:=resVal (K:=λv=>cond (wk v) (K v ⟨yL S'.kl S.E,S'.H,S'.nx,S.kl++S'.kl⟩) none) (by
    split at k1
    ·exact k1
    ·exact k1) k2
   obtain ⟨k6,k7⟩:=zB k4;refine ⟨h3.defers,_,?_,v,S',μ',_,a',_,(EndR.ret k6).2 rfl,k7,k5,h3⟩;rw [results_eq];simp only [Sem.run_bind,k3,Result.andThen_ok,Sem.run_pure]
  cases ex with
  | exit id=>simp at h2
  | normal=>obtain ⟨rfl,hav⟩:=h1;exact key hav h2
  | ret=>obtain ⟨rfl,hav⟩:=h1;exact key hav h2
  | pan =>
   obtain ⟨rfl,hd⟩:=h1;refine ⟨hd.trans h3.defers,.pan (S'.E 0),S',μ',_,av,_,rfl,h2,?_,h3⟩
   have:=h3.rg.e.slot (t:=0) λj b y hh=>absurd (h3.rg.tags _ _ _ _ hh) (by simp)
   simpa only [zA] using this
end
end Go.Ev
namespace Go.Ev
open Go
section
variable {P:Program} {F F':Frm (zJ P)} {μ μ' μ'':Nat->Option Nat} {S S':St} {w w':World} {α:Type} {r:α} {M:FuncId->Bool} {N N':NN} {H H':Nat->Blk}
def Enters (P:Program) (f:FuncId):Prop:=∀ (args:Array Value) w,(callFunc f args).run P w=.ok (.enter f args) w
structure Orc.OK (P:Program) (f:FuncId) (o:Orc):Prop where
 enters:Enters P f
 fits:o.fits=true
 run:∀ p r,o.run p=some r->∀ (F:Frm (zJ P)) μ w vals,Hp F μ (zT o.blks p.2) o.blks.length w->zC w (Not F μ (zT o.blks p.2)) μ (zT o.blks p.2) (unL o.args p.1) vals ->
  Calls P f vals.toArray w (λe w'=>∃ val μ' nx',EndR e (w6 o.out r.1) val/\Hp F μ' (zT o.oblks r.2) nx' w'/\zA w' (Not F μ' (zT o.oblks r.2)) μ' (zT o.oblks r.2) (w6 o.out r.1) val /\
   Chg (wy μ (zT o.blks p.2)) w w'/\(∀ g,wy μ' (zT o.oblks r.2) g->wy μ (zT o.blks p.2) g\/w.heap.size<=g) /\
   (∀ j,j<o.blks.length->Pin (zT o.oblks r.2 j) (zT o.blks p.2 j) (μ' j) (μ j)))
theorem tf:∀ {t:Ty} {x:t.den} {vs:List Value},slTy t=false->RelD w N t x vs->RelD w N' t x vs
 | .int _,_,_,_,h=>h
 | .u8,_,_,_,h=>h
 | .bool,_,_,_,h=>h
 | .str,_,_,_,h=>h
 | .sl t,l,vs,hs,h=>by simp [slTy] at hs
 | .unit,_,_,_,h=>h
 | .pair a b,p,vs,hs,h=>by
  simp only [slTy,Bool.or_eq_false_iff] at hs;simp only [RelD] at h ⊢;obtain ⟨xs,ys,h0,h1,h2⟩:=h;exact ⟨xs,ys,h0,tf hs.1 h1,tf hs.2 h2⟩
 | .ln t,x,vs,hs,h=>by
  simp only [slTy] at hs;simp only [RelD] at h ⊢;exact tf hs h
 | .rg t,x,vs,hs,h=>by
  simp only [slTy] at hs;simp only [RelD] at h ⊢;exact tf hs h
structure SubL (ln:Bool) (w:World) (N' N:NN):Prop where
 all:∀ g,g<w.heap.size->N'.all g->N.all g
 unf:∀ g,g<w.heap.size->N'.unf g->N.unf g
 full:ln=true->Sub w N' N
theorem wR (h:SubL false w N' N):∀ {t:Ty} {x:t.den} {vs:List Value},z7 t=false->RelD w N t x vs->RelD w N' t x vs
 | .int _,_,_,_,hx=>hx
 | .u8,_,_,_,hx=>hx
 | .bool,_,_,_,hx=>hx
 | .str,_,_,_,hx=>hx
 | .unit,_,_,_,hx=>hx
 | .ln t,_,_,hs,_=>by simp [z7] at hs
 | .rg t,_,_,hs,_=>by simp [z7] at hs
 | .mx _,_,_,hs,_=>by simp [z7] at hs
 | .pair a b,p,vs,hs,hx=>by
  simp only [z7,Bool.or_eq_false_iff] at hs;simp only [RelD] at hx ⊢;obtain ⟨xs,ys,h0,h1,h2⟩:=hx;exact ⟨xs,ys,h0,wR h hs.1 h1,wR h hs.2 h2⟩
 | .sl t,l,vs,hs,hx=>by
  simp only [z7] at hs;simp only [RelD] at hx ⊢;obtain ⟨a,c,h1,h2,h3⟩:=hx;refine ⟨a,c,h1,h2,λhp=>?_⟩;obtain ⟨g,o,ha,hn,hg,hu,hr⟩:=h3 hp;have hln:∀ M:NN,lnN M t=M.all:=λM=>by cases t <;> first | rfl | simp [z7] at hs
  rw [hln] at hn;refine ⟨g,o,ha,λhn'=>hn (h.all g hg (by rw [hln] at hn';exact hn')),hg,λhf=>hu (h.unf g hg hf),λi hi=>?_⟩;obtain ⟨es,e1,e2,e3⟩:=hr i hi;exact ⟨es,e1,e2,wR h hs e3⟩
 | .pt t,x,vs,hs,hx=>by
  simp only [z7] at hs;simp only [RelD] at hx ⊢;obtain ⟨p,rfl,hx | ⟨g,o,y,es,h1,h2,h3,h4,h5,h6,h7,h8,h9⟩⟩:=hx
  ·exact ⟨p,rfl,.inl hx⟩
  have hln:∀ M:NN,lnN M t=M.all:=λM=>by cases t <;> first | rfl | simp [z7] at hs
  rw [hln] at h4;exact ⟨p,rfl,.inr ⟨g,o,y,es,h1,h2,h3,λhn=>h4 (h.all g h5 (by rw [hln] at hn;exact hn)),h5,λhf=>h6 (h.unf g h5 hf),h7,h8,wR h hs h9⟩⟩
 | .mp k v ag,l,vs,hs,hx=>by
  simp only [z7,Bool.or_eq_false_iff] at hs;simp only [RelD] at hx ⊢;obtain ⟨a,rfl,g,es,c,h1,h2,h3,h4,h5,h6,h7⟩:=hx;have hln:∀ M:NN,lnN M v=M.all:=λM=>by cases v <;> first | rfl | simp [z7] at hs
  rw [hln] at h2;refine ⟨a,rfl,⟨g,es,c,h1,λhn=>h2 (h.all g h3 (by rw [hln] at hn;exact hn)),h3,h4,h5,h6,λi hi hi'=>?_⟩⟩;obtain ⟨r1,cs,r2,r3⟩:=h7 i hi hi';exact ⟨wR h hs.1 r1,cs,wR h hs.2 r2,r3⟩
theorem SubL.less {ln:Bool} (h:SubL ln w N' N):SubL false w N' N:=⟨h.all,h.unf,λh=>by cases h⟩
theorem RelD_toL {ln:Bool} (h:SubL ln w N' N) {t:Ty} {x:t.den} {vs:List Value} (hl:z7 t=true->ln=true) (hx:RelD w N t x vs):RelD w N' t x vs:=by
 cases hs:z7 t with
 | false=>exact wR h.less hs hx
 | true=>exact hx.keep (Keep.refl w) (h.full (hl hs))
theorem RelD_to {ln:Bool} {t:Ty} {x:t.den} {vs:List Value} (hN:slTy t=true->SubL ln w N' N) (hl:z7 t=true->ln=true) (h:RelD w N t x vs):RelD w N' t x vs:=by
 cases hs:slTy t with
 | false=>exact tf hs h
 | true=>exact RelD_toL (hN hs) hl h
def Ren (bl:List (Nat×BSh)) (ρ:Nat->Nat) (μ μ':Nat->Option Nat) (H H':Nat->Blk):Prop :=
 ∀ j s,zb bl j=some s->μ' (ρ j)=μ j/\H' (ρ j)=renB ρ (H j)/\H j≠.dead
theorem renB_data {ρ:Nat->Nat} {b:Blk} {t:Ty} {l:List t.den} (h:b=.data t l):renB ρ b=.data t l:=by subst h;rfl
theorem tag_renB {ρ:Nat->Nat} (b:Blk):(renB ρ b).tag=b.tag:=by cases b <;> rfl
theorem renB_live {ρ:Nat->Nat} {b:Blk} (h:b≠.dead):renB ρ b≠.dead:=by cases b <;> simp_all [renB]
section
variable {bl:List (Nat×BSh)} {ρ:Nat->Nat}
mutual
theorem renV_ok {ln:Bool} (hr:Ren bl ρ μ μ' H H'):∀ (v:VSh) (p:v.den) (val:Value),(va v=true->SubL ln w N' N)->(yu v=true->ln=true)->zu bl v=true->zA w N μ H (w6 v p) val->zA w N' μ' H' (tL ρ (w6 v p)) val
 | .i k,p,val,_,_,_,h=>h
 | .u,p,val,_,_,_,h=>h
 | .b,p,val,_,_,_,h=>h
 | .s,p,val,_,_,_,h=>h
 | .nilp,p,val,_,_,_,h=>h
 | .kb _,p,val,_,_,_,h=>h
 | .ki _ _,p,val,_,_,_,h=>h
 | .ks _,p,val,_,_,_,h=>h
 | .bad,p,val,_,_,_,h=>by simp [w6,tL,zA]
 | .nil,p,val,_,_,_,h=>by simp [w6,tL,zA]
 | .cons _ _,p,val,_,_,_,h=>by simp [w6,tL,zA]
 | .sl t,p,val,hN,hL,_,h=>by
  simp only [w6,tL,zA] at h ⊢;exact RelD_toL (t:=.sl t) (hN rfl) hL h
 | .fz t,p,val,hN,hL,_,h=>by
  simp only [w6,tL,zA] at h ⊢;exact ⟨RelD_toL (hN rfl) hL h.1,h.2⟩
 | .ptr j o,p,val,_,_,hf,h=>by
  simp only [w6,tL,zA,zu,Option.isSome_iff_exists] at h hf ⊢;obtain ⟨s,hs⟩:=hf;obtain ⟨h1,h2,h3⟩:=hr j s hs;obtain ⟨_,g,hg,hv⟩:=h;exact ⟨by rw [h2];exact renB_live h3,g,by rw [h1];exact hg,hv⟩
 | .mp j,p,val,_,_,hf,h=>by
  simp only [w6,tL,zA,zu,Option.isSome_iff_exists] at h hf ⊢;obtain ⟨s,hs⟩:=hf;obtain ⟨h1,h2,h3⟩:=hr j s hs;obtain ⟨_,g,hg,hv⟩:=h;exact ⟨by rw [h2];exact renB_live h3,g,by rw [h1];exact hg,hv⟩
 | .mptr j o,p,val,_,_,hf,h=>by
  simp only [w6,tL,zA,zu,Option.isSome_iff_exists] at h hf ⊢;obtain ⟨s,hs⟩:=hf;obtain ⟨h1,h2,h3⟩:=hr j s hs;obtain ⟨_,hv⟩:=h;exact ⟨by rw [h2];exact renB_live h3,by rw [h1];exact hv⟩
 | .own j,p,val,_,_,hf,h=>by
  simp only [w6,tL,zA] at h ⊢;obtain ⟨t,l,hl,hv⟩:=h;simp only [zu] at hf
  cases hk:zb bl j with
  | none=>simp [hk] at hf
  | some s =>
   obtain ⟨h1,h2,h3⟩:=hr j s hk;exact ⟨t,l,by rw [h2];exact renB_data hl,by rw [h1];exact hv⟩
 | .win j,p,val,_,_,hf,h=>by
  simp only [w6,tL,zA] at h ⊢;obtain ⟨t,l,hl,hv⟩:=h;simp only [zu] at hf
  cases hk:zb bl j with
  | none=>simp [hk] at hf
  | some s =>
   obtain ⟨h1,h2,h3⟩:=hr j s hk;exact ⟨t,l,by rw [h2];exact renB_data hl,by rw [h1];exact hv⟩
 | .fn f cs,p,val,hN,hL,hf,h=>by
  simp only [w6,tL,zA] at h ⊢;obtain ⟨vs,hv,h⟩:=h;exact ⟨vs,hv,renL_ok hr cs p vs hN hL hf h⟩
 | .agg cs,p,val,hN,hL,hf,h=>by
  simp only [w6,tL,zA] at h ⊢;obtain ⟨vs,hv,h⟩:=h;exact ⟨vs,hv,renL_ok hr cs p vs hN hL hf h⟩
 | .tup cs,p,val,hN,hL,hf,h=>by
  simp only [w6,tL,zA] at h ⊢;obtain ⟨vs,hv,h⟩:=h;exact ⟨vs,hv,renL_ok hr cs p vs hN hL hf h⟩
 | .ifc t v,p,val,hN,hL,hf,h=>by
  simp only [w6,tL,zA] at h ⊢;obtain ⟨u,hv,h⟩:=h;exact ⟨u,hv,renV_ok hr v p u hN hL hf h⟩
 | .may v v2,p,val,hN,hL,hf,h=>by
  simp only [zu,yR] at hf;simp only [va,Bool.or_eq_true] at hN;simp only [yu,Bool.or_eq_true] at hL
  match (show v.den⊕v2.den from p),h with
  | .inl p,h=>exact renV_ok hr v p val (λh=>hN (.inl h)) (λh=>hL (.inl h)) hf.1 h
  | .inr p,h =>
   have h:zA w N μ H (w6 v2 p) val:=h
   have:=renV_ok hr v2 p val (λh=>hN (.inr h)) (λh=>hL (.inr h)) hf.2 h
   exact this
theorem renL_ok {ln:Bool} (hr:Ren bl ρ μ μ' H H'):∀ (v:VSh) (p:v.den) (vals:List Value),(va v=true->SubL ln w N' N)->(yu v=true->ln=true)->zu bl v=true->zC w N μ H (unL v p) vals->zC w N' μ' H' (renL ρ (unL v p)) vals
 | .cons v v2,p,vals,hN,hL,hf,h=>by
  simp only [unL,renL,zC] at h ⊢;simp only [zu,yR] at hf;simp only [va,Bool.or_eq_true] at hN;simp only [yu,Bool.or_eq_true] at hL;obtain ⟨val,vr,rfl,h1,h2⟩:=h;exact ⟨val,vr,rfl,renV_ok hr v p.1 val (λh=>hN (.inl h)) (λh=>hL (.inl h)) hf.1 h1,renL_ok hr v2 p.2 vr (λh=>hN (.inr h)) (λh=>hL (.inr h)) hf.2 h2⟩
 | .nil,p,vals,_,_,_,h=>h
 | .i _,p,vals,_,_,_,h=>h
 | .u,p,vals,_,_,_,h=>h
 | .b,p,vals,_,_,_,h=>h
 | .s,p,vals,_,_,_,h=>h
 | .sl _,p,vals,_,_,_,h=>h
 | .fz _,p,vals,_,_,_,h=>h
 | .ptr _ _,p,vals,_,_,_,h=>h
 | .ifc _ _,p,vals,_,_,_,h=>h
 | .may _ _,p,vals,_,_,_,h=>h
 | .own _,p,vals,_,_,_,h=>h
 | .win _,p,vals,_,_,_,h=>h
 | .mp _,p,vals,_,_,_,h=>h
 | .mptr _ _,p,vals,_,_,_,h=>h
 | .fn _ _,p,vals,_,_,_,h=>h
 | .agg _,p,vals,_,_,_,h=>h
 | .tup _,p,vals,_,_,_,h=>h
 | .nilp,p,vals,_,_,_,h=>h
 | .kb _,p,vals,_,_,_,h=>h
 | .ki _ _,p,vals,_,_,_,h=>h
 | .ks _,p,vals,_,_,_,h=>h
 | .bad,p,vals,_,_,_,h=>h
end
end
theorem vF:∀ {bl:List (Nat×BSh)} {j:Nat} {s:BSh},zb bl j=some s->(j,s)∈bl
 | [],_,_,h=>by simp [zb] at h
 | (k,s0)::bl,j,s,h=>by
  simp only [zb] at h
  cases hk:Nat.beq k j with
  | true =>
   simp only [hk,zI,y5] at h;rw [<- xi hk,<- h];simp
  | false =>
   simp only [hk,zK] at h;exact List.mem_cons_of_mem _ (vF h)
theorem vT:∀ (bl:List (Nat×BSh)) (q:yc bl) (j:Nat) (s:BSh),zb bl j=some s->∃ p:s.den,zT bl q j=unB s p
 | [],_,_,_,h=>by simp [zb] at h
 | (k,s0)::bl,q,j,s,h=>by
  simp only [zb] at h;simp only [zT]
  cases hk:Nat.beq k j with
  | true =>
   simp only [hk,zI,y5] at h;subst h;rw [xi hk,zf];exact ⟨_,rfl⟩
  | false =>
   simp only [hk,zK] at h;have hne:j≠k:=λe=>by subst e;simp at hk
   rw [zX hne];exact vT bl q.2 j s h
theorem putBlks_other {ρ:Nat->Nat}:∀ (bl:List (Nat×BSh)) (q:yc bl) (H:Nat->Blk) (b:Nat),(∀ j s,zb bl j=some s->ρ j≠b)->vx ρ bl q H b=H b
 | [],_,_,_,_=>rfl
 | (k,s)::bl,q,H,b,h=>by
  simp only [vx];have hk:ρ k≠b:=h k s (by simp [zb]);rw [zX (Ne.symm hk)];refine putBlks_other bl q.2 H b λj s' hj=>?_
  by_cases hkj:k=j
  ·subst hkj;exact hk
  ·exact h j s' (by simp [zb,beq_ne hkj,hj])
theorem putBlks_at {ρ:Nat->Nat}:∀ (bl:List (Nat×BSh)) (q:yc bl) (H:Nat->Blk) (j:Nat) (s:BSh),(∀ j s j' s',zb bl j=some s->zb bl j'=some s'->ρ j=ρ j'->j=j')->t8 (bl.map (·.1))=true ->
  zb bl j=some s->vx ρ bl q H (ρ j)=renB ρ (zT bl q j)
 | [],_,_,_,_,_,_,h=>by simp [zb] at h
 | (k,s0)::bl,q,H,j,s,hi,hn,h=>by
  simp only [vx,zT];by_cases hk:j=k
  ·subst hk;rw [zf,zf]
  ·have hne:ρ j≠ρ k:=λe=>hk (hi j s k s0 h (by simp [zb]) e)
   rw [zX hne,zX hk];have h':zb bl j=some s:=by simpa [zb,beq_ne (Ne.symm hk)] using h
   have hn':t8 (bl.map (·.1))=true:=by
    simp only [List.map_cons,t8,yR] at hn;exact hn.2
   have hnk:∀ j' s',zb bl j'=some s'->j'≠k:=λj' s' hj' e=>by
    subst e;simp only [List.map_cons,t8,yR,Bool.not_eq_true'] at hn;have:(List.any (bl.map (·.1)) λy=>Nat.beq j' y)=true:=List.any_eq_true.2 ⟨j',List.mem_map.2 ⟨_,vF hj',rfl⟩,Nat.beq_refl j'⟩;rw [this] at hn;exact absurd hn.1 (by simp)
   refine putBlks_at bl q.2 H j s (λj1 s1 j2 s2 h1 h2 he=>?_) hn' h';exact hi j1 s1 j2 s2 (by simp [zb,beq_ne (Ne.symm (hnk j1 s1 h1)),h1]) (by simp [zb,beq_ne (Ne.symm (hnk j2 s2 h2)),h2]) he
theorem sB:∀ {bl:List (Nat×BSh)} {j:Nat} {kt vt:Ty} {ag:Bool},(j,BSh.mapd kt vt ag)∈bl->j∈wq bl
 | [],_,_,_,_,h=>by cases h
 | (k,s)::bl,j,kt,vt,ag,h=>by
  rcases List.mem_cons.1 h with h | h
  ·cases h;simp [wq]
  ·have:=sB h
   cases s <;> simp [wq,this]
theorem mem_dataIds:∀ {bl:List (Nat×BSh)} {j:Nat} {t:Ty},(j,BSh.data t)∈bl->j∈wq bl
 | [],_,_,h=>by cases h
 | (k,s)::bl,j,t,h=>by
  rcases List.mem_cons.1 h with h | h
  ·cases h;simp [wq]
  ·have:=mem_dataIds h
   cases s <;> simp [wq,this]
end
end Go.Ev
namespace Go.Ev
open Go
section
variable {P:Program} {F F':Frm (zJ P)} {μ μ' μ'':Nat->Option Nat} {S S':St} {w w':World} {α:Type} {r:α} {M:FuncId->Bool} {N N':NN} {H H':Nat->Blk}
theorem renOf_cases (B:Bd) (n nx j:Nat):(j<n/\∃ b,zw B.m j=some (some b)/\renOf B n nx j=b)\/renOf B n nx j=nx+j:=by
 unfold renOf
 cases hb:Nat.ble n j with
 | true=>right;rfl
 | false =>
  have hlt:j<n:=by
   rcases Nat.lt_or_ge j n with h | h
   ·exact h
   ·rw [Nat.ble_eq_true_of_le h] at hb;cases hb
  simp only [zK]
  cases hf:zw B.m j with
  | none=>right;rfl
  | some x =>
   cases x with
   | none=>right;rfl
   | some b=>left;exact ⟨hlt,b,rfl,rfl⟩
theorem hasSlB_vars:∀ {bl:List (Nat×BSh)} {j:Nat} {cs:VSh},(j,BSh.vars cs)∈bl->va cs=true->wC bl=true
 | [],_,_,h,_=>by cases h
 | (k,s)::bl,j,cs,h,hs=>by
  rcases List.mem_cons.1 h with h | h
  ·cases h;simp [wC,hs]
  ·have:=hasSlB_vars h hs
   cases s <;> simp [wC,this]
theorem hasSlB_data:∀ {bl:List (Nat×BSh)} {j:Nat} {t:Ty},(j,BSh.data t)∈bl->slTy t=true->wC bl=true
 | [],_,_,h,_=>by cases h
 | (k,s)::bl,j,cs,h,hs=>by
  rcases List.mem_cons.1 h with h | h
  ·cases h;simp [wC,hs]
  ·have:=hasSlB_data h hs
   cases s <;> simp [wC,this]
theorem hasSlB_map:∀ {bl:List (Nat×BSh)} {j:Nat} {kt vt:Ty} {ag:Bool},(j,BSh.mapd kt vt ag)∈bl->(slTy kt||slTy vt)=true->wC bl=true
 | [],_,_,_,_,h,_=>by cases h
 | (k,s)::bl,j,kt,vt,ag,h,hs=>by
  rcases List.mem_cons.1 h with h | h
  ·cases h;simp only [wC,Bool.or_eq_true] at hs ⊢;exact .inl hs
  ·have:=hasSlB_map h hs
   cases s <;> simp [wC,this]
theorem hasLnB_vars:∀ {bl:List (Nat×BSh)} {j:Nat} {cs:VSh},(j,BSh.vars cs)∈bl->yu cs=true->xq bl=true
 | [],_,_,h,_=>by cases h
 | (k,s)::bl,j,cs,h,hs=>by
  rcases List.mem_cons.1 h with h | h
  ·cases h;simp [xq,hs]
  ·have:=hasLnB_vars h hs
   cases s <;> simp [xq,this]
theorem hasLnB_data:∀ {bl:List (Nat×BSh)} {j:Nat} {t:Ty},(j,BSh.data t)∈bl->z7 t=true->xq bl=true
 | [],_,_,h,_=>by cases h
 | (k,s)::bl,j,cs,h,hs=>by
  rcases List.mem_cons.1 h with h | h
  ·cases h;simp [xq,hs]
  ·have:=hasLnB_data h hs
   cases s <;> simp [xq,this]
theorem hasLnB_map:∀ {bl:List (Nat×BSh)} {j:Nat} {kt vt:Ty} {ag:Bool},(j,BSh.mapd kt vt ag)∈bl->(z7 kt||z7 vt)=true->xq bl=true
 | [],_,_,_,_,h,_=>by cases h
 | (k,s)::bl,j,kt,vt,ag,h,hs=>by
  rcases List.mem_cons.1 h with h | h
  ·cases h;simp only [xq,Bool.or_eq_true] at hs ⊢;exact .inl hs
  ·have:=hasLnB_map h hs
   cases s <;> simp [xq,this]
theorem u9 {g n:Nat} (hk:g<w.heap.size->w'.heap[g]?=w.heap[g]?) (h:room w g n):room w' g n:=λk hkn=>by
 obtain ⟨h1,h2⟩:=h k hkn;obtain ⟨v,hv⟩:=Option.isSome_iff_exists.1 h1;have hlt:=World.block_lt_of_cell? w _ hv;exact ⟨by rw [cell?_of_heap (hk hlt)];exact h1,by rw [frozen?_of_heap (hk hlt)];exact h2⟩
theorem ut {kl:List Nat} {b:Blk}:(b=.dead->kb kl b=.dead)/\(b≠.dead->kb kl b≠.dead)/\(∀ cs,kb kl b=.vars cs->∃ cs',b=.vars cs')/\(∀ t l,b=.data t l->kb kl b=.data t l):=by
 cases kl <;> cases b <;> simp [kb,killB]
theorem unVK_eq:∀ (v:VSh) (p:v.den) (K:AV->Option α),unVK v p K=K (w6 v p):=λv p K=>by
 cases v
 case may v1 v2=>cases (show v1.den⊕v2.den from p) <;> rfl
 all_goals rfl
theorem EndR.ren {ρ:Nat->Nat} {e:Ending} {v:AV} {val:Value} (h:EndR e v val):EndR e (tL ρ v) val:=by
 cases v <;> exact h
theorem Orc.call_ok {o:Orc} {f:FuncId} (ho:o.OK P f) {args:List AV} {K:AV->St->Option α} (h:o.call args S K=some r) {vals:List Value} (hp:Hp F μ S.H S.nx w) (hargs:zC w (Not F μ S.H) μ S.H args vals) :
  Calls P f vals.toArray w (λe w'=>∃ v S' μ' kl val,EndR e v val/\K v S'=some r/\S'.E=yL kl S.E/\S'.kl=S.kl++kl/\Hp F μ' S'.H S'.nx w' /\
   Pl F μ S.H S.nx w kl μ' S'.H S'.nx w'/\zA w' (Not F μ' S'.H) μ' S'.H v val/\(o.blks=[]->Keep (λ_=>False) w w')):=by
 unfold Orc.call at h;obtain ⟨p,B1,hK1,he1,hr1⟩:=tO (pin:=0) (bl:=o.blks) hp o.args args ⟨[],[],[]⟩ _ vals hargs h;obtain ⟨q,B,hK2,he2,hf2,hk2,hm2,hr2⟩:=uk (bl:=o.blks) hp o.blks hK1;obtain ⟨hB,hK3⟩:=zB hK2;have hfits:=ho.fits;simp only [Orc.fits,yR,List.all_eq_true] at hfits;obtain ⟨⟨⟨⟨⟨fnd,frange⟩,fargs⟩,fout⟩,fblks⟩,foblks⟩:=hfits;have hlive_lt:∀ b,S.H b≠.dead->b<S.nx:=λb hb=>Nat.lt_of_not_le λhle=>hb (hp.dead b hle)
 have hkey:∀ j,zT o.blks q j≠.dead->j<o.blks.length:=λj hj=>by
  obtain ⟨x,hx,rfl⟩:=hm2 j hj;exact Nat.le_of_ble_eq_true (fblks x hx).1.1.1
 have hsrc:∀ j,j<o.blks.length->∀ b,zw B.m j=some (some b)->∃ s,zb o.blks j=some s/\S.H b≠.dead/\(∀ t l,S.H b=.data t l->∃ t' l',zT o.blks q j=.data t' l'/\t'.size=t.size/\List.length l'=List.length l)/\((zT o.blks q j).tag≠0->(S.H b).tag=(zT o.blks q j).tag):=λj hj b hb=>by
  have h1:=frange j (List.mem_range.2 hj);obtain ⟨s,hs⟩:=Option.isSome_iff_exists.1 h1;have h2:=hf2 j (hk2 j s hs).live;unfold From at h2;rw [hb] at h2;exact ⟨s,hs,h2.1,h2.2.1,h2.2.2.2.1⟩
 let F':Frm (zJ P):={ out:=λg=>F g\/∃ b,S.H b≠.dead/\μ b=some g/\b∉B.y/\∀ j,j<o.blks.length->zw B.m j≠some (some b),hot:=λg=>F.hot g\/∃ b,S.H b≠.dead/\μ b=some g/\(b∉B.z/\b∉B.y)/\∀ j,j<o.blks.length->zw B.m j≠some (some b),le:=λg h=>h.imp (F.le g) λ⟨b,h1,h2,h3,h4⟩=>⟨b,h1,h2,h3.2,h4⟩,reg:=F.reg,unf:=F.unf }
 have hfin:Fin F F' μ 0 S.H o.blks B (zT o.blks q):=by
  refine ⟨hB,hf2,hk2,λg hg=>?_,λg hg=>?_,λb g hb hl hm hg=>?_,λb g hb hl hm hg=>?_,rfl,rfl⟩
  ·rcases hg with hg | ⟨b,h1,h2,_⟩
   ·exact .inl hg
   ·exact .inr ⟨b,h1,h2⟩
  ·rcases hg with hg | ⟨b,h1,h2,_⟩
   ·exact .inl hg
   ·exact .inr ⟨b,h1,h2⟩
  ·rcases hg with hg | ⟨b',h1,h2,h3,_⟩
   ·exact hp.apart b g hl hm (F.le g hg)
   ·have:=hp.inj b b' g hl h1 hm h2
    subst this;exact h3.1 hb
  ·rcases hg with hg | ⟨b',h1,h2,h3,_⟩
   ·exact hp.apart b g hl hm hg
   ·have:=hp.inj b b' g hl h1 hm h2
    subst this;exact h3 hb
 have hp1:Hp F' (wF μ B) (zT o.blks q) o.blks.length w:=by
  refine hfin.hp hp (λj=>hr2 F' B _ (Ext.refl B) hfin (List.all_eq_true.2 λx hx=>(fblks x hx).1.1.2) j) (λj hj=>?_) (λj b g hlj hb hl hm hg=>?_) (λg hg=>?_)
  ·by_cases hd:zT o.blks q j=.dead
   ·exact hd
   ·have:=hkey j hd;omega
  ·rcases hg with hg | ⟨b',h1,h2,_,h4⟩
   ·exact hp.apart b g hl hm hg
   ·have:=hp.inj b b' g hl h1 hm h2
    subst this;exact h4 j (hkey j hlj) hb
  ·rcases hg with hg | ⟨b',h1,h2,_⟩
   ·exact hp.flt g hg
   ·exact hp.lt b' g h1 h2
 have hargs1:=hr1 F' B _ he2 hfin fargs
 cases hrun:o.run (p,q) with
 | none=>simp [hrun] at hK3
 | some rr =>
  simp only [hrun,zE] at hK3;rw [unVK_eq] at hK3;refine (ho.run (p,q) rr hrun F' (wF μ B) w vals hp1 hargs1).mono λe w' ⟨val,μ2,nx2,hee,hp2,hv2,hchg,hnew,hpin⟩=>?_
  simp only at hp2 hv2 hchg hnew hpin;generalize hgone:cond (va o.out||wC o.oblks) (cond (yu o.out||xq o.oblks) (B.z++B.y) B.y) []=gone at hK3;generalize hρ:renOf B o.blks.length S.nx=ρ at hK3;generalize hkl:gone++(wq o.blks).map ρ=kl at hK3;have hρc:∀ j,(j<o.blks.length/\∃ b,zw B.m j=some (some b)/\ρ j=b)\/ρ j=S.nx+j:=λj=>by rw [<- hρ];exact renOf_cases _ _ _ _
  have hbl:∀ j,j<o.blks.length->∀ b,zw B.m j=some (some b)->b<S.nx:=λj hj b hb=>by
   obtain ⟨_,_,h1,_⟩:=hsrc j hj b hb;exact hlive_lt b h1
  have hinj0:∀ j j',ρ j=ρ j'->j=j':=λj j' he=>by
   rcases hρc j with ⟨h1,b,h2,h3⟩ | h1 <;> rcases hρc j' with ⟨g1,b',g2,g3⟩ | g1
   ·rw [h3,g3] at he;subst he;exact Bd.ok_inj hB h2 g2
   ·have:=hbl j h1 b h2;omega
   ·have:=hbl j' g1 b' g2;omega
   ·omega
  have hat:∀ j s,zb o.oblks j=some s->vx ρ o.oblks rr.2 (xr kl (zv kl S.H)) (ρ j)=renB ρ (zT o.oblks rr.2 j):=λj s hs =>
   putBlks_at o.oblks rr.2 _ j s (λj _ j' _ _ _=>hinj0 j j') fnd hs
  have hoff:∀ b,(∀ j s,zb o.oblks j=some s->ρ j≠b)->vx ρ o.oblks rr.2 (xr kl (zv kl S.H)) b=if b∈kl then .dead else kb kl (S.H b):=λb hb=>by
   rw [putBlks_other _ _ _ _ hb,dropBlks_eq,yN]
  generalize hH':vx ρ o.oblks rr.2 (xr kl (zv kl S.H))=H' at hK3 hat hoff
  have hex:∃ μ':Nat->Option Nat,(∀ j s,zb o.oblks j=some s->μ' (ρ j)=μ2 j)/\∀ b,(∀ j s,zb o.oblks j=some s->ρ j≠b)->μ' b=μ b:=by
   classical
   refine ⟨λb=>if hh:∃ j s,zb o.oblks j=some s/\ρ j=b then μ2 hh.choose else μ b,λj s hs=>?_,λb hb=>?_⟩
   ·have hh:∃ j' s,zb o.oblks j'=some s/\ρ j'=ρ j:=⟨j,s,hs,rfl⟩;simp only [hh,dite_true];obtain ⟨_,_,h3⟩:=hh.choose_spec;rw [hinj0 _ _ h3]
   ·exact dif_neg λ⟨j,s,h1,h2⟩=>hb j s h1 h2
  obtain ⟨μ3,hm3,hm3'⟩:=hex
  have hlive2:∀ j s,zb o.oblks j=some s->zT o.oblks rr.2 j≠.dead:=λj s hs=>by
   obtain ⟨x,hx⟩:=vT o.oblks rr.2 j s hs;rw [hx];exact (unB_kin s x).live
  have hren:Ren o.oblks ρ μ2 μ3 (zT o.oblks rr.2) H':=λj s hs=>⟨hm3 j s hs,hat j s hs,hlive2 j s hs⟩
  have hcase:∀ b,(∃ j s,zb o.oblks j=some s/\ρ j=b)\/(∀ j s,zb o.oblks j=some s->ρ j≠b):=λb=>by
   by_cases hh:∃ j s,zb o.oblks j=some s/\ρ j=b
   ·exact .inl hh
   ·exact .inr λj s h1 h2=>hh ⟨j,s,h1,h2⟩
  have hold:∀ b,(∀ j s,zb o.oblks j=some s->ρ j≠b)->H' b≠.dead->b∉kl/\S.H b≠.dead/\H' b=kb kl (S.H b)/\μ3 b=μ b:=λb hb hl=>by
   have h1:=hoff b hb;by_cases hbk:b∈kl
   ·rw [if_pos hbk] at h1;exact absurd h1 hl
   ·rw [if_neg hbk] at h1;refine ⟨hbk,λhd=>hl ?_,h1,hm3' b hb⟩;rw [h1];exact ut.1 hd
  have hunbound:∀ b,(∀ j s,zb o.oblks j=some s->ρ j≠b)->b∉kl->∀ j,j<o.blks.length->zw B.m j≠some (some b):=λb hb hbk j hj hf=>by
   obtain ⟨s,hs,_,hdat,_⟩:=hsrc j hj b hf
   have hρj:ρ j=b:=by
    rw [<- hρ];unfold renOf
    have:Nat.ble o.blks.length j=false:=by
     cases hh:Nat.ble o.blks.length j with
     | false=>rfl
     | true=>have:=Nat.le_of_ble_eq_true hh;omega
    rw [this,hf];rfl
   have hmem:=vF hs;have hs2:=fblks _ hmem
   cases s with
   | data t =>
    refine hbk ?_;rw [<- hkl];exact List.mem_append_right _ (List.mem_map.2 ⟨j,mem_dataIds hmem,hρj⟩)
   | iter=>have:=hs2.1.2;simp [notIter] at this
   | vars cs =>
    have h4:=hs2.2
    cases hko:zb o.oblks j with
    | none=>simp [hko,tagO,BSh.tag] at h4
    | some s'=>exact hb j s' hko hρj
   | mapd kt vt ag =>
    refine hbk ?_;rw [<- hkl];exact List.mem_append_right _ (List.mem_map.2 ⟨j,sB hmem,hρj⟩)
  have htrk:∀ g,wy μ3 H' g->wy μ2 (zT o.oblks rr.2) g\/∃ b,(∀ j s,zb o.oblks j=some s->ρ j≠b)/\b∉kl/\S.H b≠.dead/\μ b=some g:=λg ⟨b,h1,h2⟩=>by
   rcases hcase b with ⟨j,s,hs,rfl⟩ | hb
   ·rw [hm3 j s hs] at h2;exact .inl ⟨j,hlive2 j s hs,h2⟩
   ·obtain ⟨k1,k2,_,k4⟩:=hold b hb h1;exact .inr ⟨b,hb,k1,k2,by rw [<- k4];exact h2⟩
  have htrk1:∀ g,wy (wF μ B) (zT o.blks q) g->wy μ S.H g:=λg=>hfin.trk
  have hk:Keep (Not F μ S.H).trk w w':=⟨hchg.size,λg hg hn=>hchg.keep g hg λht=>hn (.inr (htrk1 g ht))⟩
  have hN:Sub w (Not F μ3 H') (Not F μ S.H):=Sub.ofTrk λg hg hn=>by
   rcases htrk g hn with h1 | ⟨b,_,_,h1,h2⟩
   ·exact htrk1 g ((hnew g h1).resolve_right (by omega))
   ·exact ⟨b,h1,h2⟩
  have hkept:∀ b,(∀ j s,zb o.oblks j=some s->ρ j≠b)->b∉kl->S.H b≠.dead->∀ g,μ b=some g->w'.heap[g]?=w.heap[g]?:=λb hb hbk hl g hg=>by
   refine hchg.keep g (hp.lt b g hl hg) λ⟨j,h1,h2⟩=>?_
   have h3:=hf2 j h1;unfold From at h3;unfold wF at h2
   cases hf:zw B.m j with
   | none=>simp [hf] at h2
   | some x =>
    cases x with
    | none=>simp [hf] at h2
    | some b' =>
     simp only [hf] at h2 h3
     have:=hp.inj b b' g hl h3.1 hg h2
     subst this;exact hunbound b hb hbk j (hkey j h1) hf
  have hcompat:∀ b,zS kl b=false->S.H b≠.dead->ua w w' μ μ3 S.H H' b:=λb hbk hl=>by
   have hbk':b∉kl:=λhm=>by rw [zc.2 hm] at hbk;cases hbk
   rcases hcase b with ⟨j,s,hs,hjb⟩ | hb
   ·rcases hρc j with ⟨h1,b',h2,h3⟩ | h1
    ·rw [hjb] at h3;subst h3;obtain ⟨s0,hs0,hl0,hd0,hv0⟩:=hsrc j h1 b h2;have hmem:=vF hs0;have hs2:=fblks _ hmem
     have htag:s0.tag≠0->ua w w' μ μ3 S.H H' b:=λht=>by
      have h4:=hs2.2;simp only [hs,tagO] at h4
      have hst:s.tag=s0.tag:=by
       rw [Bool.or_eq_true] at h4;rcases h4 with h4 | h4
       ·exact absurd (xi h4) ht
       ·exact xi h4
      obtain ⟨x,hx⟩:=vT o.oblks rr.2 j _ hs;obtain ⟨y,hy⟩:=vT o.blks q j _ hs0;have hxt:(zT o.oblks rr.2 j).tag=s.tag:=by rw [hx];exact (unB_kin s x).tag
      have hyt:(zT o.blks q j).tag=s0.tag:=by rw [hy];exact (unB_kin s0 y).tag
      obtain ⟨_,hpj⟩:=hpin j h1 (by rw [hxt,hst];exact ht);have hbt:(S.H b).tag=s0.tag:=(hv0 (by rw [hyt];exact ht)).trans hyt;refine ⟨?_,?_⟩
      ·rw [<- hjb,hm3 j _ hs,hpj];unfold wF;rw [h2,hjb]
      ·have hd:H' b≠.dead:=by
        rw [<- hjb,hat j _ hs];exact renB_live (hlive2 j _ hs)
       cases hSb:S.H b <;> simp only <;> first | exact hd | (rw [hSb] at hbt;exact absurd hbt.symm ht)
     cases s0 with
     | data t=>exact absurd (by rw [<- hkl];exact List.mem_append_right _ (List.mem_map.2 ⟨j,mem_dataIds hmem,hjb⟩)) hbk'
     | iter=>have:=hs2.1.2;simp [notIter] at this
     | vars cs=>exact htag (by simp [BSh.tag])
     | mapd kt vt ag=>exact absurd (by rw [<- hkl];exact List.mem_append_right _ (List.mem_map.2 ⟨j,sB hmem,hjb⟩)) hbk'
    ·have:=hlive_lt b hl;omega
   ·have hH:H' b=kb kl (S.H b):=by rw [hoff b hb,if_neg hbk']
    refine ⟨hm3' b hb,?_⟩
    cases hSb:S.H b with
    | dead=>exact absurd hSb hl
    | data t l =>
     refine ⟨⟨l,by rw [hH];exact ut.2.2.2 t l hSb,rfl⟩,λg n hg hrm=>?_⟩;exact u9 (λ_=>hkept b hb hbk' hl g hg) hrm
    | vars cs=>simp only;rw [hH];exact ut.2.1 hl
    | iter s k=>simp only;rw [hH];exact ut.2.1 hl
    | mapd kt vt ag l=>simp only;rw [hH];exact ut.2.1 hl
  have hsl:(va o.out||wC o.oblks)=true->SubL (yu o.out||xq o.oblks) w' (Not F μ3 H') (Not F' μ2 (zT o.oblks rr.2)):=λhh=>by
   have key:∀ b,b∉kl->b∉B.y:=λb hbk hy=>hbk (by
    rw [<- hkl,<- hgone,hh];refine List.mem_append_left _ ?_
    cases (yu o.out||xq o.oblks)
    ·exact hy
    ·exact List.mem_append_right _ hy)
   refine ⟨λg _ hn=>?_,λ_ _ h=>h,λhln=>⟨λg _ hn=>?_,λg _ hn=>?_,λ_ _ h=>h,λ_ _ h=>h⟩⟩
   ·rcases hn with hn | hn
    ·exact .inl (.inl hn)
    ·rcases htrk g hn with h1 | ⟨b,hb,hbk,h1,h2⟩
     ·exact .inr h1
     ·exact .inl (.inr ⟨b,h1,h2,key b hbk,hunbound b hb hbk⟩)
   ·rcases hn with hn | hn
    ·exact .inl (.inl hn)
    ·rcases htrk g hn with h1 | ⟨b,hb,hbk,h1,h2⟩
     ·exact .inr h1
     ·exact .inl (.inr ⟨b,h1,h2,key b hbk,hunbound b hb hbk⟩)
   ·rcases hn with hn | hn
    ·exact .inl (.inl hn)
    ·rcases htrk g hn with h1 | ⟨b,hb,hbk,h1,h2⟩
     ·exact .inr h1
     ·refine .inl (.inr ⟨b,h1,h2,⟨λhz=>hbk ?_,key b hbk⟩,hunbound b hb hbk⟩);rw [<- hkl,<- hgone,hh,hln];exact List.mem_append_left _ (List.mem_append_left _ hz)
  have hapart:∀ b g,H' b≠.dead->μ3 b=some g->¬ F g:=λb g hl hg hF=>by
   rcases hcase b with ⟨j,s,hs,rfl⟩ | hb
   ·rw [hm3 j s hs] at hg;exact hp2.apart j g (hlive2 j s hs) hg (.inl hF)
   ·obtain ⟨_,k2,_,k4⟩:=hold b hb hl;exact hp.apart b g k2 (by rw [<- k4];exact hg) hF
  have hapart2:∀ b g,H' b≠.dead->μ3 b=some g->¬ (zJ P).out g:=λb g hl hg hF=>by
   rcases hcase b with ⟨j,s,hs,rfl⟩ | hb
   ·rw [hm3 j s hs] at hg;exact hp2.tapart j g (hlive2 j s hs) hg hF
   ·obtain ⟨_,k2,_,k4⟩:=hold b hb hl;exact hp.tapart b g k2 (by rw [<- k4];exact hg) hF
  have hmark2:∀ b g,unm (H' b)=true->μ3 b=some g->NoMark w' g:=λb g hl hg=>by
   rcases hcase b with ⟨j,s,hs,rfl⟩ | hb
   ·rw [hm3 j s hs] at hg;refine hp2.mark j g ?_ hg;rw [hat j s hs] at hl;revert hl
    cases zT o.oblks rr.2 j <;> exact id
   ·obtain ⟨k1,k2,k3,k4⟩:=hold b hb (λh=>by (rw [h] at hl;cases hl));rw [k3,unm_kb] at hl;rw [k4] at hg;exact (hp.mark b g hl hg).of_heap (hkept b hb k1 k2 g hg)
  have hwfm2:∀ b g,H' b≠.dead->μ3 b=some g->Wfm w' g:=λb g hl hg=>by
   rcases hcase b with ⟨j,s,hs,rfl⟩ | hb
   ·rw [hm3 j s hs] at hg;exact hp2.wfm j g (hlive2 j s hs) hg
   ·obtain ⟨k1,k2,k3,k4⟩:=hold b hb hl;rw [k4] at hg;exact (hp.wfm b g k2 hg).of_heap (hkept b hb k1 k2 g hg)
  have himold:∀ j s b g,zb o.oblks j=some s->μ2 j=some g->(∀ j s,zb o.oblks j=some s->ρ j≠b)->b∉kl->S.H b≠.dead->μ b=some g->False:=λj s b g hs hg hb hbk hl hg'=>by
   have hlt:=hp.lt b g hl hg';rcases hnew g ⟨j,hlive2 j s hs,hg⟩ with ⟨j1,h1,h2⟩ | h1
   ·have h3:=hf2 j1 h1;unfold From at h3;unfold wF at h2
    cases hf:zw B.m j1 with
    | none=>simp [hf] at h2
    | some x =>
     cases x with
     | none=>simp [hf] at h2
     | some b' =>
      simp only [hf] at h2 h3
      have:=hp.inj b b' g hl h3.1 hg' h2
      subst this;exact hunbound b hb hbk j1 (hkey j1 h1) hf
   ·omega
  have hhp:Hp F μ3 H' (S.nx+(o.blks.length+o.oblks.length)) w':=by
   refine ⟨λb=>?_,λb g hl hg=>?_,λb b' g hl hl' hg hg'=>?_,λb hb=>?_,hapart,λg hg=>Nat.lt_of_lt_of_le (hp.flt g hg) hchg.size,hp2.tab,hapart2,hmark2,hwfm2⟩
   ·rcases hcase b with ⟨j,s,hs,rfl⟩ | hb
    ·have hB2:=hp2.blk j;obtain ⟨x,hx⟩:=vT o.oblks rr.2 j s hs;rw [hat j s hs];rw [hx] at hB2 ⊢;have hmem:=vF hs;have hs2:=foblks _ hmem
     cases s with
     | vars cs =>
      simp only [unB,za,renB] at hB2 ⊢;rw [hm3 j _ hs];rcases hB2 with hB2 | ⟨g,vs,h1,h2,h3,h4⟩
      ·exact .inl hB2
      refine .inr ⟨g,vs,h1,?_,h3,h4⟩;exact renL_ok hren cs x vs (λhh=>hsl (by rw [hasSlB_vars hmem hh];simp)) (λhh=>by rw [hasLnB_vars hmem hh];simp) (by simpa [bshOK] using hs2.1.2) h2
     | data t =>
      simp only [unB,za,renB] at hB2 ⊢;rw [hm3 j _ hs];rcases hB2 with h1 | ⟨g,h1,h2,h3⟩
      ·exact .inl h1
      ·refine .inr ⟨g,h1,h2,λi hi=>?_⟩;obtain ⟨es,e1,e2,e3⟩:=h3 i hi;exact ⟨es,e1,e2,RelD_to (λhh=>hsl (by rw [hasSlB_data hmem hh];simp)) (λhh=>by rw [hasLnB_data hmem hh];simp) e3⟩
     | iter =>
      simp only [unB,za,renB] at hB2 ⊢;rw [hm3 j _ hs];exact hB2
     | mapd kt vt ag =>
      simp only [unB,za,renB] at hB2 ⊢;rw [hm3 j _ hs];rcases hB2 with hB2 | ⟨g,es,c,h1,h2,h3,h4⟩
      ·exact .inl hB2
      refine .inr ⟨g,es,c,h1,h2,h3,h4.1,λi a b=>?_⟩;obtain ⟨r1,cs,r2,r3⟩:=h4.2 i a b;exact ⟨RelD_to (λhh=>hsl (by rw [hasSlB_map hmem (by rw [hh];simp)];simp)) (λhh=>by rw [hasLnB_map hmem (by rw [hh];simp)];simp) r1,cs,RelD_to (λhh=>hsl (by rw [hasSlB_map hmem (by rw [hh];simp)];simp)) (λhh=>by rw [hasLnB_map hmem (by rw [hh];simp)];simp) r2,r3⟩
    ·by_cases hbk:b∈kl
     ·rw [hoff b hb,if_pos hbk];simp [za]
     ·have hH:H' b=kb kl (S.H b):=by rw [hoff b hb,if_neg hbk]
      rw [hH];have hB:=hp.blk b
      cases hSb:S.H b with
      | dead=>rw [ut.1 rfl];simp [za]
      | vars cs =>
       have hlb:S.H b≠.dead:=by simp [hSb]
       simp only [hSb,za] at hB;have hkb:kb kl (.vars cs)=.vars (kL kl cs):=by cases kl <;> rfl
       rw [hkb];simp only [za];rw [hm3' b hb];rcases hB with hB | ⟨g,vs,h1,h2,h3,h4⟩
       ·exact .inl hB
       have hsame:=hkept b hb hbk hlb g h1;exact .inr ⟨g,vs,h1,ta hk hN hcompat _ _ h2,ze hsame h3,u9 (λ_=>hsame) h4⟩
      | data t l =>
       have hlb:S.H b≠.dead:=by simp [hSb]
       simp only [hSb,za] at hB;rw [ut.2.2.2 t l rfl];simp only [za];rw [hm3' b hb];rcases hB with h1 | ⟨g,h1,h2,h3⟩
       ·exact .inl h1
       ·have hsame:=hkept b hb hbk hlb g h1;refine .inr ⟨g,h1,u9 (λ_=>hsame) h2,λi hi=>?_⟩;obtain ⟨es,e1,e2,e3⟩:=h3 i hi;exact ⟨es,e1,ze hsame e2,e3.keep hk hN⟩
      | iter s k =>
       have hlb:S.H b≠.dead:=by simp [hSb]
       simp only [hSb,za] at hB;obtain ⟨g,h1,h2⟩:=hB;have hsame:=hkept b hb hbk hlb g h1;have hkb:kb kl (.iter s k)=.iter s k:=by cases kl <;> rfl
       rw [hkb];simp only [za];exact ⟨g,by rw [hm3' b hb];exact h1,by rw [hsame];exact h2⟩
      | mapd kt vt ag l =>
       have hlb:S.H b≠.dead:=by simp [hSb]
       simp only [hSb,za] at hB;have hkb:kb kl (.mapd kt vt ag l)=.mapd kt vt ag l:=by cases kl <;> rfl
       rw [hkb];simp only [za];rw [hm3' b hb];rcases hB with hB | ⟨g,es,c,h1,h2,h3,h4⟩
       ·exact .inl hB
       have hsame:=hkept b hb hbk hlb g h1;exact .inr ⟨g,es,c,h1,by rw [hsame];exact h2,h3,h4.keep hk hN⟩
   ·rcases hcase b with ⟨j,s,hs,rfl⟩ | hb
    ·rw [hm3 j s hs] at hg;exact hp2.lt j g (hlive2 j s hs) hg
    ·obtain ⟨_,k2,_,k4⟩:=hold b hb hl;exact Nat.lt_of_lt_of_le (hp.lt b g k2 (by rw [<- k4];exact hg)) hchg.size
   ·rcases hcase b with ⟨j,s,hs,rfl⟩ | hb <;> rcases hcase b' with ⟨j',s',hs',rfl⟩ | hb'
    ·rw [hm3 j s hs] at hg;rw [hm3 j' s' hs'] at hg';rw [hp2.inj j j' g (hlive2 j s hs) (hlive2 j' s' hs') hg hg']
    ·rw [hm3 j s hs] at hg;obtain ⟨k1,k2,_,k4⟩:=hold b' hb' hl';exact (himold j s b' g hs hg hb' k1 k2 (by rw [<- k4];exact hg')).elim
    ·rw [hm3 j' s' hs'] at hg';obtain ⟨k1,k2,_,k4⟩:=hold b hb hl;exact (himold j' s' b g hs' hg' hb k1 k2 (by rw [<- k4];exact hg)).elim
    ·obtain ⟨_,k2,_,k4⟩:=hold b hb hl;obtain ⟨_,l2,_,l4⟩:=hold b' hb' hl';exact hp.inj b b' g k2 l2 (by rw [<- k4];exact hg) (by rw [<- l4];exact hg')
   ·have hb':∀ j s,zb o.oblks j=some s->ρ j≠b:=λj s hs he=>by
     have h1:j<o.blks.length+o.oblks.length:=Nat.le_of_ble_eq_true (foblks _ (vF hs)).1.1;rcases hρc j with ⟨h2,b',h3,h4⟩ | h2
     ·have:=hbl j h2 b' h3;omega
     ·omega
    rw [hoff b hb'];split
    ·rfl
    ·exact ut.1 (hp.dead b (by omega))
  have hpl:Pl F μ S.H S.nx w kl μ3 H' (S.nx+(o.blks.length+o.oblks.length)) w':=by
   refine ⟨⟨⟨hchg.size,λg hg hn=>hchg.keep g hg λht=>hn (htrk1 g ht)⟩,hchg.os,hchg.tape,hchg.output⟩,λg hg=>?_,by omega,λx v hx=>RelV_kv hk hN hcompat x v hx,λb hb ht=>?_⟩
   ·rcases htrk g hg with h1 | ⟨b,_,_,h1,h2⟩
    ·exact (hnew g h1).imp (htrk1 g) id
    ·exact .inl ⟨b,h1,h2⟩
   ·rcases hcase b with ⟨j,s,hs,hjb⟩ | hb'
    ·rcases hρc j with ⟨h1,b',h2,h3⟩ | h1
     ·rw [hjb] at h3;subst h3;rw [<- hjb,hat j s hs,tag_renB] at ht;obtain ⟨h4,h5⟩:=hpin j h1 ht;obtain ⟨_,_,_,_,hv0⟩:=hsrc j h1 b h2;refine ⟨?_,?_⟩
      ·rw [<- hjb,hat j s hs,tag_renB,hjb,hv0 (by rw [h4];exact ht),h4]
      ·rw [<- hjb,hm3 j _ hs,h5];unfold wF;rw [h2,hjb]
     ·omega
    ·obtain ⟨_,_,k3,k4⟩:=hold b hb' (λh=>ht (by rw [h];rfl));rw [k3,tag_kb];exact ⟨rfl,k4⟩
  refine ⟨_,_,μ3,kl,val,hee.ren,hK3,rfl,rfl,hhp,hpl,?_,λhnil=>?_⟩
  ·exact renV_ok hren o.out rr.1 val (λhh=>hsl (by rw [hh];rfl)) (λhh=>by rw [hh];rfl) fout hv2
  ·refine ⟨hchg.size,λg hg _=>hchg.keep g hg λ⟨j,h1,_⟩=>?_⟩
   have:=hkey j h1
   rw [hnil] at this;simp at this
end
end Go.Ev
namespace Go.Ev
open Go
section
variable {P:Program} {F:Frm (zJ P)} {μ:Nat->Option Nat} {w w':World} {α:Type} {r:α} {M:FuncId->Bool}
theorem uI:xY HT.leaf=.leaf:=rfl
theorem yT:∀ (c:Code),zx c .leaf=[]
 | .seq a b=>by simp [zx,HT.fst,HT.snd,uI,yT a,yT b]
 | .cond _ a b=>by simp [zx,HT.fst,HT.snd,uI,yT a,yT b]
 | .block _ a=>by simp [zx,HT.fst,uI,yT a]
 | .loop _=>rfl
 | .skip=>rfl
 | .exit _=>rfl
 | .ret=>rfl
 | .region _ _ _=>rfl
 | .label _=>rfl
 | .goto _=>rfl
 | .scope a=>by simp [zx,HT.fst,uI,yT a]
 | .rangeFunc _ _ _ _=>rfl
 | .refuse _=>rfl
def NvOK (P:Program) (f:FuncId) (g:List AV->Option AV):Prop :=
 ∀ args v,g args=some v->∀ w N μ H vals,zC w N μ H args vals->∃ val,zA w N μ H v val/\∀ w1,(callFunc f vals.toArray).run P w1=.ok (.value val) w1
def PvOK (P:Program) (f:FuncId) (g:List AV->Option AV):Prop :=
 Enters P f/\∀ args v,g args=some v->∀ w N μ H vals,(zJ P).tab w->zC w N μ H args vals ->
  Calls P f vals.toArray w λe w'=>∃ val,e=.returned val/\(∀ w1 N1 μ1 H1,zA w1 N1 μ1 H1 v val)/\RowKit.Below w.heap.size w w'
def YOK (P:Program) (f:FuncId) (g:List AV->Option AV):Prop:=NvOK P f g\/PvOK P f g
def ZOK (P:Program) (f:FuncId) (z:xV):Prop :=
 Enters P f/\∀ (args:List AV) (S:St) (v:AV) (S':St),z args S=some (true,v,S')->∀ (F:Frm (zJ P)) μ w vals,Hp F μ S.H S.nx w->zC w (Not F μ S.H) μ S.H args vals ->
  Calls P f vals.toArray w λe w'=>∃ μ' kl val,e=.returned val/\S'.E=yL kl S.E/\S'.kl=S.kl++kl/\Hp F μ' S'.H S'.nx w'/\Pl F μ S.H S.nx w kl μ' S'.H S'.nx w'/\zA w' (Not F μ' S'.H) μ' S'.H v val
theorem callX_ok (hm:P.follows .mixedOrders=true) {X:FuncId->List AV->Option Orc} {B:FuncId->Option Bool} {Y:FuncId->Option (List AV->Option AV)} {Z:FuncId->Option xV} {I:FuncId->Bool} (hX:∀ f args o,X f args=some o->o.OK P f) (hB:∀ f args o,X f args=some o->∃ b,B f=some b/\(b=true->o.blks=[]))
  (hBY:∀ f b,B f=none->b∈Y f->YOK P f b) (hY:∀ f g,Y f=some g->B f=none) (hZ:∀ f z,Z f=some z->ZOK P f z/\B f=none/\Y f=none) (hI:∀ f,I f=true->Enters P f/\B f=none/\Y f=none):∀ d,xw P (callX P X B Y Z I d) (mild B Y)
 | 0=>λf args S α K r h=>by cases h
 | d+1=>λf args S α K r h F μ w vals hp hargs=>by
  simp only [callX] at h
  cases hXf:X f args with
  | some o =>
   simp only [hXf] at h;have ho:=hX f args o hXf;refine .inl ⟨λw1=>ho.enters _ _,(o.call_ok ho h hp hargs).mono λe w' ⟨v,S',μ',kl,val,h1,h2,h3,h4,h5,h6,h7,h8⟩=>⟨v,S',μ',kl,val,h1,h2,h3,h4,h5,h6,h7,λhM=>h8 ?_⟩⟩;obtain ⟨b,hb1,hb2⟩:=hB f args o hXf;simp only [mild,hb1] at hM;exact hb2 hM
  | none =>
   simp only [hXf] at h
   cases hYf:Y f with
   | some g =>
    simp only [hYf] at h
    cases hg:g args with
    | none=>simp [hg] at h
    | some v =>
     simp only [hg] at h;obtain ⟨hnp,h⟩:=zB h;rcases hBY f g (hY f g hYf) hYf with hY | ⟨hen,hpv⟩
     ·obtain ⟨val,h1,h2⟩:=hY args v hg w _ _ _ vals hargs;exact .inr ⟨v,val,hnp,h,h1,h2⟩
     ·refine .inl ⟨λw1=>hen _ _,(hpv args v hg w _ _ _ vals hp.tab hargs).mono λe w' ⟨val,h1,h2,bel⟩=>?_⟩
      exact ⟨v,S,μ,[],val,(EndR.ret hnp).2 h1,h,rfl,by simp,hp.keep ⟨bel.size,λg hg _=>bel.block g hg⟩ λg ⟨b,hb,hg⟩=>bel.block g (hp.lt b g hb hg),
       Pl.keep hp ⟨⟨bel.size,λg hg _=>bel.block g hg⟩,bel.os,bel.tape,bel.output⟩,h2 _ _ _ _,λ_=>⟨bel.size,λg hg _=>bel.block g hg⟩⟩
   | none =>
    simp only [hYf] at h
    cases hZf:Z f with
    | some z =>
     simp only [hZf] at h;obtain ⟨⟨hen,hz⟩,hb1,hb2⟩:=hZ f z hZf
     cases hza:z args S with
     | none=>simp [hza] at h
     | some q =>
      obtain ⟨side,v,S'⟩:=q;simp only [hza] at h;obtain ⟨hs,hK⟩:=yf h;subst hs;obtain ⟨hnp,hK⟩:=zB hK;refine .inl ⟨λw1=>hen _ _,(hz args S v S' hza F μ w vals hp hargs).mono λe w' ⟨μ',kl,val,h1,h2,h3,h4,h5,h6⟩=>⟨v,S',μ',kl,val,(EndR.ret hnp).2 h1,hK,h2,h3,h4,h5,h6,λhM=>?_⟩⟩;simp [mild,hb1,hb2] at hM
    | none =>
    simp only [hZf] at h
    cases hIf:I f with
    | false=>simp [hIf] at h
    | true =>
     cases hfn:P.funcs[f]? with
     | none=>simp [hIf,hfn] at h
     | some fn =>
      simp only [hIf,hfn] at h;obtain ⟨hI1,hI2,hI3⟩:=hI f hIf;refine .inl ⟨λw1=>hI1 _ _,?_⟩;refine (evFn_ok hm (callX_ok hm hX hB hBY hY hZ hI d) hfn (h:=.leaf) (λc _ x hx=>by rw [uI,yT] at hx;cases hx) h hp hargs (Nat.zero_le _)).mono ?_;intro e w' ⟨v,S',μ',a,a',val,h1,h2,h3,h4⟩;obtain ⟨kl,k1,k2⟩:=h4.pl rfl;have k3:S'.kl=kl:=by simpa [inSt] using k1
      refine ⟨v,_,μ',kl,val,h1,h2,by simp only;rw [k3],by simp only;rw [k3],h4.rg.hp,k2,h3,λhM=>?_⟩;simp [mild,hI2,hI3] at hM
theorem packV_np {H:Nat->Blk}:∀ (v:VSh) (x:AV) (B:Bd) (K:v.den->Bd->Option α),wk x=true->zr H v x B K=some r->∀ p:v.den,wk (w6 v p)=true:=λv x B K _ h p=>by
 cases v
 case may v1 v2=>cases x <;> simp [zr] at h
 all_goals rfl
theorem packR_ok {pin:Nat} {bl:List (Nat×BSh)} {H:Nat->Blk} {nx:Nat} (hp:Hp F μ H nx w) (v:VSh) (x:AV) (B:Bd) (K:v.den->Bd->Option α) (val:Value) (e:Ending) (he:EndR e x val) (hx:zA w (Not F μ H) μ H x val) (h:packR H v x B K=some r) :
  ∃ p B',K p B'=some r/\Ext B B'/\EndR e (w6 v p) val/\∀ (F':Frm (zJ P)) Bf H',Ext B' Bf->Fin F F' μ pin H bl Bf H'->zu bl v=true->zA w (Not F' (wF μ Bf) H') (wF μ Bf) H' (w6 v p) val:=by
 have plain:wk x=true->∀ (v:VSh) (K:v.den->Bd->Option α),zr H v x B K=some r->∃ p B',K p B'=some r/\Ext B B'/\EndR e (w6 v p) val/\∀ (F':Frm (zJ P)) Bf H',Ext B' Bf->Fin F F' μ pin H bl Bf H'->zu bl v=true->zA w (Not F' (wF μ Bf) H') (wF μ Bf) H' (w6 v p) val:=λhn v K h=>by
  obtain ⟨p,B',h1,h2,h3⟩:=packV_ok (pin:=pin) (bl:=bl) hp v x B K val hx h;exact ⟨p,B',h1,h2,(EndR.ret (packV_np v x B K hn h p)).2 ((EndR.ret hn).1 he),h3⟩
 cases hn:wk x with
 | true =>
  cases v
  case may v1 v2 =>
   have h':zr H v1 x B (λp B=>K (Sum.inl p) B)=some r:=by
    cases x <;> first | exact h | (simp [wk] at hn)
   obtain ⟨p,B',h1,h2,h3,h4⟩:=plain hn v1 _ h';refine ⟨Sum.inl p,B',h1,h2,h3,λF' Bf H' g1 g2 g3=>?_⟩;simp only [zu,yR] at g3;exact h4 F' Bf H' g1 g2 g3.1
  all_goals
   refine plain hn _ K ?_
   cases x <;> first | exact h | (simp [wk] at hn)
 | false =>
  cases x <;> simp only [wk,Bool.true_eq_false] at hn;rename_i y
  cases v
  case may v1 v2 =>
   have h':zr H v2 y B (λq B=>K (Sum.inr q) B)=some r:=h;simp only [zA] at hx;obtain ⟨p,B',h1,h2,h3⟩:=packV_ok (pin:=pin) (bl:=bl) hp v2 y B _ val hx h';refine ⟨Sum.inr p,B',h1,h2,he,λF' Bf H' g1 g2 g3=>?_⟩;simp only [zu,yR] at g3
   have:=h3 F' Bf H' g1 g2 g3.2
   exact this
  all_goals simp [packR] at h
theorem evTop_ok (hm:P.follows .mixedOrders=true) {C:zW} (hC:xw P C M) {f:FuncId} {fn:Func} (hf:P.funcs[f]?=some fn) (hen:Enters P f) {h:HT} {o:Orc} (hfit:o.fits=true)
  (hl:∀ c,fn.body=some c->∀ x∈zx c (xY h),x.OK P C M o.blks.length fn.ntmps) (hrun:∀ p r,o.run p=some r->zQ P C M fn h o p=some r):o.OK P f:=by
 refine ⟨hen,hfit,λp r hr F μ w vals hp hargs=>?_⟩;have he:=hrun p r hr;unfold zQ at he;refine (evFn_ok hm hC hf hl he hp hargs (Nat.le_refl _)).mono λe w' ⟨v,S',μ',a,a',val,h1,h2,h3,h4⟩=>?_
 have hfits:=hfit;simp only [Orc.fits,yR,List.all_eq_true] at hfits;obtain ⟨⟨⟨⟨⟨fnd,frange⟩,fargs⟩,fout⟩,fblks⟩,foblks⟩:=hfits;have hp':=h4.rg.hp;obtain ⟨x,B1,k1,k2,hend,k3⟩:=packR_ok (pin:=o.blks.length) (bl:=o.oblks) hp' o.out v _ _ val e h1 h3 h2;obtain ⟨y,B,k4,k5,k6,k7,k8,k9⟩:=uk (bl:=o.oblks) hp' o.oblks k1;obtain ⟨hB,k10⟩:=zB k4;simp only [y5] at k10;have hfin:Fin F F μ' o.blks.length S'.H o.oblks B (zT o.oblks y):=⟨hB,k6,k7,λ_ h=>.inl h,λ_ h=>.inl h,λb g _ hl hm hh=>hp'.apart b g hl hm (F.le g hh),λb g _ hl hm=>hp'.apart b g hl hm,rfl,rfl⟩
 have hhp:Hp F (wF μ' B) (zT o.oblks y) (o.blks.length+o.oblks.length) w':=by
  refine hfin.hp hp' (λj=>k9 F B _ (Ext.refl B) hfin (List.all_eq_true.2 λx hx=>(foblks x hx).1.2) j) (λj hj=>?_) (λ_ b g _ _ hl hm=>hp'.apart b g hl hm) hp'.flt;by_cases hd:zT o.oblks y j=.dead
  ·exact hd
  ·obtain ⟨x,hx,rfl⟩:=k8 j hd
   have:=Nat.le_of_ble_eq_true (foblks x hx).1.1
   omega
 have hv:=k3 F B _ k5 hfin fout;subst k10;refine ⟨val,wF μ' B,_,hend,hhp,hv,h4.chg,λg hg=>h4.new g (hfin.trk hg),λj hj=>(hfin.pinned j hj).trans (h4.pinned j hj)⟩
def noF {T:Tb}:Frm T:={ out:=λ_=>False }
theorem told {f:FuncId} {A:VSh} {run:A.den×yc []->Option (VSh.den .b×yc [])} (ho:Orc.OK P f ⟨A,[],.b,[],run⟩) {p:A.den} (hrun:run (p,())=some (true,())) {vals:List Value} (ht:(zJ P).tab w)
  (hargs:zC w (Not (noF:Frm (zJ P)) (λ_=>none) λ_=>.dead) (λ_=>none) (λ_=>.dead) (unL A p) vals) :
  Calls P f vals.toArray w λe w'=>e=.returned (.bool true)/\RowKit.Below w.heap.size w w':=by
 have hp:Hp (noF:Frm (zJ P)) (λ_=>none) (zT [] ()) 0 w:=⟨λb=>by simp [zT,za],λb g h=>absurd rfl h,λb b' g h=>absurd rfl h,λ_ _=>rfl,λb g h=>absurd rfl h,λg h=>h.elim,ht,λb g h=>absurd rfl h,λb g h=>(by cases h),λb g h=>absurd rfl h⟩;refine (ho.run (p,()) _ hrun noF (λ_=>none) w vals hp hargs).mono λe w' ⟨val,μ',nx',h1,h2,h3,h4,_⟩=>⟨?_,h4.os,h4.tape,h4.output,h4.size,λk hk=>h4.keep k hk λ⟨j,h,_⟩=>h rfl⟩
 have h1:e=.returned val:=h1;simp only [w6,zA] at h3;rw [h1,h3]
def xk:Nat:=9223372036854775808
def zY {σ τ:Type} (body:σ->Option (σ⊕τ)) (p:σ):Option τ:=iter body xk p
theorem LoopRec.of {C:zW} {pin n:Nat} {c:Code} {h:HT} {sh:Shape} {o:yD} {run:sh.den->Option (ym o)} {body:sh.den->Option (sh.den⊕ym o)} (hrun:run=zY body)
  (hb:∀ p,round P C M pin n c h sh o p=body p) (hn:isLoopH h=false:=by rfl):LoopRec.OK P C M pin n ⟨c,h,sh,o,run⟩:=by
 have:∀ p r,run p=some r->∃ m,iter (round P C M pin n c h sh o) m p=some r:=λp r hr=>by
  have:round P C M pin n c h sh o=body:=funext hb;simp only [hrun,zY] at hr;exact ⟨xk,by rw [this];exact hr⟩
 unfold LoopRec.OK
 cases h <;> first | exact this | cases hn
end
def lookX:List (FuncId×Orc)->FuncId->List AV->Option Orc
 | [],_,_=>none
 | (g,o)::r,f,args=>cond (Nat.beq g f&&fitsFn o.args args) (some o) (lookX r f args)
def wH:List (FuncId×Orc)->FuncId->Option Bool
 | [],_=>none
 | (g,o)::r,f=>cond (Nat.beq g f) (some ((match o.blks with
  | []=>true
  | _=>false)&&(match wH r f with
  | some b=>b
  | none=>true))) (wH r f)
def AllX (P:Program):List (FuncId×Orc)->Prop
 | []=>True
 | (g,o)::r=>o.OK P g/\AllX P r
theorem lookX_ok {P:Program}:∀ {l:List (FuncId×Orc)},AllX P l->∀ f args o,lookX l f args=some o->o.OK P f
 | [],_,f,args,o,h=>by cases h
 | (g,o')::r,h,f,args,o,ho=>by
  simp only [lookX] at ho
  cases hb:Nat.beq g f&&fitsFn o'.args args with
  | true =>
   simp only [hb,zI,y5] at ho;subst ho;simp only [yR] at hb;rw [<- xi hb.1];exact h.1
  | false =>
   simp only [hb,zK] at ho;exact lookX_ok h.2 f args o ho
theorem lookM_ok:∀ {l:List (FuncId×Orc)} {f:FuncId} {args:List AV} {o:Orc},lookX l f args=some o->∃ b,wH l f=some b/\(b=true->o.blks=[])
 | [],f,args,o,h=>by cases h
 | (g,o')::r,f,args,o,h=>by
  simp only [lookX] at h;simp only [wH]
  cases hg:Nat.beq g f with
  | false =>
   simp only [hg,Bool.false_and,zK] at h ⊢;exact lookM_ok h
  | true =>
   refine ⟨_,rfl,λhb=>?_⟩;simp only [yR] at hb
   cases hf:fitsFn o'.args args with
   | true =>
    simp only [hg,hf,yW,zI,y5] at h;subst h
    cases hbl:o'.blks with
    | nil=>rfl
    | cons _ _=>rw [hbl] at hb;simp at hb
   | false =>
    simp only [hg,hf,Bool.and_false,zK] at h;obtain ⟨b,h1,h2⟩:=lookM_ok h;rw [h1] at hb;exact h2 hb.2
def wG:List (FuncId×(List AV->Option AV))->FuncId->Option (List AV->Option AV)
 | [],_=>none
 | (g,o)::r,f=>cond (Nat.beq g f) (some o) (wG r f)
def AllY (P:Program):List (FuncId×(List AV->Option AV))->Prop
 | []=>True
 | (g,o)::r=>YOK P g o/\AllY P r
theorem lookY_ok {P:Program}:∀ {l:List (FuncId×(List AV->Option AV))},AllY P l->∀ f o,wG l f=some o->YOK P f o
 | [],_,f,o,h=>by cases h
 | (g,o')::r,h,f,o,ho=>by
  simp only [wG] at ho
  cases hb:Nat.beq g f with
  | true =>
   simp only [hb,zI,y5] at ho;subst ho;rw [<- xi hb];exact h.1
  | false =>
   simp only [hb,zK] at ho;exact lookY_ok h.2 f o ho
theorem lookY_mem:∀ {l:List (FuncId×(List AV->Option AV))} {f:FuncId} {o},wG l f=some o->f∈l.map (·.1)
 | [],f,o,h=>by cases h
 | (g,o')::r,f,o,ho=>by
  simp only [wG] at ho
  cases hb:Nat.beq g f with
  | true=>rw [xi hb];simp
  | false =>
   simp only [hb,zK] at ho;exact List.mem_cons_of_mem _ (lookY_mem ho)
def lookZ:List (FuncId×xV)->FuncId->Option xV
 | [],_=>none
 | (g,o)::r,f=>cond (Nat.beq g f) (some o) (lookZ r f)
def AllZ (P:Program):List (FuncId×xV)->Prop
 | []=>True
 | (g,o)::r=>ZOK P g o/\AllZ P r
theorem lookZ_ok {P:Program}:∀ {l:List (FuncId×xV)},AllZ P l->∀ f o,lookZ l f=some o->ZOK P f o/\f∈l.map (·.1)
 | [],_,f,o,h=>by cases h
 | (g,o')::r,h,f,o,ho=>by
  simp only [lookZ] at ho
  cases hb:Nat.beq g f with
  | true =>
   simp only [hb,zI,y5] at ho;subst ho;rw [<- xi hb];exact ⟨h.1,by simp⟩
  | false =>
   simp only [hb,zK] at ho;exact ⟨(lookZ_ok h.2 f o ho).1,List.mem_cons_of_mem _ (lookZ_ok h.2 f o ho).2⟩
def AllI (P:Program):List FuncId->Prop
 | []=>True
 | g::r=>Enters P g/\AllI P r
theorem inL_ok {P:Program}:∀ {l:List FuncId},AllI P l->∀ f,zS l f=true->Enters P f:=by
 intro l;induction l with
 | nil=>intro _ f h;cases h
 | cons g r ih =>
  intro h f hf;have hm:=zc.1 hf;rcases List.mem_cons.1 hm with rfl | hm
  ·exact h.1
  ·exact ih h.2 f (zc.2 hm)
def isNn {β:Type}:Option β->Bool
 | none=>true
 | some _=>false
theorem vP {β:Type} {x:Option β} (h:isNn x=true):x=none:=by
 cases x with
 | none=>rfl
 | some _=>cases h
def apartL (X:List (FuncId×Orc)) (Y:List (FuncId×(List AV->Option AV))) (Z:List (FuncId×xV)) (I:List FuncId):Bool :=
 (Y.all λy=>isNn (wH X y.1))&&(Z.all λz=>isNn (wH X z.1)&&isNn (wG Y z.1))&&(I.all λi=>isNn (wH X i)&&isNn (wG Y i))
def zD (fn:Func):Code :=
 match fn.body with
 | some c=>c
 | none=>.skip
def zU:Code->List Bool->Code
 | .seq a b,x::r=>zU (cond x b a) r
 | .cond _ a b,x::r=>zU (cond x b a) r
 | .block _ c,_::r=>zU c r
 | .scope c,_::r=>zU c r
 | .loop c,_::r=>zU c r
 | c,_=>c
def AllL (P:Program) (C:zW) (M:FuncId->Bool) (pin n:Nat):List LoopRec->Prop
 | []=>True
 | l::r=>l.OK P C M pin n/\AllL P C M pin n r
theorem AllL.mem {P:Program} {C:zW} {M:FuncId->Bool} {pin n:Nat}:∀ {l:List LoopRec},AllL P C M pin n l->∀ x∈l,x.OK P C M pin n
 | _::_,h,x,hx=>by
  rcases List.mem_cons.1 hx with rfl | hx
  ·exact h.1
  ·exact AllL.mem h.2 x hx
theorem ok_of {P:Program} (hm:P.follows .mixedOrders=true) {X:List (FuncId×Orc)} {Y:List (FuncId×(List AV->Option AV))} {Z:List (FuncId×xV)} {I:List FuncId} {d:Nat} (hX:AllX P X) (hY:AllY P Y) (hZ:AllZ P Z) (hI:AllI P I) (hap:apartL X Y Z I=true) {f:FuncId} {fn:Func} (hf:P.funcs[f]?=some fn) (hen:Enters P f)
  {c:Code} (hc:fn.body=some c) {h:HT} {o:Orc} (hfit:o.fits=true) {ls:List LoopRec} (hls:zx c (xY h)=ls) (hl:AllL P (callX P (lookX X) (wH X) (wG Y) (lookZ Z) (zS I) d) (mild (wH X) (wG Y)) o.blks.length fn.ntmps ls)
  (hrun:∀ p,zQ P (callX P (lookX X) (wH X) (wG Y) (lookZ Z) (zS I) d) (mild (wH X) (wG Y)) fn h o p=o.run p):o.OK P f:=by
 simp only [apartL,yR,List.all_eq_true] at hap;obtain ⟨⟨a1,a2⟩,a3⟩:=hap
 exact evTop_ok hm (callX_ok hm (lookX_ok hX) (λf args o h=>lookM_ok h) (λf b _ hb=>lookY_ok hY f b hb) (λf g h=>by
   obtain ⟨y,hy,rfl⟩:=List.mem_map.1 (lookY_mem h)
   exact vP (a1 y hy)) (λf z h=>by
   obtain ⟨h1,h2⟩:=lookZ_ok hZ f z h;obtain ⟨y,hy,rfl⟩:=List.mem_map.1 h2
   exact ⟨h1,vP (a2 y hy).1,vP (a2 y hy).2⟩) (λf h=>⟨inL_ok hI f h,vP (a3 f (zc.1 h)).1,vP (a3 f (zc.1 h)).2⟩) d) hf hen hfit (λc' hc' x hx=>by
  rw [hc] at hc'
  cases hc';rw [hls] at hx
  exact hl.mem x hx) λp r h=>(hrun p).trans h
end Go.Ev
namespace Go.Ev
open Go
theorem iter_ind {σ τ:Type} {f:σ->Option (σ⊕τ)} {I:σ->Prop} {μ:σ->Nat} {Q:τ->Prop}
  (step:∀ p,I p->(∃ q,f p=some (.inl q)/\I q/\μ q<μ p)\/∃ r,f p=some (.inr r)/\Q r):∀ (n:Nat) (p:σ),I p->μ p<n->∃ r,iter f n p=some r/\Q r
 | 0,_,_,h=>absurd h (Nat.not_lt_zero _)
 | n+1,p,hI,h=>by
  simp only [iter];rcases step p hI with ⟨q,h1,h2,h3⟩ | ⟨r,h1,h2⟩
  ·rw [h1];exact iter_ind step n q h2 (by omega)
  ·rw [h1];exact ⟨r,rfl,h2⟩
theorem z6 {σ τ:Type} {f:σ->Option (σ⊕τ)} (I:σ->Prop) (μ:σ->Nat) (Q:τ->Prop)
  (step:∀ p,I p->(∃ q,f p=some (.inl q)/\I q/\μ q<μ p)\/∃ r,f p=some (.inr r)/\Q r) {p:σ} (hI:I p) (hμ:μ p<xk):∃ r,zY f p=some r/\Q r :=
 iter_ind step xk p hI hμ
theorem zR:(9223372036854775807:Nat)/2<xk:=by unfold xk;omega
end Go.Ev
namespace Go.Ev
open Go Go.WideShapes
def fitD:(t:Ty)->t.den->Prop
 | .int k,n=>(Lit.int k n).wf=true
 | .u8,_=>True
 | .bool,_=>True
 | .str,l=>List.length l<=maxLen
 | .sl t,l=>List.length l<=maxLen/\∀ x∈l,fitD t x
 | .unit,_=>True
 | .pair a b,p=>fitD a p.1/\fitD b p.2
 | .ln t,x=>fitD t x
 | .rg t,x=>fitD t x
 | .pt _,_=>True
 | .mp _ _ _,_=>True
 | .mx _,_=>True
def noNN:NN:=⟨λ_=>False,λ_=>False,λ_ h=>h,λ_=>False,λ_=>False⟩
theorem rep_rg (t:Ty) (n:Nat):xn (t.rep n)=true:=by cases n <;> rfl
theorem tyOf_rg {P:Program}:∀ {d:Nat} {t:TypeId} {y:Ty},tyOf P d t=some y->xn y=true
 | 0,_,_,h=>by cases h
 | d+1,t,y,h=>by
  unfold tyOf at h;split at h
  ·cases h;rfl
  ·cases h;rfl
  ·cases h;rfl
  ·cases h;rfl
  ·obtain ⟨z,_,hz⟩:=Option.map_eq_some_iff.1 h;rw [<- hz];rfl
  ·obtain ⟨z,_,hz⟩:=Option.map_eq_some_iff.1 h;rw [<- hz];exact rep_rg _ _
  ·rename_i fs _
   cases hl:fs.toList with
   | nil=>rw [hl] at h;cases h;rfl
   | cons f r =>
    rw [hl] at h;simp only [List.foldr_cons] at h;split at h
    ·cases h;rfl
    ·cases h
  ·cases h
def layF (P:Program) (q:TypeId->Bool):List Field->Nat->Nat->Bool
 | [],off,n=>Nat.beq off n
 | f::r,off,n=>Nat.beq f.offset off&&q f.type&&layF P q r (off+P.cellsOf f.type) n
def layB (P:Program):Nat->TypeId->Bool
 | 0,_=>false
 | d+1,t=>match P.underlying t with
  | some (.int _)=>true
  | some .bool=>true
  | some .string=>true
  | some (.slice e)=>layB P d e&&(match tyOf P d e with
    | some y=>Nat.beq (P.cellsOf e) y.size&&Nat.ble 1 y.size
    | none=>false)
  | some (.struct fs)=>layF P (layB P d) fs.toList 0 (P.cellsOf t)
  | _=>false
section
variable {P:Program} {w:World} {H:Type} {enc:TypeId×Value->H} {base:Nat} {spare:Nat->Bool} {held:Bool}
theorem pick_list {β:Type} {Q:Nat->β->Prop}:∀ (n:Nat),(∀ i,i<n->∃ x,Q i x)->∃ l:List β,l.length=n/\∀ i,(h:i<l.length)->Q i l[i]
 | 0,_=>⟨[],rfl,λi h=>by simp at h⟩
 | n+1,h=>by
  obtain ⟨l,h1,h2⟩:=pick_list n λi hi=>h i (by omega)
  obtain ⟨x,hx⟩:=h n (by omega);refine ⟨l++[x],by simp [h1],λi hi=>?_⟩;simp only [xe,List.length_cons,List.length_nil] at hi;rcases Nat.lt_or_ge i l.length with hlt | hge
  ·rw [List.getElem_append_left hlt];exact h2 i hlt
  ·have:i=n:=by omega
   subst this;rw [List.getElem_append_right hge];simpa [h1] using hx
theorem cells_row {a:Addr} {n:Nat} {es:List Value} (hs:a.spot=none) (h:w.cells? base a n=some es):es.length=n/\rowAt w a.block a.off es:=by
 obtain ⟨_,h1,h2⟩:=World.cells?_some h;refine ⟨h1,λi hi=>?_⟩
 have:=h2 i (by omega)
 obtain ⟨b,o,s⟩:=a;simp only at hs;subst hs;rw [xb] at this;rw [this];simp [hi]
theorem noN {T:Tb} (g:Nat):¬ Not (noF:Frm T) (λ_=>none) (λ_=>.dead) g:=λh=>h.elim id λ⟨_,h,_⟩=>h rfl
theorem arg_one {t:TypeId} {r:Reach} {b:Nat} {v:Value} {x:AV} {N:NN} {μ:Nat->Option Nat} {Hh:Nat->Blk} (hs:∀ fs,P.underlying t≠some (.struct fs)) (ha:∀ n e,P.underlying t≠some (.array n e)) (hv:Value.okWide P w r b t v)
  (h:zC w N μ Hh [x] v.cells.toList):zA w N μ Hh x v:=by
 simp only [zC] at h;obtain ⟨v1,vr,h1,h2,rfl⟩:=h
 have hne:∀ cs,v≠.agg cs:=λcs hc=>by
  subst hc;unfold Value.okWide at hv
  cases hu:P.underlying t with
  | none=>simp [hu,Cell.okWide,Cell.ok] at hv
  | some u=>cases u <;> simp_all [Cell.okWide,Cell.ok]
 have hcells:v.cells.toList=[v]:=by cases v <;> first | rfl | exact absurd rfl (hne _)
 rw [hcells] at h1;simp only [List.cons.injEq,and_true] at h1;rw [h1];exact h2
end
end Go.Ev
