/- Texts that the last one leans on, 6. -/
import Derived.Test.YtipfcejaekfogaaGreatDoorME
import Derived.Defers
import Derived.Recover
namespace Go.Ev
open Go
mutual
theorem unV_calm:∀ (v:VSh) (p:v.den),hasLn v=false->calmV (unV v p)=true
 | .i _,_,_=>rfl | .u,_,_=>rfl | .b,_,_=>rfl | .s,_,_=>rfl | .ptr _ _,_,_=>rfl | .own _,_,_=>rfl | .win _,_,_=>rfl | .mp _,_,_=>rfl | .mptr _ _,_,_=>rfl
 | .nilp,_,_=>rfl | .kb _,_,_=>rfl | .ki _ _,_,_=>rfl | .ks _,_,_=>rfl | .bad,_,_=>rfl | .nil,_,_=>rfl | .cons _ _,_,_=>rfl
 | .sl t,l,h=>by simp only [hasLn] at h;simp only [unV,calmV,h,Bool.not_false]
 | .fn f cs,p,h=>by simp only [hasLn] at h;simp only [unV,calmV];exact unL_calm cs p h
 | .agg cs,p,h=>by simp only [hasLn] at h;simp only [unV,calmV];exact unL_calm cs p h
 | .tup cs,p,h=>by simp only [hasLn] at h;simp only [unV,calmV];exact unL_calm cs p h
 | .ifc t v,p,h=>by simp only [hasLn] at h;simp only [unV,calmV];exact unV_calm v p h
 | .may v w,p,h=>by
  simp only [hasLn,Bool.or_eq_false_iff] at h
  match (show v.den⊕w.den from p) with
  | .inl p=>exact unV_calm v p h.1
  | .inr p =>
   show calmV (.pan (unV w p))=true
   simp only [calmV]
   exact unV_calm w p h.2
theorem unL_calm:∀ (v:VSh) (p:v.den),hasLn v=false->calmL (unL v p)=true
 | .cons v w,p,h=>by
  simp only [hasLn,Bool.or_eq_false_iff] at h
  simp only [unL,calmL,unV_calm v p.1 h.1,unL_calm w p.2 h.2,bAs]
 | .i _,_,_=>rfl | .u,_,_=>rfl | .b,_,_=>rfl | .s,_,_=>rfl | .ptr _ _,_,_=>rfl | .own _,_,_=>rfl | .win _,_,_=>rfl | .mp _,_,_=>rfl | .mptr _ _,_,_=>rfl
 | .nilp,_,_=>rfl | .kb _,_,_=>rfl | .ki _ _,_,_=>rfl | .ks _,_,_=>rfl | .bad,_,_=>rfl | .nil,_,_=>rfl | .sl _,_,_=>rfl | .fn _ _,_,_=>rfl | .agg _,_,_=>rfl | .tup _,_,_=>rfl
 | .ifc _ _,_,_=>rfl | .may _ _,_,_=>rfl
end
def calmBS:BSh->Bool
 | .vars c=>!hasLn c
 | .data t=>!lnTy t
 | .mapd k t _=>!lnTy k&&!lnTy t
 | .iter=>true
def calmSh (sh:Shape):Bool:=(sh.slots.all λp=>!hasLn p.2)&&sh.blks.all λp=>calmBS p.2
theorem unB_calm (s:BSh) (p:s.den) (h:calmBS s=true):calmB (unB s p)=true:=by
 cases s with
 | vars c=>simp only [calmBS,Bool.not_eq_true'] at h;simp only [unB,calmB];exact unL_calm c p h
 | data t=>exact h
 | iter=>rfl
 | mapd k t a=>exact h
theorem unSlots_calm:∀ (l:List (Nat×VSh)) (q:slotsDen l),(l.all λp=>!hasLn p.2)=true->∀ t,calmV (unSlots l q t)=true
 | [],_,_,_=>rfl
 | (k,v)::l,q,h,t=>by
  simp only [List.all_cons,bAt,Bool.not_eq_true'] at h
  simp only [unSlots]
  by_cases hk:t=k
  ·subst hk;rw [upd_same];exact unV_calm v q.1 h.1
  ·rw [upd_other hk];exact unSlots_calm l q.2 (by simpa using h.2) t
theorem unBlks_calm:∀ (l:List (Nat×BSh)) (q:blksDen l),(l.all λp=>calmBS p.2)=true->∀ b,calmB (unBlks l q b)=true
 | [],_,_,_=>rfl
 | (k,s)::l,q,h,b=>by
  simp only [List.all_cons,bAt] at h
  simp only [unBlks]
  by_cases hk:b=k
  ·subst hk;rw [updH_same];exact unB_calm s q.1 h.1
  ·rw [updH_other hk];exact unBlks_calm l q.2 h.2 b
theorem calm_E {sh:Shape} (h:calmSh sh=true) (p:sh.den) (t:Nat):calmV ((unpack sh p).E t)=true:=by
 simp only [calmSh,bAt] at h
 exact unSlots_calm sh.slots p.1 h.1 t
theorem calm_H {sh:Shape} (h:calmSh sh=true) (p:sh.den) (b:Nat):calmB ((unpack sh p).H b)=true:=by
 simp only [calmSh,bAt] at h
 exact unBlks_calm sh.blks p.2 h.2 b
theorem unSlots_bad:∀ (l:List (Nat×VSh)) (q:slotsDen l) (t:Nat),(∀ p∈l,p.1≠t)->unSlots l q t=.bad
 | [],_,_,_=>rfl
 | (k,v)::l,q,t,h=>by
  simp only [unSlots]
  have hk:t≠k:=λe=>h (k,v) (by simp) e.symm
  rw [upd_other hk]
  exact unSlots_bad l q.2 t λp hp=>h p (List.mem_cons_of_mem _ hp)
def fitB:(t:Ty)->t.den->Bool
 | .sl t,l=>decide (List.length l<=4611686018427387904)&&List.all l (fitB t)
 | .pair a b,p=>fitB a p.1&&fitB b p.2
 | .ln t,x=>fitB t x
 | .rg t,x=>fitB t x
 | _,_=>true
theorem cond_mapO {α β:Type} (g:α->β) (c:Bool) (a b:Option α):Option.map g (cond c a b)=cond c (Option.map g a) (Option.map g b):=by cases c <;> rfl
theorem bind_mapO {α β γ:Type} (g:β->γ) (x:Option α) (h:α->Option β):Option.map g (Option.bind x h)=Option.bind x λr=>Option.map g (h r):=by cases x <;> rfl
def KB (pin d:Nat) (T:Ty) (shN shR:Shape):Ex->St->Option (outsDen [(.normal,shN),(.ret,shR)]):=λex S=>match ex with
 | .normal=>inner (S.E d) (.rg T.rgm) λl=>cond (fitB (.sl T.rgm) l) (pack pin shN S λq=>some (.inl q)) none
 | .ret=>pack pin shR S λq=>some (.inr q)
 | _=>none
def FC {Tb:Tb} (R:Nat->Prop):Frm Tb:={ out:=λ_=>False,reg:=R,unf:=R }
abbrev NC {Tb:Tb} (R:Nat->Prop):NN:=Not (FC R:Frm Tb) (λ_=>none) (λ_=>.dead)
def WritesOK (P:Program) (n d:Nat) (T:Ty) (keep:List Nat) (Cc:Code):Prop :=
 ∀ (a:Act) (w:World) (R:Nat->Prop) (l:List T.rgm.den),n=a.tmps.size->(tabsOf P).tab w->(∀ g,(tabsOf P).out g->¬ R g)->RelD w (NC (Tb:=tabsOf P) R) (.sl (.rg T.rgm)) l [a.tmps.getD d undef]->fitB (.sl T.rgm) l=true ->
  Cc.wp P (λe a' w'=>e=.normal/\(∀ t∈keep,a'.tmps.getD t undef=a.tmps.getD t undef)/\a'.tmps.size=a.tmps.size/\a'.defers=a.defers/\Chg R w w') a w
section
variable {P:Program} {C:Calling} {M:FuncId->Bool} {pin n:Nat}
theorem inner_some {x:AV} {T:Ty} {α:Type} {r:α} {K:List T.den->Option α} (h:inner x T K=some r):∃ l,x=.sl T l/\K l=some r:=by
 unfold inner at h
 split at h
 ·split at h
  ·rename_i t l ht
   subst ht
   exact ⟨l,rfl,h⟩
  ·cases h
 ·cases h
theorem sem_region (hm:P.follows .mixedOrders=true) (hC:CallOK P C M) {id:Nat} {A:Code} {Bs:List Code} {Cc:Code} {sh shN shR:Shape} {d:Nat} {T:Ty} {keep:List Nat}
    {ownf:sh.den->Option (List T.den)} {runB:sh.den->List T.den->Option (outsDen [(.normal,shN),(.ret,shR)])}
    (c1:calmSh sh=true) (c2:calmSh shN=true) (c3:calmSh shR=true) (hT:lnTy T=false) (hk:(shN.slots.all λp=>hasN keep p.1)=true)
    (heA:∀ (p:sh.den) (f:Nat->Value),ev P C M pin n A .leaf ⟨λt=>.lit (lentV ((unpack sh p).E t)) (f t),λ_=>.dead,sh.nx,[]⟩ (KA d T keep)=(ownf p).map λl=>(l,keep.map f))
    (heB:∀ (p:sh.den) (l:List T.den),ev P C M pin n (seqL Bs .skip) .leaf ⟨regE d T keep (unpack sh p).E l,(unpack sh p).H,sh.nx,[]⟩ (KB pin d T shN shR)=runB p l)
    (hW:WritesOK P n d T keep Cc) :
    SemOK P pin n (.block id (.seq A (seqL Bs Cc))) sh [(.normal,shN),(.ret,shR)] λp=>(ownf p).bind (runB p):=by
  intro p q hq F μ w a hn hpin hr
  cases how:ownf p with
  | none=>simp [how] at hq
  | some l =>
  simp only [how,oBs] at hq
  have hA:=heA p λt=>a.tmps.getD t undef
  rw [how,Option.map_some] at hA
  let S:=unpack sh p
  have hrb:Rg (bigF F μ S.H w) (λ_=>none) [] ⟨λt=>.lit (lentV (S.E t)) (a.tmps.getD t undef),λ_=>.dead,sh.nx,[]⟩ a w:=by
    refine ⟨⟨λb=>by simp [RelB],λb g h=>absurd rfl h,λb b' g h=>absurd rfl h,λ_ _=>rfl,λb g h=>absurd rfl h,λg hg=>?_,hr.hp.tab,λb g h=>absurd rfl h,λb g h=>(by cases h),λb g h=>absurd rfl h⟩,λt=>?_,λt j b x h=>by cases h⟩
    . rcases hg with (hg | ⟨b,h1,h2⟩) | hg
      . exact hr.hp.flt g (F.le g hg)
      . exact hr.hp.lt b g h1 h2
      . exact hg
    . simp only [RelV]
      refine ⟨trivial,?_⟩
      have hs:RelV w (Not F μ S.H) μ S.H (S.E t) (a.tmps.getD t undef):=by
        have:=hr.e t
        cases hE:S.E t <;> simp only [S,hE] at this ⊢ <;> first | exact this | simp [RelV]
      refine RelV_lent (N:=Not F μ S.H) (λg _ hg=>?_) (λg hg hu=>?_) hs
      . rcases hg with hg | ⟨b,h,_⟩
        . exact hg
        . exact absurd rfl h
      . have:w.heap.size<=g:=hu
        omega
  refine wp_block (wp_seq (wp_mono (ev_ok hm hC A .leaf (λz hz=>by rw [loopsIn_leaf] at hz;cases hz) _ _ _ _ hA (bigF F μ S.H w) (λ_=>none) w a hn hpin hrb) λe a1 w1 ⟨ex,S1,μ1,av,h1,h2,h3⟩=>?_))
  cases ex with
  | exit _=>simp [KA] at h2
  | ret=>simp [KA] at h2
  | pan=>simp [KA] at h2
  | normal =>
  obtain ⟨rfl,rfl⟩:=h1
  simp only [KA] at h2
  obtain ⟨l',hE1,h2⟩:=inner_some h2
  obtain ⟨us,h4,h5⟩:=Option.map_eq_some_iff.1 h2
  simp only [Prod.mk.injEq] at h5
  obtain ⟨rfl,rfl⟩:=h5
  have hlit:=litsOf_get h4
  have hchg0:Chg (λ_=>False) w w1:=⟨⟨h3.chg.size,λg hg _=>h3.chg.keep g hg λ⟨b,h,_⟩=>h rfl⟩,h3.chg.os,h3.chg.tape,h3.chg.output⟩
  have hkeep:∀ t∈keep,a1.tmps.getD t undef=a.tmps.getD t undef:=λt ht=>by
    obtain ⟨x,hx⟩:=hlit t ht
    have:=h3.rg.e t
    rw [hx] at this
    simp only [RelV] at this
    exact this.1
  have hown:RelD w1 (Not (bigF F μ S.H w) μ1 S1.H) (.sl T) l' [a1.tmps.getD d undef]:=by
    have:=h3.rg.e d
    rw [hE1] at this
    simpa only [RelV] using this
  have hcalm1:Calm (λ_=>False) w w1 (Not F μ S.H) (Not (regF F w w1) μ S.H):=by
    refine ⟨hchg0.toKeep,λg _ h=>h.elim,λg hg hn=>?_,λg hg hn=>?_⟩
    . rcases hn with (hn | hn) | hn
      . exact .inl hn
      . exact absurd hn.1 (by omega)
      . exact .inr hn
    . rcases hn with hn | hn
      . exact hn
      . exact absurd hn.1 (by omega)
  have hsp:Spare (λ_=>False) w μ S.H:=λb g hl hg=>⟨hr.hp.lt b g hl hg,λh=>h⟩
  have hr2:Rg (regF F w w1) μ [] ⟨regE d T keep S.E l',S.H,sh.nx,[]⟩ a1 w1:=by
    refine ⟨Hp_calm hr.hp (λb=>calm_H c1 p b) hcalm1 hsp (λb g hl hg h=>?_) (λg hg=>?_) λg _ h=>h,λt=>?_,λt j b x h=>?_⟩
    . rcases h with h | h
      . exact hr.hp.apart b g hl hg h
      . have:=hr.hp.lt b g hl hg
        omega
    . rcases hg with hg | hg
      . exact Nat.lt_of_lt_of_le (hr.hp.flt g hg) hchg0.size
      . exact hg.2
    . show (match regE d T keep S.E l' t with
        | .gd j b x=>_
        | x=>RelV w1 _ _ _ x (a1.tmps.getD t undef))
      have hgoal:RelV w1 (Not (regF F w w1) μ S.H) μ S.H (regE d T keep S.E l' t) (a1.tmps.getD t undef):=by
        unfold regE
        cases hd:Nat.beq t d with
        | true =>
          have:=Nat.eq_of_beq_eq_true hd
          subst this
          simp only [cTt,RelV]
          have:=RelD_rgm (N:=Not (bigF F μ S.H w) μ1 S1.H) (NR:=Not (regF F w w1) μ S.H) (n0:=w.heap.size) (λg hg=>Nat.le_of_not_lt λh=>hg (.inl (.inr h))) (λg hg=>hg) (λg hg h=>?_) (λg h1 h2=>⟨h1,h2⟩) (t:=.sl T) hT hown
          . simpa only [Ty.rgm] using this
          . rcases h with h | ⟨b,h1,h2⟩
            . have:=hr.hp.flt g (F.le g h);omega
            . have:=hr.hp.lt b g h1 h2;omega
        | false =>
          simp only [cFf]
          cases hkp:hasN keep t with
          | false=>simp [RelV]
          | true =>
            simp only [cTt]
            rw [hkeep t (hasN_mem.1 hkp)]
            have hs:RelV w (Not F μ S.H) μ S.H (S.E t) (a.tmps.getD t undef):=by
              have:=hr.e t
              cases hE:S.E t <;> simp only [S,hE] at this ⊢ <;> first | exact this | simp [RelV]
            exact RelV_calm hcalm1 hsp _ _ (calm_E c1 p t) hs
      revert hgoal
      cases hx:regE d T keep S.E l' t <;> intro hgoal <;> first
        | exact hgoal
        | (exfalso
           unfold regE at hx
           cases hd:Nat.beq t d <;> simp only [hd,cTt,cFf] at hx
           . cases hkp:hasN keep t <;> simp only [hkp,cTt,cFf] at hx
             . cases hx
             . have:=hr.tags t _ _ _ hx
               cases this
           . cases hx)
    . unfold regE at h
      cases hd:Nat.beq t d <;> simp only [hd,cTt,cFf] at h
      . cases hkp:hasN keep t <;> simp only [hkp,cTt,cFf] at h
        . cases h
        . exact hr.tags t _ _ _ h
      . cases h
  have hB:=(heB p l').trans hq
  have out:∀ {b1:Bool} {S3:St} {μ3:Nat->Option Nat} {av3:Act} {w3:World} {sh3:Shape} (q3:sh3.den) (μ4:Nat->Option Nat) (a4:Act) (w4:World),calmSh sh3=true->CP b1 (regF F w w1) pin μ ⟨regE d T keep S.E l',S.H,sh.nx,[]⟩ w1 a1 μ3 S3 w3 av3 ->
      Shaped (regF F w w1) pin μ3 S3 w3 μ4 (unpack sh3 q3)->Rg (regF F w w1) μ4 [] (unpack sh3 q3) av3 w3->(∀ t,(unpack sh3 q3).E t≠.bad->a4.tmps.getD t undef=av3.tmps.getD t undef)->a4.tmps.size=av3.tmps.size->a4.defers=av3.defers->Chg (λg=>w.heap.size<=g/\g<w1.heap.size) w3 w4 ->
      CP false F pin μ S w a μ4 (unpack sh3 q3) w4 a4:=by
    intro b1 S3 μ3 av3 w3 sh3 q3 μ4 a4 w4 hcs hcp hsh hrg htm hsz hdf hch
    have hcalm:Calm (λg=>w.heap.size<=g/\g<w1.heap.size) w3 w4 (Not (regF F w w1) μ4 (unpack sh3 q3).H) (Not F μ4 (unpack sh3 q3).H) :=
      ⟨hch.toKeep,λg _ h=>.inl (.inr h),λg _ h=>h.elim (λh=>.inl (.inl h)) .inr,λg _ h=>.inl h⟩
    have hsp:Spare (λg=>w.heap.size<=g/\g<w1.heap.size) w3 μ4 (unpack sh3 q3).H:=λb g hl hg=>⟨hrg.hp.lt b g hl hg,λh=>hrg.hp.apart b g hl hg (.inr h)⟩
    refine ⟨?_,λg hg=>?_,λj hj=>(hsh.pinned j hj).trans (hcp.pinned j hj),hsh.le,⟨Hp_calm hrg.hp (λb=>calm_H hcs q3 b) hcalm hsp (λb g hl hg h=>hrg.hp.apart b g hl hg (.inl h)) (λg h=>Nat.lt_of_lt_of_le (hrg.hp.flt g (.inl h)) hch.size) (λg hg h=>?_),λt=>?_,hrg.tags⟩,hsz.trans (hcp.size.trans h3.size),hdf.trans (hcp.defers.trans h3.defers),λh=>by cases h⟩
    . have e0:Chg (Trk μ S.H) w w1:=⟨⟨hchg0.size,λg hg _=>hchg0.keep g hg λx=>x⟩,hchg0.os,hchg0.tape,hchg0.output⟩
      have e1:Chg (Trk μ S.H) w w3:=e0.trans hcp.chg λg _ h=>h
      exact e1.trans hch λg hg h=>absurd h.1 (by omega)
    . rcases hcp.new g (hsh.trk g hg) with h | h
      . exact .inl h
      . exact .inr (Nat.le_trans hchg0.size h)
    . have:=(tabsOf P).lt w g hr.hp.tab hg
      omega
    . have hng:∀ j b y,(unpack sh3 q3).E t≠.gd j b y:=λj b y h=>by cases hrg.tags t j b y h
      have hs:=hrg.e.slot (hng)
      have hgoal:RelV w4 (Not F μ4 (unpack sh3 q3).H) μ4 (unpack sh3 q3).H ((unpack sh3 q3).E t) (a4.tmps.getD t undef):=by
        by_cases hb:(unpack sh3 q3).E t=.bad
        . rw [hb];simp [RelV]
        . rw [htm t hb]
          exact RelV_calm hcalm hsp _ _ (calm_E hcs q3 t) hs
      revert hgoal
      cases hx:(unpack sh3 q3).E t <;> intro hgoal <;> first | exact hgoal | exact absurd hx (hng _ _ _)
  refine seqL_ok hm hC Bs _ _ hB μ w1 a1 (hn.trans h3.size.symm) hpin hr2 (λS3 μ3 a3 w3 hK hcp=>?_) λex e S3 μ3 a3 av3 w3 hex hX hK hcp=>?_
  . simp only [KB] at hK
    obtain ⟨l3,hE3,hK⟩:=inner_some hK
    obtain ⟨hfit,hK⟩:=cond_some hK
    obtain ⟨q3,μ4,g1,g2,g3⟩:=pack_ok hcp.rg hK
    simp only [oSi] at g1
    have hD:RelD w3 (Not (regF F w w1) μ3 S3.H) (.sl (.rg T.rgm)) l3 [a3.tmps.getD d undef]:=by
      have:=hcp.rg.e d
      rw [hE3] at this
      simpa only [RelV] using this
    have hsub:Sub w3 (NC (Tb:=tabsOf P) (λg=>w.heap.size<=g/\g<w1.heap.size)) (Not (regF F w w1) μ3 S3.H) :=
      ⟨λg _ h=>h.elim (λh=>h.elim) λ⟨b,h,_⟩=>absurd rfl h,λg _ h=>h.elim (λh=>h.elim) λ⟨b,h,_⟩=>absurd rfl h,λg _ h=>h,λg _ h=>.inr h⟩
    have hD':=hD.keep (Keep.refl w3) hsub
    refine wp_mono (hW a3 w3 (λg=>w.heap.size<=g/\g<w1.heap.size) l3 (hn.trans (h3.size.symm.trans hcp.size.symm)) hcp.rg.hp.tab (λg hg h=>by have:=(tabsOf P).lt w g hr.hp.tab hg;omega) hD' hfit) λe a4 w4 ⟨e1,e2,e3,e4,e5⟩=>?_
    subst e1
    refine ⟨.normal,unpack shN q3,μ4,a4,⟨rfl,rfl⟩,λβ K=>by rw [<- g1];rfl,out q3 μ4 a4 w4 c2 hcp g2 g3 (λt ht=>?_) e3 e4 e5⟩
    have:∃ x∈shN.slots,x.1=t:=Classical.byContradiction λhh=>ht (unSlots_bad shN.slots q3.1 t λx hx he=>hh ⟨x,hx,he⟩)
    obtain ⟨x,hx,rfl⟩:=this
    exact e2 _ (hasN_mem.1 (List.all_eq_true.1 hk x hx))
  . cases ex with
    | normal=>exact absurd rfl hex
    | exit _=>simp [KB] at hK
    | pan=>simp [KB] at hK
    | ret =>
      obtain ⟨rfl,rfl⟩:=hX
      simp only [KB] at hK
      obtain ⟨q3,μ4,g1,g2,g3⟩:=pack_ok hcp.rg hK
      simp only [oSi] at g1
      exact ⟨.ret,unpack shR q3,μ4,a3,⟨rfl,rfl⟩,λβ K=>by rw [<- g1];rfl,out q3 μ4 a3 w3 c3 hcp g2 g3 (λ_ _=>rfl) rfl rfl (Chg.refl w3)⟩
theorem callOK_of (hm:P.follows .mixedOrders=true) {X:List (FuncId×Orc)} {Y:List (FuncId×(List AV->Option AV))} {Z:List (FuncId×Deed)} {I:List FuncId} {d:Nat} (hX:AllX P X) (hY:AllY P Y) (hZ:AllZ P Z) (hI:AllI P I) (hap:apartL X Y Z I=true) :
  CallOK P (callX P (lookX X) (lookM X) (lookY Y) (lookZ Z) (hasN I) d) (mild (lookM X) (lookY Y)):=by
 simp only [apartL,bAt,List.all_eq_true] at hap
 obtain ⟨⟨a1,a2⟩,a3⟩:=hap
 exact callX_ok hm (lookX_ok hX) (λf args o h=>lookM_ok h) (λf b _ hb=>lookY_ok hY f b hb) (λf g h=>by
   obtain ⟨y,hy,rfl⟩:=List.mem_map.1 (lookY_mem h)
   exact isNn_eq (a1 y hy)) (λf z h=>by
   obtain ⟨h1,h2⟩:=lookZ_ok hZ f z h
   obtain ⟨y,hy,rfl⟩:=List.mem_map.1 h2
   exact ⟨h1,isNn_eq (a2 y hy).1,isNn_eq (a2 y hy).2⟩) (λf h=>⟨inL_ok hI f h,isNn_eq (a3 f (hasN_mem.1 h)).1,isNn_eq (a3 f (hasN_mem.1 h)).2⟩) d
end
end Go.Ev
namespace Go.Ev
open Go
def Usim (v v':Value):Prop:=v=v'\/∃ k n n',v=.int k n/\v'=.int k n'/\(k=.u8->∃ x:UInt8,n'=(x.toNat:Int))
theorem Usim.refl (v:Value):Usim v v:=.inl rfl
def Alike:(t:Ty)->t.den->t.den->Prop
 | .sl t,l,l'=>List.length l=List.length l'/\∀ i,(h:i<List.length l)->(h':i<List.length l')->Alike t (l[i]'h) (l'[i]'h')
 | .pair a b,p,q=>Alike a p.1 q.1/\Alike b p.2 q.2
 | .ln t,x,y=>Alike t x y
 | .rg t,x,y=>Alike t x y
 | _,_,_=>True
theorem Alike.refl:∀ {t:Ty} (x:t.den),Alike t x x
 | .sl _,_=>⟨rfl,λ_ _ _=>Alike.refl _⟩
 | .pair _ _,p=>⟨Alike.refl p.1,Alike.refl p.2⟩
 | .ln t,x=>Alike.refl (t:=t) x
 | .rg t,x=>Alike.refl (t:=t) x
 | .int _,_=>trivial | .u8,_=>trivial | .bool,_=>trivial | .str,_=>trivial | .unit,_=>trivial
theorem Alike.trans:∀ {t:Ty} {x y z:t.den},Alike t x y->Alike t y z->Alike t x z
 | .sl _,x,y,z,h,h'=>⟨h.1.trans h'.1,λi h1 h2=>(h.2 i h1 (by have:=h.1;omega)).trans (h'.2 i (by have:=h.1;omega) h2)⟩
 | .pair _ _,_,_,_,h,h'=>⟨h.1.trans h'.1,h.2.trans h'.2⟩
 | .ln t,_,_,_,h,h'=>Alike.trans (t:=t) h h'
 | .rg t,_,_,_,h,h'=>Alike.trans (t:=t) h h'
 | .int _,_,_,_,_,_=>trivial | .u8,_,_,_,_,_=>trivial | .bool,_,_,_,_,_=>trivial | .str,_,_,_,_,_=>trivial | .unit,_,_,_,_,_=>trivial
structure WSim (w w':World):Prop where
 size:w'.heap.size=w.heap.size
 cell:∀ g o v,w.cell? ⟨g,o,none⟩=some v->∃ v',w'.cell? ⟨g,o,none⟩=some v'/\Usim v v'
 frozen:∀ g o,w'.frozen? ⟨g,o,none⟩=w.frozen? ⟨g,o,none⟩
theorem row_sim {w w':World} (hs:WSim w w') {g:Nat}:∀ {es:List Value} {o:Nat},rowAt w g o es->∃ es':List Value,es'.length=es.length/\rowAt w' g o es'/\∀ i,(h:i<es.length)->(h':i<es'.length)->Usim es[i] es'[i]
 | [],o,_=>⟨[],rfl,λi hi=>absurd hi (by simp),λi hi=>absurd hi (by simp)⟩
 | e::es,o,h=>by
  obtain ⟨v',h1,h2⟩:=hs.cell g o e (by have:=h 0 (by simp);simpa only [Nat.add_zero,List.getElem_cons_zero] using this)
  obtain ⟨es',g1,g2,g3⟩:=row_sim hs (es:=es) (o:=o+1) λi hi=>by
   have:=h (i+1) (by simp;omega)
   simpa [Nat.add_assoc,Nat.add_comm 1 i] using this
  refine ⟨v'::es',by simp [g1],λi hi=>?_,λi h h'=>?_⟩
  ·cases i with
   | zero=>simpa using h1
   | succ i =>
    have:=g2 i (by simpa using hi)
    simpa [Nat.add_assoc,Nat.add_comm 1 i] using this
  ·cases i with
   | zero=>exact h2
   | succ i=>exact g3 i (by simpa using h) (by simpa using h')
theorem choose_list {α:Type} {Q:Nat->α->Prop}:∀ n,(∀ i,i<n->∃ x,Q i x)->∃ l:List α,l.length=n/\∀ i,(h:i<l.length)->Q i l[i]
 | 0,_=>⟨[],rfl,λi hi=>absurd hi (by simp)⟩
 | n+1,h=>by
  obtain ⟨l,h1,h2⟩:=choose_list n λi hi=>h i (by omega)
  obtain ⟨x,hx⟩:=h n (by omega)
  refine ⟨l++[x],by simp [h1],λi hi=>?_⟩
  simp only [List.length_append,List.length_cons,List.length_nil] at hi
  rcases Nat.lt_or_ge i l.length with hl | hl
  ·rw [List.getElem_append_left hl];exact h2 i hl
  ·have:i=n:=by omega
   subst this
   rw [List.getElem_append_right hl]
   simpa [h1] using hx
theorem RelD_sim {w w':World} (hs:WSim w w') {N:NN}:∀ {t:Ty} {x:t.den} {vs vs':List Value},RelD w N t x vs->vs'.length=vs.length->(∀ i,(h:i<vs.length)->(h':i<vs'.length)->Usim vs[i] vs'[i]) ->
  ∃ x':t.den,RelD w' N t x' vs'/\Alike t x x'
 | .int k,n,vs,vs',h,hl,hu=>by
  simp only [RelD] at h
  subst h
  obtain ⟨v',rfl⟩:=List.length_eq_one_iff.1 hl
  have hu0:Usim _ v':=hu 0 (by simp) (by simp)
  simp only [List.getElem_cons_zero] at hu0
  rcases hu0 with e | ⟨k',m,m',e1,e2,_⟩
  ·exact ⟨n,by simp only [RelD];rw [<- e],trivial⟩
  ·cases e1
   exact ⟨m',by simp only [RelD];rw [<- e2],trivial⟩
 | .u8,x,vs,vs',h,hl,hu=>by
  simp only [RelD] at h
  subst h
  obtain ⟨v',rfl⟩:=List.length_eq_one_iff.1 hl
  have hu0:Usim _ v':=hu 0 (by simp) (by simp)
  simp only [List.getElem_cons_zero] at hu0
  rcases hu0 with e | ⟨k',m,m',e1,e2,e3⟩
  ·exact ⟨x,by simp only [RelD];rw [<- e],trivial⟩
  ·cases e1
   obtain ⟨y,rfl⟩:=e3 rfl
   exact ⟨y,by simp only [RelD];rw [<- e2],trivial⟩
 | .bool,x,vs,vs',h,hl,hu=>by
  simp only [RelD] at h
  subst h
  obtain ⟨v',rfl⟩:=List.length_eq_one_iff.1 hl
  have hu0:Usim _ v':=hu 0 (by simp) (by simp)
  simp only [List.getElem_cons_zero] at hu0
  rcases hu0 with e | ⟨k',m,m',e1,_⟩
  ·exact ⟨x,by simp only [RelD];rw [<- e],trivial⟩
  ·cases e1
 | .str,x,vs,vs',h,hl,hu=>by
  simp only [RelD] at h
  subst h
  obtain ⟨v',rfl⟩:=List.length_eq_one_iff.1 hl
  have hu0:Usim _ v':=hu 0 (by simp) (by simp)
  simp only [List.getElem_cons_zero] at hu0
  rcases hu0 with e | ⟨k',m,m',e1,_⟩
  ·exact ⟨x,by simp only [RelD];rw [<- e],trivial⟩
  ·cases e1
 | .unit,x,vs,vs',h,hl,hu=>by
  simp only [RelD] at h
  subst h
  exact ⟨(),by simp only [RelD];exact List.length_eq_zero_iff.1 hl,trivial⟩
 | .ln t,x,vs,vs',h,hl,hu=>by
  simp only [RelD] at h
  obtain ⟨x',h1,h2⟩:=RelD_sim hs h hl hu
  exact ⟨x',by simpa only [RelD] using h1,h2⟩
 | .rg t,x,vs,vs',h,hl,hu=>by
  simp only [RelD] at h
  obtain ⟨x',h1,h2⟩:=RelD_sim hs h hl hu
  exact ⟨x',by simpa only [RelD] using h1,h2⟩
 | .pair a b,p,vs,vs',h,hl,hu=>by
  simp only [RelD] at h
  obtain ⟨xs,ys,rfl,h1,h2⟩:=h
  have hl':vs'.length=xs.length+ys.length:=by simpa using hl
  obtain ⟨x1,g1,g2⟩:=RelD_sim hs h1 (vs':=vs'.take xs.length) (by simp;omega) λi hi hi'=>by
   have:=hu i (by simp;omega) (by simp at hi';omega)
   rw [List.getElem_append_left hi] at this
   rw [List.getElem_take];exact this
  obtain ⟨x2,g3,g4⟩:=RelD_sim hs h2 (vs':=vs'.drop xs.length) (by simp;omega) λi hi hi'=>by
   have:=hu (xs.length+i) (by simp;omega) (by simp at hi';omega)
   rw [List.getElem_append_right (by omega)] at this
   simp only [Nat.add_sub_cancel_left] at this
   rw [List.getElem_drop];exact this
  refine ⟨(x1,x2),?_,g2,g4⟩
  simp only [RelD]
  exact ⟨_,_,(List.take_append_drop _ _).symm,g1,g3⟩
 | .sl t,l,vs,vs',h,hl,hu=>by
  simp only [RelD] at h
  obtain ⟨a,c,rfl,h2,h3⟩:=h
  obtain ⟨v',rfl⟩:=List.length_eq_one_iff.1 hl
  have hv:v'=.slice a (List.length l) c:=by
   have hu0:Usim _ v':=hu 0 (by simp) (by simp)
   simp only [List.getElem_cons_zero] at hu0
   rcases hu0 with e | ⟨k',m,m',e1,_⟩
   ·exact e.symm
   ·cases e1
  subst hv
  by_cases hp:0<List.length l
  ·obtain ⟨g,o,rfl,hn,hg,huf,hr⟩:=h3 hp
   obtain ⟨l',k1,k2⟩:=choose_list (Q:=λi (x':t.den)=>∀ h:i<List.length l,∃ es',es'.length=t.size/\rowAt w' g (o+i*t.size) es'/\RelD w' N t x' es'/\Alike t (l[i]'h) x') (List.length l) λi hi=>by
    obtain ⟨es,e1,e2,e3⟩:=hr i hi
    obtain ⟨es',f1,f2,f3⟩:=row_sim hs e2
    obtain ⟨x',f4,f5⟩:=RelD_sim hs e3 f1 f3
    exact ⟨x',λ_=>⟨es',by rw [f1,e1],f2,f4,f5⟩⟩
   have hlen:List.length l=List.length l':=k1.symm
   refine ⟨l',?_,hlen,λi h h'=>?_⟩
   ·simp only [RelD]
    refine ⟨some ⟨g,o,none⟩,c,by rw [hlen],by rw [<- hlen];exact h2,λ_=>⟨g,o,rfl,hn,by rw [hs.size];exact hg,λhf k hk=>?_,λi hi=>?_⟩⟩
    ·rw [hs.frozen];exact huf hf k (by rw [hlen];exact hk)
    ·obtain ⟨es',f1,f2,f3,_⟩:=k2 i hi (by rw [hlen];exact hi)
     exact ⟨es',f1,f2,f3⟩
   ·obtain ⟨_,_,_,_,f⟩:=k2 i h' h
    exact f
  ·have h0:l=[]:=List.length_eq_zero_iff.1 (by omega)
   subst h0
   exact ⟨[],by simp only [RelD];exact ⟨a,c,rfl,h2,λh=>absurd h (by simp)⟩,Alike.refl (t:=.sl t) []⟩
theorem WSim.set {w w':World} {g o:Nat} {v0 v:Value} (h0:w.cell? ⟨g,o,none⟩=some v0) (hu:Usim v0 v) (h:SetMany w w' g o [v]):WSim w w' where
 size:=h.size
 cell:=λg1 o1 v1 hv1=>by
  by_cases hg:g1=g
  ·subst hg
   rw [h.cell o1]
   by_cases ho:o1=o
   ·subst ho
    rw [h0] at hv1
    cases hv1
    exact ⟨v,by simp,hu⟩
   ·have:¬ (o<=o1/\o1<o+[v].length):=by simp;omega
    rw [dif_neg this]
    exact ⟨v1,hv1,.refl v1⟩
  ·exact ⟨v1,by rw [cell?_of_heap (h.heap g1 hg)];exact hv1,.refl v1⟩
 frozen:=λg1 o1=>by
  by_cases hg:g1=g
  ·subst hg;exact h.frozen o1
  ·exact frozen?_of_heap (h.heap g1 hg)
def C0:Calling:=λ_ _ _ _ _=>none
section
variable {P:Program} {n:Nat} {a:Act} {w:World} {R:Nat->Prop}
theorem callOK0 (M:FuncId->Bool):CallOK P C0 M:=λf args S α K r h=>by cases h
abbrev D0:Nat->Blk:=λ_=>.dead
abbrev M0:FuncId->Bool:=λ_=>false
structure Cx (P:Program) (R:Nat->Prop) (E:Nat->AV) (a:Act) (w:World):Prop where
 tab:(tabsOf P).tab w
 e:∀ t,RelV w (NC (Tb:=tabsOf P) R) (λ_=>none) D0 (E t) (a.tmps.getD t undef)
 ng:∀ t j b x,E t≠.gd j b x
theorem Cx.rg {E:Nat->AV} (h:Cx P R E a w):Rg (FC R:Frm (tabsOf P)) (λ_=>none) [] ⟨E,D0,0,[]⟩ a w:=by
 refine ⟨⟨λb=>by simp [RelB],λb g h=>absurd rfl h,λb b' g h=>absurd rfl h,λ_ _=>rfl,λb g h=>absurd rfl h,λg hg=>hg.elim,h.tab,λb g h=>absurd rfl h,λb g h=>(by cases h),λb g h=>absurd rfl h⟩,λt=>?_,λt j b x hh=>absurd hh (h.ng t j b x)⟩
 have:=h.e t
 have hn:=h.ng t
 show (match E t with
  | .gd j b x=>_
  | x=>RelV w _ _ _ x (a.tmps.getD t undef))
 cases hx:E t <;> rw [hx] at this hn <;> first | exact this | exact absurd rfl (hn _ _ _)
theorem sub_NC {T:Tb} {μ:Nat->Option Nat} {H:Nat->Blk} (w:World):Sub w (NC (Tb:=T) R) (Not (FC R:Frm T) μ H) :=
 ⟨λ_g _ h=>h.elim (λh=>h.elim) λ⟨_,h,_⟩=>absurd rfl h,λ_g _ h=>h.elim (λh=>h.elim) λ⟨_,h,_⟩=>absurd rfl h,λ_ _ h=>h,λ_ _ h=>h⟩
def loneV:AV->Bool
 | .i _ _ | .u _ | .b _ | .kb _ | .s _ | .c _ | .sl _ _ | .bad=>true
 | .fp _ _ _ _=>true
 | .lit .bad _=>true
 | _=>false
theorem lone_ok {T:Tb} {μ:Nat->Option Nat} {H:Nat->Blk} {x:AV} {v:Value} (hx:loneV x=true) (h:RelV w (Not (FC R:Frm T) μ H) μ H x v):RelV w (NC (Tb:=T) R) (λ_=>none) D0 x v:=by
 cases x <;> simp only [loneV,Bool.false_eq_true] at hx <;> simp only [RelV] at h ⊢ <;> first
  | exact h
  | exact h.keep (Keep.refl w) (sub_NC w)
  | skip
 ·obtain ⟨h1,g,o,h2,h3,h4,es,h5,h6,h7,h8⟩:=h
  exact ⟨h1,g,o,λhn=>h2 ((sub_NC w).ln h3 hn),h3,h4,es,h5,h6,h7,h8.1.keep (Keep.refl w) (sub_NC w),h8.2.keep h3 rfl (sub_NC w)⟩
 ·rename_i y u
  cases y <;> simp only [Bool.false_eq_true] at hx
  exact ⟨h.1,by simp [RelV]⟩
theorem piece (hm:P.follows .mixedOrders=true) {c:Code} {E E':Nat->AV} {slots:List Nat} {ex:Ex} (hx:ex≠.pan)
  (he:ev P C0 M0 0 n c .leaf ⟨E,D0,0,[]⟩ (λex S=>some (ex,slots.map S.E))=some (ex,slots.map E')) (hl:(slots.all λt=>loneV (E' t))=true) (hb:∀ t,t∉slots->E' t=.bad)
  (hn:n=a.tmps.size) (h:Cx P R E a w) :
  c.wp P (λe a' w'=>e=exOf ex/\a'.tmps.size=a.tmps.size/\a'.defers=a.defers/\Chg (λ_=>False) w w'/\Cx P R E' a' w') a w:=by
 refine wp_mono (ev_ok hm (callOK0 M0) c .leaf (λz hz=>by rw [loopsIn_leaf] at hz;cases hz) _ _ _ _ he (FC R) (λ_=>none) w a hn (Nat.zero_le _) h.rg) λe a' w' ⟨ex',S',μ',av,h1,h2,h3⟩=>?_
 simp only [oSi,Prod.mk.injEq] at h2
 obtain ⟨rfl,h2⟩:=h2
 have hav:e=exOf ex'/\a'=av:=by
  cases ex' <;> first | exact h1 | exact absurd rfl hx
 obtain ⟨rfl,rfl⟩:=hav
 refine ⟨rfl,h3.size,h3.defers,⟨⟨h3.chg.size,λg hg _=>h3.chg.keep g hg λ⟨b,h,_⟩=>h rfl⟩,h3.chg.os,h3.chg.tape,h3.chg.output⟩,h3.rg.hp.tab,λt=>?_,λt j b x hh=>?_⟩
 ·by_cases ht:t∈slots
  ·have hE:S'.E t=E' t:=List.map_inj_left.1 h2 t ht
   have hlt:=List.all_eq_true.1 hl t ht
   have:=h3.rg.e t
   rw [hE] at this
   refine lone_ok (μ:=μ') (H:=S'.H) hlt ?_
   cases hxx:E' t <;> rw [hxx] at this hlt <;> first | exact this | (simp [loneV] at hlt)
  ·rw [hb t ht];simp [RelV]
 ·by_cases ht:t∈slots
  ·have hlt:=List.all_eq_true.1 hl t ht
   rw [hh] at hlt
   simp [loneV] at hlt
  ·rw [hb t ht] at hh;cases hh
end
end Go.Ev
namespace Go.Ev
open Go
section
variable {P:Program} {F:Frm (tabsOf P)} {α:Type} {r:α} {M:FuncId->Bool}
theorem turns_pre {C:Calling} (hC:CallOK P C M) {n:Nat} {ops:Array Oper} {Q:Exit->Act->World->Prop} {K:St->Option α} {Kp:AV->St->Option α} {rest:List Nat}:∀ (l:List Oper) (k:Nat) (F:Frm (tabsOf P)) (μ:Nat->Option Nat) (done:List Nat) (S:St) (a:Act) (w:World),(∀ j,j<l.length->l[j]?=ops[k+j]?) ->
  n=a.tmps.size->Rg F μ done S a w->evTurns P C n ops (turns k l) done [] S K Kp=some r ->
  (∀ x S' w' a' val,Kp x S'=some r->PPost F μ S.H S.nx S.kl w a x S' w' a' val->Q (.panic [{ v:=val,recovered:=false }]) a' w') ->
  (∀ S' w' a' done',K S'=some r->Post F μ S w a done' S' w' a'->wpOps P ops Q rest a' w')->wpOps P ops Q (List.range' k l.length++rest) a w
 | [],k,F,μ,done,S,a,w,_,_,hr,h,_,hn=>hn S w a done h (.refl hr)
 | o::l,k,F,μ,done,S,a,w,hl,hsz,hr,h,hq,hn=>by
  have ho:ops[k]?=some o:=by simpa using (hl 0 (by simp)).symm
  simp only [turns,evTurns,Turn.watch,isNilN,cTt,keepW,List.append_nil] at h
  obtain ⟨h0,h1⟩:=cond_some h
  rw [hsz] at h0
  rw [List.length_cons,List.range'_succ,List.cons_append]
  refine wpOps_turn ho (evOp_ok hC hr (fresh_ok h0) h1 hq λS' w' a' hK hp=>?_)
  obtain ⟨⟨μ',kl,e1,e2,e3⟩,e4,e5⟩:=hp
  refine turns_pre hC l (k+1) F μ' (dstL o++done) S' a' w' (λj hj=>?_) (by rw [e4,hsz]) e3 hK (λx S2 w2 a2 val h1 h2=>hq x S2 w2 a2 val h1 (PPost.trans ⟨μ',kl,e1,e2,h2⟩ e5)) λS2 w2 a2 d2 hK2 hp2=>hn S2 w2 a2 d2 hK2 ?_
  ·have:=hl (j+1) (by simpa using hj)
   simpa [Nat.add_assoc,Nat.add_comm 1 j] using this
  ·exact Post.trans ⟨μ',kl,e1,e2,e3,hp2⟩ e4 e5
end
def numK:AV->Option IntKind
 | .i k _=>some k
 | .u _=>some .u8
 | _=>none
theorem numK_rel {w:World} {N:NN} {μ:Nat->Option Nat} {H:Nat->Blk} {x:AV} {v:Value} {k:IntKind} (h:numK x=some k) (hx:RelV w N μ H x v) (hk:k=.u8->∃ y,x=.u y):∃ m,v=.int k m/\(k=.u8->∃ y:UInt8,m=(y.toNat:Int)):=by
 cases x <;> simp only [numK,reduceCtorEq,oSi] at h
 ·subst h
  simp only [RelV] at hx
  exact ⟨_,hx,λe=>by obtain ⟨y,hy⟩:=hk e;cases hy⟩
 ·subst h
  simp only [RelV] at hx
  exact ⟨_,hx,λ_=>⟨_,rfl⟩⟩
section
variable {P:Program} {n:Nat} {a:Act} {w:World} {R:Nat->Prop}
theorem piece_store {id m:Nat} {ops:Array Oper} {E E':Nat->AV} {slots:List Nat} {o:Oper} {t:TypeId} {p v:Nat} {y:Ty} {l:List y.den} {ix f:Nat} {k:IntKind} {cold:AV}
  (he:evTurns P C0 n ops (turns 0 (ops.toList.take m)) [] [] ⟨E,D0,0,[]⟩ (λS=>some (slots.map S.E)) (λ_ _=>none)=some (slots.map E')) (hl:(slots.all λt=>loneV (E' t))=true) (hb:∀ t,t∉slots->E' t=.bad)
  (hsz:ops.size=m+1) (ho:ops[m]?=some o) (hop:o.op=.store t (.tmp p) (.tmp v)) (hgd:o.guard=none) (hdst:o.dst=none) (hi:(P.info? t).isSome=true) (hc1:P.cellsOf t=1)
  (hp:E' p=.fp (.rg y) l ix f) (hv:numK (E' v)=some k) (hv8:k=.u8->∃ z,E' v=.u z) (hcold:(encc y (l.getD ix y.dflt))[f]?=some cold) (hck:numK cold=some k)
  (hn:n=a.tmps.size) (h:Cx P R E a w) :
  (Code.region id ops false).wp P (λe a' w'=>e=.normal/\a'.tmps.size=a.tmps.size/\a'.defers=a.defers/\∃ w1,Chg (λ_=>False) w w1/\Cx P R E' a' w1/\WSim w1 w'/\Chg R w1 w') a w:=by
 refine wp_region ?_
 rw [List.range_eq_range',hsz]
 have hsplit:List.range' 0 (m+1)=List.range' 0 (ops.toList.take m).length++[m]:=by
  have hlen:(ops.toList.take m).length=m:=by simp;omega
  rw [hlen,<- List.range'_append_1 (s:=0) (m:=m) (n:=1)]
  simp
 rw [hsplit]
 refine turns_pre (callOK0 M0) (ops.toList.take m) 0 (FC R) (λ_=>none) [] _ a w (λj hj=>?_) hn h.rg he (λx S' w' a' val hK _=>by cases hK) λS' w1 a1 done' hK hpost=>?_
 ·have hj':j<m:=by
   have:(ops.toList.take m).length<=m:=by simp;omega
   omega
  rw [List.getElem?_take_of_lt hj',Nat.zero_add,Array.getElem?_toList]
 ·simp only [oSi] at hK
  obtain ⟨⟨μ',kl,_,hpl,hrg⟩,e4,e5⟩:=hpost
  have hchg:Chg (λ_=>False) w w1:=⟨⟨hpl.chg.size,λg hg _=>hpl.chg.keep g hg λ⟨b,h,_⟩=>h rfl⟩,hpl.chg.os,hpl.chg.tape,hpl.chg.output⟩
  have hcx:Cx P R E' a1 w1:=by
   refine ⟨hrg.hp.tab,λt=>?_,λt j b x hh=>?_⟩
   ·by_cases ht:t∈slots
    ·have hE:S'.E t=E' t:=List.map_inj_left.1 hK t ht
     have hlt:=List.all_eq_true.1 hl t ht
     have:=hrg.e t
     rw [hE] at this
     refine lone_ok (μ:=μ') (H:=S'.H) hlt ?_
     cases hxx:E' t <;> rw [hxx] at this hlt <;> first | exact this | (simp [loneV] at hlt)
    ·rw [hb t ht];simp [RelV]
   ·by_cases ht:t∈slots
    ·have hlt:=List.all_eq_true.1 hl t ht
     rw [hh] at hlt
     simp [loneV] at hlt
    ·rw [hb t ht] at hh;cases hh
  have hP:=hcx.e p
  rw [hp] at hP
  simp only [RelV] at hP
  obtain ⟨hix,g,off,hng,hgl,hpv,es,s1,s2,_,s3,s4⟩:=hP
  have hreg:R g:=Classical.byContradiction λhh=>hng (.inr hh)
  have s3:RelD w1 (NC (Tb:=tabsOf P) R) y l[ix] es:=by simpa only [RelD] using s3
  have hgd':l.getD ix y.dflt=l[ix]:=by simp [List.getD,List.getElem?_eq_getElem hix]
  rw [hgd'] at hcold
  obtain ⟨vold,q1,q2⟩:=RelVs_get f (RelVs_encc (μ:=λ_=>none) (H:=D0) s3) hcold
  have hV:=hcx.e v
  obtain ⟨mv,q3,q4⟩:=numK_rel hv hV hv8
  have hfl:f<es.length:=(List.getElem?_eq_some_iff.1 q1).1
  have q1':es[f]=vold:=(List.getElem?_eq_some_iff.1 q1).2
  have hcell:w1.cell? ⟨g,off+ix*y.size+f,none⟩=some vold:=by
   have:=s2 f hfl
   rw [q1'] at this
   exact this
  have hold:∃ mo,vold=.int k mo:=by
   cases cold <;> simp only [numK,reduceCtorEq,oSi] at hck
   ·subst hck;simp only [RelV] at q2;exact ⟨_,q2⟩
   ·subst hck;simp only [RelV] at q2;exact ⟨_,q2⟩
  obtain ⟨mo,rfl⟩:=hold
  have hfz:w1.frozen? ⟨g,off+ix*y.size+f,none⟩=false:=s4 hreg f (by
   have:es.length=(Ty.rg y).size:=s1
   omega)
  have hcl:(Value.int k mv).cells.toList=[.int k mv]:=rfl
  obtain ⟨w',hrun,hS⟩:=run_storeAt (P:=P) (w:=w1) (t:=t) (g:=g) (o:=off+ix*y.size+f) (v:=.int k mv) hi (by rw [hcl,hc1];rfl) (by rw [hcl];intro u hu;simp only [List.mem_singleton] at hu;subst hu;rfl) (by
   rw [hcl]
   intro j hj
   have:j=0:=by simpa using hj
   subst this
   exact ⟨by rw [Nat.add_zero,hcell];rfl,by rw [Nat.add_zero];exact hfz⟩)
  rw [hcl] at hS
  refine wpOps_turn ho ?_
  unfold wpTurn
  have hw:Region.wanted o (yielded ops a1.tmps):=by unfold Region.wanted;rw [hgd]
  rw [if_pos hw]
  unfold Oper.wp
  have hx:(execOp a1.eval o).run P w1=.ok .skip w':=by
   have e1:a1.eval (.tmp p)=.pointer (some ⟨g,off+ix*y.size+f,none⟩):=hpv
   have e2:a1.eval (.tmp v)=.int k mv:=q3
   simp [execOp,hop,e1,e2,hrun]
  rw [hx,Oper.upon_skip]
  have hput:a1.put o.dst undef=a1:=by rw [hdst];rfl
  rw [hput]
  simp only [wpOps]
  refine ⟨trivial,e4,e5,w1,hchg,hcx,WSim.set hcell (.inr ⟨k,mo,mv,rfl,rfl,q4⟩) hS,⟨⟨Nat.le_of_eq hS.size.symm,λg1 _ hh=>hS.heap g1 λe=>hh (e ▸ hreg)⟩,hS.os,hS.tape,hS.output⟩⟩
def ixV (t:Nat):List (Nat×Int)->AV->AV
 | [],x=>x
 | (k,i)::r,x=>cond (Nat.beq t k) (.i .i64 i) (ixV t r x)
def EE (d:Nat) (G:Ty) (keep:List Nat) (u:Nat->Value) (cx:List (Nat×Int)) (l:List G.den):Nat->AV:=λt =>
 cond (Nat.beq t d) (.sl (.rg G) l) (ixV t cx (cond (hasN keep t) (.lit .bad (u t)) .bad))
theorem ixV_cases (t:Nat) (x:AV):∀ cx:List (Nat×Int),(∃ i,ixV t cx x=.i .i64 i)\/ixV t cx x=x
 | []=>.inr rfl
 | (k,i)::r=>by
  simp only [ixV]
  cases Nat.beq t k with
  | true=>exact .inl ⟨i,rfl⟩
  | false=>exact ixV_cases t x r
theorem EE_cases (d:Nat) (G:Ty) (keep:List Nat) (u:Nat->Value) (cx:List (Nat×Int)) (l:List G.den) (t:Nat):(t=d/\EE d G keep u cx l t=.sl (.rg G) l)\/(t≠d/\((∃ i,EE d G keep u cx l t=.i .i64 i)\/EE d G keep u cx l t=.lit .bad (u t)\/EE d G keep u cx l t=.bad)):=by
 unfold EE
 cases hd:Nat.beq t d with
 | true=>exact .inl ⟨Nat.eq_of_beq_eq_true hd,rfl⟩
 | false =>
  refine .inr ⟨λe=>by subst e;simp at hd,?_⟩
  simp only [cFf]
  rcases ixV_cases t (cond (hasN keep t) (.lit .bad (u t)) .bad) cx with h | h
  ·exact .inl h
  ·rw [h]
   cases hasN keep t
   ·exact .inr (.inr rfl)
   ·exact .inr (.inl rfl)
theorem EE_other {d:Nat} {G:Ty} {keep:List Nat} {u:Nat->Value} {cx:List (Nat×Int)} (l l':List G.den) {t:Nat} (h:t≠d):EE d G keep u cx l t=EE d G keep u cx l' t:=by
 unfold EE
 have:Nat.beq t d=false:=Bool.eq_false_iff.2 λe=>h (Nat.eq_of_beq_eq_true e)
 rw [this];rfl
variable {d:Nat} {G:Ty} {keep:List Nat} {u:Nat->Value} {cx:List (Nat×Int)}
theorem Cx.sim {l:List G.den} {w':World} (h:Cx P R (EE d G keep u cx l) a w) (hs:WSim w w') (hc:Chg R w w') (hR:∀ g,(tabsOf P).out g->¬ R g):∃ l',Alike (.sl G) l l'/\Cx P R (EE d G keep u cx l') a w':=by
 have hd:=h.e d
 have hE:EE d G keep u cx l d=.sl (.rg G) l:=by unfold EE;simp
 rw [hE] at hd
 simp only [RelV] at hd
 obtain ⟨l',h1,h2⟩:=RelD_sim hs hd rfl λi _ _=>.refl _
 refine ⟨l',h2,(tabsOf P).stays w w' (λg hg=>hc.keep g ((tabsOf P).lt w g h.tab hg) (hR g hg)) h.tab,λt=>?_,λt j b x hh=>?_⟩
 ·rcases EE_cases d G keep u cx l' t with ⟨rfl,e⟩ | ⟨hne,e⟩
  ·rw [e];simpa only [RelV] using h1
  ·have:=h.e t
   rw [EE_other l l' hne] at this
   rcases e with ⟨i,e⟩ | e | e <;> rw [e] at this ⊢
   ·simpa only [RelV] using this
   ·simpa only [RelV] using this
   ·simp [RelV]
 ·rcases EE_cases d G keep u cx l' t with ⟨rfl,e⟩ | ⟨hne,⟨i,e⟩ | e | e⟩ <;> rw [e] at hh <;> cases hh
theorem Cx.less {E E':Nat->AV} (h:Cx P R E a w) (hE:∀ t,E' t=E t\/E' t=.bad):Cx P R E' a w:=by
 refine ⟨h.tab,λt=>?_,λt j b x hh=>?_⟩
 ·rcases hE t with e | e
  ·rw [e];exact h.e t
  ·rw [e];simp [RelV]
 ·rcases hE t with e | e
  ·rw [e] at hh;exact h.ng t j b x hh
  ·rw [e] at hh;cases hh
theorem ixV_drop {s:Nat} {i:Int} {x:AV} (_hs:∀ y∈cx,y.1≠s) {t:Nat} (h:t≠s):ixV t ((s,i)::cx) x=ixV t cx x:=by
 have:Nat.beq t s=false:=Bool.eq_false_iff.2 λe=>h (Nat.eq_of_beq_eq_true e)
 simp [ixV,this]
theorem ixV_none {s:Nat} {x:AV}:∀ {cx:List (Nat×Int)},(∀ y∈cx,y.1≠s)->ixV s cx x=x
 | [],_=>rfl
 | (k,i)::r,h=>by
  have:Nat.beq s k=false:=Bool.eq_false_iff.2 λe=>h (k,i) (by simp) (Nat.eq_of_beq_eq_true e).symm
  simp only [ixV,this,cFf]
  exact ixV_none λy hy=>h y (List.mem_cons_of_mem _ hy)
theorem EE_drop {s:Nat} {i:Int} {l:List G.den} (hs:∀ y∈cx,y.1≠s) (hk:hasN keep s=false) (hd:s≠d) (t:Nat):EE d G keep u cx l t=EE d G keep u ((s,i)::cx) l t\/EE d G keep u cx l t=.bad:=by
 by_cases ht:t=s
 ·subst ht
  right
  unfold EE
  have:Nat.beq t d=false:=Bool.eq_false_iff.2 λe=>hd (Nat.eq_of_beq_eq_true e)
  rw [this,cFf,ixV_none hs,hk];rfl
 ·left
  unfold EE
  rw [ixV_drop hs ht]
def WrOK (P:Program) (n:Nat) (R:Nat->Prop) (d:Nat) (G:Ty) (keep:List Nat) (cx:List (Nat×Int)) (l0:List G.den) (c:Code):Prop :=
 ∀ (u:Nat->Value) (a:Act) (w:World) (l:List G.den),Alike (.sl G) l0 l->n=a.tmps.size->Cx P R (EE d G keep u cx l) a w ->
  c.wp P (λe a' w'=>e=.normal/\a'.tmps.size=a.tmps.size/\a'.defers=a.defers/\Chg R w w'/\∃ l',Alike (.sl G) l0 l'/\Cx P R (EE d G keep u cx l') a' w') a w
theorem wloop (hm:P.follows .mixedOrders=true) {s b cnt:Nat} {r0 pre body post:Code} {l0:List G.den} {slots:List Nat} (hcnt:cnt<=4611686018427387904)
  (hs:∀ y∈cx,y.1≠s) (hk:hasN keep s=false) (hd:s≠d)
  (hslots:∀ t,t∉slots->Nat.beq t d=false/\(∀ y∈(s,(0:Int))::cx,y.1≠t)/\hasN keep t=false)
  (h0:∀ l u,ev P C0 M0 0 n r0 .leaf ⟨EE d G keep u cx l,D0,0,[]⟩ (λex S=>some (ex,slots.map S.E))=some (.normal,slots.map (EE d G keep u ((s,0)::cx) l)))
  (hpre:∀ l u (j:Int),Alike (.sl G) l0 l->ev P C0 M0 0 n pre .leaf ⟨EE d G keep u ((s,j)::cx) l,D0,0,[]⟩ (λex S=>some (ex,slots.map S.E))=cond (decide (j<(cnt:Int))) (some (.normal,slots.map (EE d G keep u ((s,j)::cx) l))) (some (.exit b,slots.map (EE d G keep u ((s,j)::cx) l))))
  (hpost:∀ l u (j:Int),ev P C0 M0 0 n post .leaf ⟨EE d G keep u ((s,j)::cx) l,D0,0,[]⟩ (λex S=>some (ex,slots.map S.E))=some (.normal,slots.map (EE d G keep u ((s,w64 (j+1))::cx) l)))
  (hbody:∀ j:Nat,j<cnt->WrOK P n R d G keep ((s,(j:Int))::cx) l0 body) :
  WrOK P n R d G keep cx l0 (.seq r0 (.block b (.loop (.seq pre (.seq body post))))):=by
 intro u a w l hal hn hcx
 have hlone:∀ (j:Int) (l:List G.den),(slots.all λt=>loneV (EE d G keep u ((s,j)::cx) l t))=true:=λj l=>by
  refine List.all_eq_true.2 λt _=>?_
  rcases EE_cases d G keep u ((s,j)::cx) l t with ⟨_,e⟩ | ⟨_,⟨i,e⟩ | e | e⟩ <;> rw [e] <;> rfl
 have hbad:∀ (j:Int) (l:List G.den),∀ t,t∉slots->EE d G keep u ((s,j)::cx) l t=.bad:=λj l t ht=>by
  obtain ⟨g1,g2,g3⟩:=hslots t ht
  unfold EE
  rw [g1,cFf,ixV_none (s:=t) (cx:=(s,j)::cx) (λy hy=>?_),g3]
  ·rfl
  ·rcases List.mem_cons.1 hy with rfl | hy
   ·exact g2 (s,0) (by simp)
   ·exact g2 y (List.mem_cons_of_mem _ hy)
 refine wp_seq (wp_mono (piece hm (by simp) (h0 l u) (hlone 0 l) (hbad 0 l) hn hcx) λe a1 w1 ⟨e1,e2,e3,e4,e5⟩=>?_)
 subst e1
 have hch0:Chg R w w1:=⟨⟨e4.size,λg hg _=>e4.keep g hg λx=>x⟩,e4.os,e4.tape,e4.output⟩
 refine wp_block (wp_mono (Q':=Exit.inBlock b _) (wp_loop_n (Q:=λe a' w'=>e=.exit b/\a'.tmps.size=a.tmps.size/\a'.defers=a.defers/\Chg R w w'/\∃ l',Alike (.sl G) l0 l'/\Cx P R (EE d G keep u cx l') a' w')
  (λm a' w'=>∃ (j:Nat) (l':List G.den),j<=cnt/\m=cnt-j+1/\Alike (.sl G) l0 l'/\Cx P R (EE d G keep u ((s,(j:Int))::cx) l') a' w'/\a'.tmps.size=a.tmps.size/\a'.defers=a.defers/\Chg R w w')
  (λa w ⟨j,_,_,h,_⟩=>by omega) (λm a' w' ⟨j,l',k1,k2,k3,k4,k5,k6,k7⟩=>?_) (cnt+1) ⟨0,l,Nat.zero_le _,by omega,hal,e5,e2,e3,hch0⟩) λe a' w' ⟨g1,g2⟩=>?_)
 ·have hp:=hpre l' u j k3
  by_cases hj:j<cnt
  ·rw [show decide ((j:Int)<(cnt:Int))=true from dTt (by omega),cTt] at hp
   refine wp_seq (wp_mono (piece hm (by simp) hp (hlone j l') (hbad j l') (hn.trans k5.symm) k4) λe a2 w2 ⟨f1,f2,f3,f4,f5⟩=>?_)
   subst f1
   refine wp_seq (wp_mono (hbody j hj u a2 w2 l' k3 (hn.trans (k5.symm.trans f2.symm)) f5) λe a3 w3 ⟨q1,q2,q3,q4,l2,q5,q6⟩=>?_)
   subst q1
   have hpo:=hpost l2 u j
   have hw:w64 ((j:Int)+1)=((j+1:Nat):Int):=by
    unfold w64 IntKind.wrap
    simp [IntKind.signed,IntKind.bits]
    omega
   rw [hw] at hpo
   refine wp_mono (piece hm (by simp) hpo (hlone _ l2) (hbad _ l2) (hn.trans (k5.symm.trans (f2.symm.trans q2.symm))) q6) λe a4 w4 ⟨t1,t2,t3,t4,t5⟩=>?_
   subst t1
   refine ⟨j+1,l2,hj,by omega,q5,t5,t2.trans (q2.trans (f2.trans k5)),t3.trans (q3.trans (f3.trans k6)),?_⟩
   have c1:Chg R w w2:=k7.trans (N':=λ_=>False) f4 λ_ _ h=>h.elim
   have c2:Chg R w w3:=c1.trans q4 λ_ _ h=>h
   exact c2.trans (N':=λ_=>False) t4 λ_ _ h=>h.elim
  ·rw [show decide ((j:Int)<(cnt:Int))=false from dFf (by omega),cFf] at hp
   refine wp_seq (wp_mono (piece hm (by simp) hp (hlone j l') (hbad j l') (hn.trans k5.symm) k4) λe a2 w2 ⟨f1,f2,f3,f4,f5⟩=>?_)
   subst f1
   exact ⟨rfl,f2.trans k5,f3.trans k6,k7.trans (N':=λ_=>False) f4 λ_ _ h=>h.elim,l',k3,f5.less λt=>EE_drop hs hk hd t⟩
 ·subst g1
  simp only [Exit.inBlock,if_true]
  exact ⟨trivial,g2⟩
theorem WritesOK.of {T:Ty} {Cc:Code} (h:∀ (R:Nat->Prop) (l:List T.rgm.den),(∀ g,(tabsOf P).out g->¬ R g)->fitB (.sl T.rgm) l=true->WrOK P n R d T.rgm keep [] l Cc) (hdk:hasN keep d=false):WritesOK P n d T keep Cc:=by
 intro a w R l hn ht hR hD hf
 have hcx:Cx P R (EE d T.rgm keep (λt=>a.tmps.getD t undef) [] l) a w:=by
  refine ⟨ht,λt=>?_,λt j b x hh=>?_⟩
  ·rcases EE_cases d T.rgm keep (λt=>a.tmps.getD t undef) [] l t with ⟨rfl,e⟩ | ⟨hne,⟨i,e⟩ | e | e⟩
   ·rw [e];simpa only [RelV] using hD
   ·exfalso
    unfold EE at e
    have:Nat.beq t d=false:=Bool.eq_false_iff.2 λe=>hne (Nat.eq_of_beq_eq_true e)
    rw [this] at e
    simp only [cFf,ixV] at e
    cases hk:hasN keep t <;> rw [hk] at e <;> cases e
   ·rw [e];simp [RelV]
   ·rw [e];simp [RelV]
  ·rcases EE_cases d T.rgm keep (λt=>a.tmps.getD t undef) [] l t with ⟨rfl,e⟩ | ⟨hne,⟨i,e⟩ | e | e⟩ <;> rw [e] at hh <;> cases hh
 refine wp_mono (h R l hR hf (λt=>a.tmps.getD t undef) a w l (Alike.refl (t:=.sl T.rgm) l) hn hcx) λe a' w' ⟨h1,h2,h3,h4,l',_,h5⟩=>⟨h1,λt htk=>?_,h2,h3,h4⟩
 have hne:t≠d:=λe=>by subst e;rw [hasN_mem.2 htk] at hdk;cases hdk
 have:=h5.e t
 have e:EE d T.rgm keep (λt=>a.tmps.getD t undef) [] l' t=.lit .bad (a.tmps.getD t undef):=by
  unfold EE
  have:Nat.beq t d=false:=Bool.eq_false_iff.2 λe=>hne (Nat.eq_of_beq_eq_true e)
  rw [this,hasN_mem.2 htk];rfl
 rw [e] at this
 simp only [RelV] at this
 exact this.1
end
end Go.Ev
namespace Go.So
open Go Go.Ev
set_option maxRecDepth 100000
abbrev WrT:Ty:=.pair (.int .i64) (.pair .str (.pair .str (.pair .str (.pair (.int .i64) (.pair (.int .i64) (.pair .u8 (.pair (.int .i64) (.pair (.int .i64) (.pair (.sl .u8) .unit)))))))))
abbrev WrG:Ty:=.pair (.int .i64) (.pair .str (.pair .str (.pair .str (.pair (.int .i64) (.pair (.int .i64) (.pair .u8 (.pair (.int .i64) (.pair (.int .i64) (.pair (.sl (.rg .u8)) .unit)))))))))
abbrev wrB (d:WrG.den):List UInt8:=d.2.2.2.2.2.2.2.2.2.1
abbrev WrK:List Nat:=[0,5,6,7]
def wrD:WrG.den:=(0,[],[],[],0,0,0,0,0,[],())
noncomputable abbrev wr15:List Bool->Code:=subc (bodyOf Go.Proofs.Tryz.f15)
abbrev wrP:List Bool:=[true,true,false,true,false,false,true,false,false,true,true,true,true,true]
theorem mixedWr:Go.Proofs.Tryz.prog.follows .mixedOrders=true:=by kernel_rfl
def opsOf:Code->Array Oper
 | .region _ ops _=>ops
 | _=>#[]
abbrev EW (u:Nat->Value) (cx:List (Nat×Int)) (l:List WrG.den):Nat->AV:=EE 8 WrG WrK u cx l
def E17 (u:Nat->Value) (j c:Int) (l:List WrG.den):Nat->AV:=λt =>
 cond (Nat.beq t 122) (.fp (.rg .u8) (wrB (l.getD j.toNat wrD)) c.toNat 0) (cond (Nat.beq t 121) (.u ((wrB (l.getD j.toNat wrD)).getD c.toNat 0 ^^^ 1)) (EW u [(19,c),(18,j)] l t))
abbrev bo2:List Bool:=wrP++[true,false,false]
abbrev bi3:List Bool:=bo2++[true,false,false]
abbrev bo4:List Bool:=bi3++[true,false,false]
abbrev r17:List Bool:=bo4++[true,false,false]
theorem pre17 (u:Nat->Value) (j c:Int) (l:List WrG.den):evTurns Go.Proofs.Tryz.prog C0 132 (opsOf (wr15 r17)) (turns 0 ((opsOf (wr15 r17)).toList.take 10)) [] [] ⟨EW u [(19,c),(18,j)] l,D0,0,[]⟩
  (λS=>some ([8,19,18,0,5,6,7,121,122].map S.E)) (λ_ _=>none)=cond (decide (0<=j)&&decide (j<(l.length:Int))) (cond (decide (0<=c)&&decide (c<((wrB (l.getD j.toNat wrD)).length:Int))) (cond (decide (0<=c)&&decide (c<((wrB (l.getD j.toNat wrD)).length:Int))) (some ([8,19,18,0,5,6,7,121,122].map (E17 u j c l))) none) none) none:=by kernel_rfl
theorem pre15 (u:Nat->Value) (j c:Int) (l:List WrG.den):ev Go.Proofs.Tryz.prog C0 M0 0 132 (wr15 (bo4++[false])) .leaf ⟨EW u [(19,c),(18,j)] l,D0,0,[]⟩ (λex S=>some (ex,[8,19,18,0,5,6,7].map S.E)) =
  cond (decide (0<=j)&&decide (j<(l.length:Int))) (cond (decide (c<((wrB (l.getD j.toNat wrD)).length:Int))) (some (.normal,[8,19,18,0,5,6,7].map (EW u [(19,c),(18,j)] l))) (some (.exit 4,[8,19,18,0,5,6,7].map (EW u [(19,c),(18,j)] l)))) none:=by kernel_rfl
theorem post16 (u:Nat->Value) (j c:Int) (l:List WrG.den):ev Go.Proofs.Tryz.prog C0 M0 0 132 (wr15 (bo4++[true,true])) .leaf ⟨EW u [(19,c),(18,j)] l,D0,0,[]⟩ (λex S=>some (ex,[8,19,18,0,5,6,7].map S.E)) =
  some (.normal,[8,19,18,0,5,6,7].map (EW u [(19,w64 (c+1)),(18,j)] l)):=by kernel_rfl
theorem zero14 (u:Nat->Value) (j:Int) (l:List WrG.den):ev Go.Proofs.Tryz.prog C0 M0 0 132 (wr15 (bi3++[false])) .leaf ⟨EW u [(18,j)] l,D0,0,[]⟩ (λex S=>some (ex,[8,19,18,0,5,6,7].map S.E)) =
  some (.normal,[8,19,18,0,5,6,7].map (EW u [(19,0),(18,j)] l)):=by kernel_rfl
theorem pre12 (u:Nat->Value) (j:Int) (l:List WrG.den):ev Go.Proofs.Tryz.prog C0 M0 0 132 (wr15 (bo2++[false])) .leaf ⟨EW u [(18,j)] l,D0,0,[]⟩ (λex S=>some (ex,[8,18,0,5,6,7].map S.E)) =
  cond (decide (j<(l.length:Int))) (some (.normal,[8,18,0,5,6,7].map (EW u [(18,j)] l))) (some (.exit 2,[8,18,0,5,6,7].map (EW u [(18,j)] l))):=by kernel_rfl
theorem post13 (u:Nat->Value) (j:Int) (l:List WrG.den):ev Go.Proofs.Tryz.prog C0 M0 0 132 (wr15 (bo2++[true,true])) .leaf ⟨EW u [(18,j)] l,D0,0,[]⟩ (λex S=>some (ex,[8,18,0,5,6,7].map S.E)) =
  some (.normal,[8,18,0,5,6,7].map (EW u [(18,w64 (j+1))] l)):=by kernel_rfl
theorem zero11 (u:Nat->Value) (l:List WrG.den):ev Go.Proofs.Tryz.prog C0 M0 0 132 (wr15 (wrP++[false])) .leaf ⟨EW u [] l,D0,0,[]⟩ (λex S=>some (ex,[8,18,0,5,6,7].map S.E)) =
  some (.normal,[8,18,0,5,6,7].map (EW u [(18,0)] l)):=by kernel_rfl
theorem code15:wr15 wrP=.seq (wr15 (wrP++[false])) (.block 2 (.loop (.seq (wr15 (bo2++[false])) (.seq (.block 3 (.seq (wr15 (bi3++[false])) (.block 4 (.loop (.seq (wr15 (bo4++[false])) (.seq (.block 5 (.region 17 (opsOf (wr15 r17)) false)) (wr15 (bo4++[true,true])))))))) (wr15 (bo2++[true,true])))))):=by kernel_rfl
theorem size17:(opsOf (wr15 r17)).size=11:=by kernel_rfl
noncomputable def o17:Oper:=((opsOf (wr15 r17))[10]?).getD { dst:=none,op:=.move (.tmp 0),type:=0,pos := "",after:=#[],guard:=none }
theorem at17:(opsOf (wr15 r17))[10]?=some o17:=by kernel_rfl
theorem op17:o17.op=.store 5 (.tmp 122) (.tmp 121)/\o17.guard=none/\o17.dst=none:=⟨by kernel_rfl,by kernel_rfl,by kernel_rfl⟩
theorem info5:(Go.Proofs.Tryz.prog.info? 5).isSome=true:=by kernel_rfl
theorem cells5:Go.Proofs.Tryz.prog.cellsOf 5=1:=by kernel_rfl
theorem wrB_alike {l l':List WrG.den} (h:Ev.Alike (.sl WrG) l l') (j:Nat):(wrB (l.getD j wrD)).length=(wrB (l'.getD j wrD)).length:=by
 by_cases hj:j<l.length
 ·have hj':j<l'.length:=by have:=h.1;omega
  have:=(h.2 j hj hj').2.2.2.2.2.2.2.2.2.1.1
  simp only [List.getD,List.getElem?_eq_getElem hj,List.getElem?_eq_getElem hj',Option.getD_some]
  exact this
 ·have hj':¬ j<l'.length:=by have:=h.1;omega
  simp only [List.getD,List.getElem?_eq_none_iff.2 (Nat.le_of_not_lt hj),List.getElem?_eq_none_iff.2 (Nat.le_of_not_lt hj'),Option.getD_none]
theorem inner15 {R:Nat->Prop} {l0:List WrG.den} (hR:∀ g,(tabsOf Go.Proofs.Tryz.prog).out g->¬ R g) {j c:Nat} (hj:j<l0.length) (hc:c<(wrB (l0.getD j wrD)).length) :
  WrOK Go.Proofs.Tryz.prog 132 R 8 WrG WrK [(19,(c:Int)),(18,(j:Int))] l0 (.block 5 (.region 17 (opsOf (wr15 r17)) false)):=by
 intro u a w l hal hn hcx
 have hjl:j<l.length:=by have:=hal.1;omega
 have hcl:c<(wrB (l.getD j wrD)).length:=by rw [<- wrB_alike hal];exact hc
 have hpre:=pre17 u j c l
 rw [show (decide ((0:Int)<=(j:Int))&&decide ((j:Int)<(l.length:Int)))=true by simp;omega,cTt] at hpre
 have hcc:(decide ((0:Int)<=(c:Int))&&decide ((c:Int)<((wrB (l.getD (j:Int).toNat wrD)).length:Int)))=true:=by
  rw [nCt,bAt]
  exact ⟨dTt (by omega),dTt (by omega)⟩
 rw [hcc,cTt,cTt] at hpre
 obtain ⟨p1,p2,p3⟩:=op17
 refine wp_block (wp_mono (Q':=Exit.inBlock 5 _) (piece_store (m:=10) (o:=o17) (t:=5) (p:=122) (v:=121) (y:=.u8) (k:=.u8) (f:=0) (cold:=.u ((wrB (l.getD (j:Int).toNat wrD)).getD (c:Int).toNat 0)) hpre ?_ ?_ size17 at17 p1 p2 p3 info5 cells5 rfl rfl (λ_=>⟨_,rfl⟩) rfl rfl hn hcx) λe a' w' ⟨h1,h2,h3,w1,h4,h5,h6,h7⟩=>?_)
 ·refine List.all_eq_true.2 λt _=>?_
  unfold E17
  cases Nat.beq t 122
  ·cases Nat.beq t 121
   ·rcases EE_cases 8 WrG WrK u [(19,(c:Int)),(18,(j:Int))] l t with ⟨_,e⟩ | ⟨_,⟨i,e⟩ | e | e⟩ <;> (simp only [cFf];rw [show EW u _ l t=_ from e];rfl)
   ·rfl
  ·rfl
 ·intro t ht
  simp only [List.mem_cons,List.not_mem_nil,or_false,not_or] at ht
  obtain ⟨g1,g2,g3,g4,g5,g6,g7,g8,g9⟩:=ht
  have b:∀ k:Nat,t≠k->Nat.beq t k=false:=λk hk=>Bool.eq_false_iff.2 λe=>hk (Nat.eq_of_beq_eq_true e)
  simp [E17,EW,EE,ixV,hasN,b _ g1,b _ g2,b _ g3,b _ g4,b _ g5,b _ g6,b _ g7,b _ g8,b _ g9]
 ·subst h1
  have h8:Cx Go.Proofs.Tryz.prog R (EW u [(19,(c:Int)),(18,(j:Int))] l) a' w1:=by
   refine ⟨h5.tab,λt=>?_,λt j' b x hh=>?_⟩
   ·have:=h5.e t
    unfold E17 at this
    by_cases e1:t=122
    ·subst e1
     rw [show EW u [(19,(c:Int)),(18,(j:Int))] l 122=.bad from rfl]
     simp [RelV]
    ·by_cases e2:t=121
     ·subst e2
      rw [show EW u [(19,(c:Int)),(18,(j:Int))] l 121=.bad from rfl]
      simp [RelV]
     ·have b1:Nat.beq t 122=false:=Bool.eq_false_iff.2 λe=>e1 (Nat.eq_of_beq_eq_true e)
      have b2:Nat.beq t 121=false:=Bool.eq_false_iff.2 λe=>e2 (Nat.eq_of_beq_eq_true e)
      rw [b1,b2] at this
      exact this
   ·rcases EE_cases 8 WrG WrK u [(19,(c:Int)),(18,(j:Int))] l t with ⟨_,e⟩ | ⟨_,⟨i,e⟩ | e | e⟩ <;> (rw [show EW u _ l t=_ from e] at hh;cases hh)
  obtain ⟨l',k1,k2⟩:=h8.sim h6 h7 hR
  refine ⟨rfl,h2,h3,?_,l',hal.trans k1,k2⟩
  have c0:Chg R w w1:=⟨⟨h4.size,λg hg _=>h4.keep g hg λx=>x⟩,h4.os,h4.tape,h4.output⟩
  exact c0.trans h7 λ_ _ h=>h
theorem core15 {R:Nat->Prop} {l:List WrG.den} (hR:∀ g,(tabsOf Go.Proofs.Tryz.prog).out g->¬ R g) (hf:fitB (.sl WrG) l=true):WrOK Go.Proofs.Tryz.prog 132 R 8 WrG WrK [] l (wr15 wrP):=by
 rw [code15]
 have hf':l.length<=4611686018427387904/\∀ x∈l,fitB WrG x=true:=by
  have h1:(decide (l.length<=4611686018427387904)&&l.all (fitB WrG))=true:=hf
  rw [bAt] at h1
  exact ⟨of_decide_eq_true h1.1,λx hx=>List.all_eq_true.1 h1.2 x hx⟩
 have slots2:∀ t,t∉[8,18,0,5,6,7]->Nat.beq t 8=false/\(∀ y∈(18,(0:Int))::([]:List (Nat×Int)),y.1≠t)/\hasN WrK t=false:=λt ht=>by
  simp only [List.mem_cons,List.not_mem_nil,or_false,not_or] at ht
  obtain ⟨g1,g2,g3,g4,g5,g6⟩:=ht
  have b:∀ k:Nat,t≠k->Nat.beq t k=false:=λk hk=>Bool.eq_false_iff.2 λe=>hk (Nat.eq_of_beq_eq_true e)
  exact ⟨b _ g1,by simpa using λe=>g2 e.symm,by simp [hasN,b _ g3,b _ g4,b _ g5,b _ g6]⟩
 have slots4:∀ (j:Int) t,t∉[8,19,18,0,5,6,7]->Nat.beq t 8=false/\(∀ y∈(19,(0:Int))::[(18,j)],y.1≠t)/\hasN WrK t=false:=λj t ht=>by
  simp only [List.mem_cons,List.not_mem_nil,or_false,not_or] at ht
  obtain ⟨g1,g7,g2,g3,g4,g5,g6⟩:=ht
  have b:∀ k:Nat,t≠k->Nat.beq t k=false:=λk hk=>Bool.eq_false_iff.2 λe=>hk (Nat.eq_of_beq_eq_true e)
  exact ⟨b _ g1,by simpa using ⟨λe=>g7 e.symm,λe=>g2 e.symm⟩,by simp [hasN,b _ g3,b _ g4,b _ g5,b _ g6]⟩
 refine wloop mixedWr (s:=18) (cnt:=l.length) (slots:=[8,18,0,5,6,7]) hf'.1 (by simp) rfl (by decide) slots2 (λl u=>zero11 u l) (λ(l':List WrG.den) u j hal=>?_) (λl u j=>post13 u j l) λj hj=>?_
 ·have hlen:l.length=List.length l':=hal.1
  have:=pre12 u j l'
  rw [show @List.length WrG.den l'=l.length from hlen.symm] at this
  exact this
 ·intro u a w l1 hal hn hcx
  have hcnt:(wrB (l.getD j wrD)).length<=4611686018427387904:=by
   have hx:=hf'.2 _ (List.getElem_mem hj)
   simp only [fitB,bAt,dTe] at hx
   simp only [List.getD,List.getElem?_eq_getElem hj,Option.getD_some]
   exact hx.2.2.2.2.2.2.2.2.2.1.1
  have hw:=wloop mixedWr (P:=Go.Proofs.Tryz.prog) (R:=R) (d:=8) (G:=WrG) (keep:=WrK) (cx:=[(18,(j:Int))]) (l0:=l) (s:=19) (b:=4) (cnt:=(wrB (l.getD j wrD)).length) (r0:=wr15 (bi3++[false])) (pre:=wr15 (bo4++[false])) (post:=wr15 (bo4++[true,true])) (body:=.block 5 (.region 17 (opsOf (wr15 r17)) false)) (n:=132)
   (slots:=[8,19,18,0,5,6,7]) hcnt (by simp) rfl (by decide) (slots4 _) (λl u=>zero14 u _ l) (λ(l':List WrG.den) u c hal'=>by
    have:=pre15 u j c l'
    have hjl:j<l'.length:=by have:=hal'.1;omega
    rw [show (decide ((0:Int)<=(j:Int))&&decide ((j:Int)<(l'.length:Int)))=true by simp;omega,cTt] at this
    rw [wrB_alike hal']
    simpa only [nCt] using this) (λl u c=>post16 u _ c l) λc hc=>inner15 hR hj hc
  refine wp_block (wp_mono (Q':=Exit.inBlock 3 _) (hw u a w l1 hal hn hcx) λe a' w' ⟨h1,h2⟩=>?_)
  subst h1
  exact ⟨rfl,h2⟩
theorem writes15:WritesOK Go.Proofs.Tryz.prog 132 8 WrT [0,5,6,7] (wr15 wrP):=WritesOK.of (T:=WrT) (λ_ _ hR hf=>core15 hR hf) rfl
end Go.So
noncomputable section
namespace Go.So
open Go Go.Ev Go.Proofs
set_option maxRecDepth 100000
abbrev S0:Ty:=(.pair .str (.pair (.int .i64) (.pair (.int .i64) (.pair (.sl (.pair (.int .i64) (.pair .u8 (.pair (.sl .u8) .unit)))) .unit))))
abbrev S1:Type:=((List UInt8)×(Int×(Int×((List (Int×(UInt8×((List UInt8)×Unit))))×Unit))))
abbrev S2:VSh:=(.cons .s (.cons (.i .i64) (.cons (.i .i64) (.cons (.sl (.pair (.int .i64) (.pair .u8 (.pair (.sl .u8) .unit)))) .nil))))
abbrev S3:Ty:=(.pair .str (.pair (.int .i64) (.pair (.sl S0) .unit)))
abbrev S4:Type:=(List UInt8)
abbrev S5:Type:=(Int×(UInt8×(S4×Unit)))
abbrev S6:Ty:=(.pair (.int .i64) (.pair .u8 (.pair (.sl .u8) .unit)))
abbrev S7:VSh:=(.cons (.i .i64) (.cons .s (.cons .s (.cons .s (.cons (.i .i64) (.cons (.i .i64) (.cons .u (.cons (.i .i64) (.cons (.i .i64) (.cons (.sl .u8) .nil))))))))))
abbrev S8:VSh:=(.cons .s (.cons (.i .i64) (.cons (.sl S0) .nil)))
abbrev S9:Ty:=(.pair (.int .i64) (.pair .str (.pair .str (.pair .str (.pair (.int .i64) (.pair (.int .i64) (.pair .u8 (.pair (.int .i64) (.pair (.int .i64) (.pair (.sl .u8) .unit))))))))))
abbrev S10:Type:=(S4×(Int×((List S1)×Unit)))
abbrev S11:Type:=(Int×(S4×(S4×(S4×(Int×(Int×(UInt8×(Int×(Int×(S4×Unit))))))))))
abbrev S12:BSh:=(.vars (.cons (.sl S3) .nil))
abbrev S13:VSh:=(.cons (.ki .i64 (0)) (.cons (.ki .i64 (0)) (.cons (.own 3) .nil)))
abbrev S14:Ty:=(.pair (.int .i64) (.pair .str (.pair .str (.pair .str (.pair (.int .i64) (.pair (.int .i64) (.pair .u8 (.pair (.int .i64) (.pair (.int .i64) (.pair (.sl (.ln .u8)) .unit))))))))))
abbrev S15:BSh:=(.vars (.cons (.mp 1) .nil))
abbrev S16:Type:=(S4×Int×Int×(List S5)×Unit)
abbrev S17:VSh:=(.cons (.i .i64) (.cons (.own 2) .nil))
abbrev S18:VSh:=(.cons (.i .i64) .nil)
abbrev S19:VSh:=(.cons (.ki .i64 (0)) (.cons (.own 4) .nil))
abbrev S20:BSh:=(.vars (.cons (.i .i64) (.cons .u (.cons (.sl .u8) .nil))))
abbrev S21:BSh:=(.data S0)
abbrev S22:Type:=(Int×S4×S4×S4×Int×Int×UInt8×Int×Int×S4×Unit)
abbrev S23:Type:=(Unit×Unit)
abbrev S24:Type:=(List S5)
abbrev S25:Type:=(List (S4×S10))
abbrev S26:BSh:=(.vars (.cons (.sl .u8) (.cons .b .nil)))
abbrev S27:Type:=((List S10)×Unit)
abbrev S28:Type:=(S4×Int×(List S1)×Unit)
abbrev S29:BSh:=(.data S6)
abbrev S30:VSh:=(.cons (.i .i64) (.cons (.own 4) .nil))
abbrev S31:BSh:=(.vars S2)
abbrev S32:BSh:=(.vars S8)
abbrev S33:BSh:=(.vars (.cons .s (.cons (.i .i64) S17)))
abbrev S34:VSh:=(.cons (.ki .i64 (0)) (.cons (.own 3) .nil))
abbrev S35:Type:=(S4×Unit)
abbrev S36:Type:=(S4×Int×Unit×Unit)
abbrev S37:Type:=(((List (List S11))×Unit×Unit×Int×Unit)×(S23×S27×S25×Unit))
abbrev S38:Type:=(List S1)
abbrev S39:BSh:=(.vars (.cons .s S17))
abbrev S40:BSh:=(.vars (.cons .s (.cons (.i .i64) (.cons (.own 5) .nil))))
abbrev S41:Type:=(Unit×Unit×Unit×Unit)
abbrev S42:Type:=(Int×Unit)
abbrev S43:Type:=(Unit×Unit×Unit×Unit×Unit)
abbrev S44:BSh:=(.vars (.cons .s (.cons (.i .i64) S30)))
abbrev S45:BSh:=(.vars (.cons .s (.cons (.i .i64) (.cons (.own 1) .nil))))
abbrev S46:Type:=(S4×Int×Int×Unit×Unit)
abbrev S47:BSh:=(.vars (.cons (.mp 2) .nil))
abbrev S48:BSh:=(.vars (.cons .s (.cons (.i .i64) (.cons (.i .i64) (.cons (.own 6) .nil)))))
abbrev S49:BSh:=(.data .u8)
abbrev S50:VSh:=(.cons (.ki .i64 (0)) (.cons (.own 5) .nil))
abbrev S51:VSh:=(.cons .s .nil)
abbrev S52:VSh:=(.cons (.i .i64) S18)
abbrev S53:VSh:=(.fn 140 (.cons (.ptr 1 0) .nil))
abbrev S54:BSh:=(.data (.int .i64))
abbrev S55:Type:=(Bool×Unit)
abbrev S56:VSh:=(.cons (.ki .i64 (0)) S19)
abbrev S57:BSh:=(.vars S7)
abbrev S58:VSh:=(.cons (.ptr 0 0) .nil)
abbrev S59:Type:=(S23×S25×Unit)
abbrev S60:VSh:=(.cons (.ki .i64 (0)) (.cons (.ki .i64 (0)) (.cons (.own 2) .nil)))
abbrev S61:VSh:=(.cons (.i .i64) (.cons (.own 3) .nil))
abbrev S62:Type:=(List S11)
abbrev S63:VSh:=(.agg S2)
abbrev S64:BSh:=(.vars (.cons .s S30))
abbrev S65:Type:=(S4×Bool×Unit)
abbrev S66:VSh:=(.ifc 169 (.agg S18))
abbrev S67:Type:=(S42×Unit)
abbrev S68:Type:=(S23×S25×(List Int)×Unit)
abbrev S69:BSh:=(.vars S18)
abbrev S70:Type:=(Unit×Int×Int×Unit)
abbrev S71:VSh:=(.tup (.cons (.i .i64) (.cons .b .nil)))
abbrev S72:Type:=(Unit×Unit×Int×Int×Unit)
abbrev S73:Type:=(S35×Unit)
abbrev S74:Type:=(S27×Unit)
abbrev S75:Type:=(Unit×Int×Unit)
abbrev S76:VSh:=(.cons (.own 1) .nil)
abbrev S77:Type:=(S35×S36×S38×Unit)
abbrev S78:Type:=(S16×Int×Unit)
abbrev S79:BSh:=(.data .str)
abbrev S80:VSh:=(.cons (.agg S8) .nil)
abbrev S81:VSh:=(.cons S63 .nil)
abbrev S82:Type:=(S16×Unit)
abbrev S84:Type:=(S23×S27×S25×Unit)
abbrev S85:Type:=(Unit×Unit×Unit)
abbrev S86:Type:=(S46×S43×S24×S24×Unit)
abbrev S87:Type:=(List Int)
abbrev S88:Type:=((Int×Bool×Unit)×Unit)
abbrev S89:VSh:=(.cons S63 S18)
abbrev S90:Type:=(S23×Unit)
abbrev S91:Type:=(Unit×Unit×Int×Unit)
abbrev S92:VSh:=(.fn 163 .nil)
abbrev CX (X:List (FuncId×Orc)) (Y:List (FuncId×(List AV->Option AV))) (Z:List (FuncId×Deed)) (I:List FuncId):Calling:=callX Tryz.prog (lookX X) (lookM X) (lookY Y) (lookZ Z) (hasN I) 6
abbrev MX (X:List (FuncId×Orc)) (Y:List (FuncId×(List AV->Option AV))):=mild (lookM X) (lookY Y)
theorem mixed:Tryz.prog.follows .mixedOrders=true:=by kernel_rfl
theorem okk {X:List (FuncId×Orc)} {Y:List (FuncId×(List AV->Option AV))} {Z:List (FuncId×Deed)} {I:List FuncId} {f:FuncId} {fn:Func} {o:Orc} {h:HT} {ls:List LoopRec} (hrun:∀ p,evTop Tryz.prog (CX X Y Z I) (MX X Y) fn h o p=o.run p)
  (hf:Tryz.prog.funcs[f]?=some fn) (hen:Ev.Enters Tryz.prog f) (hl:AllL Tryz.prog (CX X Y Z I) (MX X Y) o.blks.length fn.ntmps ls) (hX:AllX Tryz.prog X:=by trivial) (hY:AllY Tryz.prog Y:=by trivial) (hZ:AllZ Tryz.prog Z:=by trivial) (hI:AllI Tryz.prog I:=by trivial)
  (hap:apartL X Y Z I=true:=by kernel_rfl) (hc:fn.body=some (bodyOf fn):=by kernel_rfl) (hfit:o.fits=true:=by kernel_rfl) (hls:loopsIn (bodyOf fn) (strip h)=ls:=by kernel_rfl):o.OK Tryz.prog f :=
 ok_of mixed hX hY hZ hI hap hf hen hc hfit hls hl hrun
theorem ok0 {X:List (FuncId×Orc)} {Y:List (FuncId×(List AV->Option AV))} {Z:List (FuncId×Deed)} {I:List FuncId} {f:FuncId} {fn:Func} {o:Orc} {h:HT} (hrun:∀ p,evTop Tryz.prog (CX X Y Z I) (MX X Y) fn h o p=o.run p)
  (hf:Tryz.prog.funcs[f]?=some fn) (hen:Ev.Enters Tryz.prog f) (hX:AllX Tryz.prog X:=by trivial) (hY:AllY Tryz.prog Y:=by trivial) (hZ:AllZ Tryz.prog Z:=by trivial) (hI:AllI Tryz.prog I:=by trivial)
  (hap:apartL X Y Z I=true:=by kernel_rfl) (hc:fn.body=some (bodyOf fn):=by kernel_rfl) (hfit:o.fits=true:=by kernel_rfl) (hls:loopsIn (bodyOf fn) (strip h)=[]:=by kernel_rfl):o.OK Tryz.prog f :=
 ok_of mixed hX hY hZ hI hap hf hen hc hfit hls trivial hrun
abbrev k40:=(([]:List UInt8),((0:Int),((0:Int),(([]:S24),()))))
abbrev k41:=((0:Int),((0:UInt8),(([]:S4),())))
abbrev k42:=((0:Int),(([]:List UInt8),(([]:List UInt8),(([]:List UInt8),((0:Int),((0:Int),((0:UInt8),((0:Int),((0:Int),(([]:S4),()))))))))))
abbrev k43:=(([]:List UInt8),((0:Int),(([]:S38),())))
abbrev k44:=(([]:List UInt8),(0:Int),(0:Int),([]:List S5),())
abbrev k45:=(([]:List UInt8),(0:Int),(),())
def F132 (p:S75×S73):Option ((S4⊕S42)×S73):=(Option.bind (cond (decide ((p.2.1.1.length:Int)<p.1.2.1)) (some (Sum.inr ((((),()),()),((p.2.1.1,()),())))) (some (Sum.inl (((),p.1.2.1,()),((p.2.1.1,()),()))))) λp1=>(match p1 with | Sum.inl p2=>(cond (((decide ((0:Int)<=p2.1.2.1))&&(decide (p2.1.2.1<=p2.1.2.1)))&&(decide (p2.1.2.1<=(p2.2.1.1.length:Int)))) (Option.bind (cond (((decide ((0:Int)<=p2.1.2.1))&&(decide (p2.1.2.1<=(p2.2.1.1.length:Int))))&&(decide ((p2.2.1.1.length:Int)<=(p2.2.1.1.length:Int)))) (some (((),(List.take p2.1.2.1.toNat p2.2.1.1),()),(((List.take ((Int.toNat (p2.2.1.1.length:Int))-p2.1.2.1.toNat) (List.drop p2.1.2.1.toNat p2.2.1.1)),()),()))) none) λp3=>((some ((Sum.inl p3.1.2.1),((p3.2.1.1,()),()))))) none) | Sum.inr q2=>(some ((Sum.inr ((3:Int),())),((q2.2.1.1,()),())))))
def O132:Orc:=⟨(.cons (.ptr 0 0) S18),[(0,(.vars (.cons (.sl (.ln .u8)) .nil)))],(.may (.sl (.ln .u8)) S66),[(0,(.vars (.cons (.sl (.ln .u8)) .nil)))],F132⟩
def H132:HT:=(.two .leaf (.two (.join [(.normal,⟨[(0,(.ptr 0 0)),(1,(.i .i64))],[(0,(.vars (.cons (.sl (.ln .u8)) .nil)))],1⟩),(.pan,⟨[(0,(.ifc 169 (.agg (.cons (.ki .i64 (3)) .nil))))],[(0,(.vars (.cons (.sl (.ln .u8)) .nil)))],1⟩)] .leaf) (.two .leaf (.two (.join [(.normal,⟨[(0,(.ptr 0 0)),(5,(.sl (.ln .u8)))],[(0,(.vars (.cons (.sl (.ln .u8)) .nil)))],1⟩)] .leaf) (.two (.join [(.normal,⟨[(0,(.ptr 0 0)),(4,(.sl (.ln .u8)))],[(0,(.vars (.cons (.sl (.ln .u8)) .nil)))],1⟩)] .leaf) .leaf)))))
theorem run132 (p):evTop Tryz.prog (CX [] [] [] []) (MX [] []) Tryz.f132 H132 O132 p=F132 p:=by kernel_rfl
theorem ok132:O132.OK Tryz.prog 132:=ok0 run132 Tryz.func132 Tryz.call132
def S98_0:Shape:=⟨[(0,(.ptr 0 0)),(5,(.i .i64)),(10,(.sl (.ln .u8))),(11,(.i .i64)),(12,(.i .i64))],[(0,(.vars (.cons (.sl (.ln .u8)) .nil)))],1⟩
def U98_0:Outs:=[((.exit 0),⟨[(0,(.ptr 0 0)),(5,(.i .i64))],[(0,(.vars (.cons (.sl (.ln .u8)) .nil)))],1⟩)]
abbrev T98_0:Type:=((Unit×Int×S4×Int×Int×Unit)×S73)
abbrev R98_0:Type:=(S75×S73)
def B98_0 (p:T98_0):Option (T98_0⊕R98_0):=(cond (decide (p.1.2.2.2.2.1<p.1.2.2.2.1)) (cond ((decide ((0:Int)<=p.1.2.2.2.2.1))&&(decide (p.1.2.2.2.2.1<(p.1.2.2.1.length:Int)))) (((some (Sum.inl (((),(bitsOf .or .i64 (w64 (p.1.2.1*2^8)) ((UInt8.toNat (List.getD p.1.2.2.1 p.1.2.2.2.2.1.toNat (0:UInt8)):Nat):Int)),p.1.2.2.1,p.1.2.2.2.1,(w64 (p.1.2.2.2.2.1+(1:Int))),()),((p.2.1.1,()),())))))) none) (some (Sum.inr (((),p.1.2.1,()),((p.2.1.1,()),())))))
def L98_0 (p:T98_0):Option R98_0:=loopOf B98_0 p
def H98_0:HT:=(.two .leaf (.two .leaf (.two (.one (.two .leaf (.join [(.normal,⟨[(0,(.ptr 0 0)),(5,(.i .i64)),(10,(.sl (.ln .u8))),(11,(.i .i64)),(12,(.i .i64))],[(0,(.vars (.cons (.sl (.ln .u8)) .nil)))],1⟩)] .leaf))) (.join [(.normal,⟨[(0,(.ptr 0 0)),(5,(.i .i64)),(10,(.sl (.ln .u8))),(11,(.i .i64)),(12,(.i .i64))],[(0,(.vars (.cons (.sl (.ln .u8)) .nil)))],1⟩)] .leaf))))
def F98 (p:S75×S73):Option ((Int⊕S42)×S73):=(Option.bind (Option.bind (F132 (((),p.1.2.1,()),((p.2.1.1,()),()))) λr1=>(match r1.1 with | Sum.inl r1a=>(Option.bind (L98_0 (((),(0:Int),r1a,(r1a.length:Int),(0:Int),()),((r1.2.1.1,()),()))) λp4=>(some (Sum.inl (((),p4.1.2.1,()),((p4.2.1.1,()),()))))) | Sum.inr r1b=>(some (Sum.inr (((r1b.1,()),()),((r1.2.1.1,()),())))))) λp5=>(match p5 with | Sum.inl p6=>(some ((Sum.inl p6.1.2.1),((p6.2.1.1,()),()))) | Sum.inr q6=>(some ((Sum.inr (q6.1.1.1,())),((q6.2.1.1,()),())))))
def O98:Orc:=⟨(.cons (.ptr 0 0) S18),[(0,(.vars (.cons (.sl (.ln .u8)) .nil)))],(.may (.i .i64) S66),[(0,(.vars (.cons (.sl (.ln .u8)) .nil)))],F98⟩
def H98:HT:=(.two .leaf (.two .leaf (.two (.join [(.normal,⟨[(0,(.ptr 0 0)),(5,(.i .i64))],[(0,(.vars (.cons (.sl (.ln .u8)) .nil)))],1⟩),(.pan,⟨[(0,S66)],[(0,(.vars (.cons (.sl (.ln .u8)) .nil)))],1⟩)] (.two .leaf (.one (.loop S98_0 U98_0 L98_0 H98_0)))) .leaf)))
def X98:List (FuncId×Orc):=[(132,O132)]
theorem round98_0 (p):round Tryz.prog (CX X98 [] [] []) (MX X98 []) 1 23 (subc (bodyOf Tryz.f98) [true,true,false,true,false,false]) H98_0 S98_0 U98_0 p=B98_0 p:=by kernel_rfl
theorem run98 (p):evTop Tryz.prog (CX X98 [] [] []) (MX X98 []) Tryz.f98 H98 O98 p=F98 p:=by kernel_rfl
theorem ok98:O98.OK Tryz.prog 98:=okk run98 Tryz.func98 Tryz.call98 (ls:=[⟨subc (bodyOf Tryz.f98) [true,true,false,true,false,false],H98_0,S98_0,U98_0,L98_0⟩]) ⟨LoopRec.of rfl round98_0,trivial⟩ (hX:=⟨ok132,trivial⟩)
def F97 (p:S23×S73):Option ((S4⊕S42)×S73):=(Option.bind (F98 (((),(1:Int),()),((p.2.1.1,()),()))) λr1=>(match r1.1 with | Sum.inl r1a=>(Option.bind (F132 (((),r1a,()),((r1.2.1.1,()),()))) λr2=>(match r2.1 with | Sum.inl r2a=>(some ((Sum.inl r2a),((r2.2.1.1,()),()))) | Sum.inr r2b=>(some ((Sum.inr (r2b.1,())),((r2.2.1.1,()),()))))) | Sum.inr r1b=>(some ((Sum.inr (r1b.1,())),((r1.2.1.1,()),())))))
def O97:Orc:=⟨S58,[(0,(.vars (.cons (.sl (.ln .u8)) .nil)))],(.may .s S66),[(0,(.vars (.cons (.sl (.ln .u8)) .nil)))],F97⟩
def X97:List (FuncId×Orc):=[(98,O98),(132,O132)]
theorem run97 (p):evTop Tryz.prog (CX X97 [] [] []) (MX X97 []) Tryz.f97 .leaf O97 p=F97 p:=by kernel_rfl
theorem ok97:O97.OK Tryz.prog 97:=ok0 run97 Tryz.func97 Tryz.call97 (hX:=⟨ok98,⟨ok132,trivial⟩⟩)
def F53 (p:S35×Unit):Option (Unit×S35):=(cond (List.isEmpty p.1.1) (agr (some ((),(([]:List UInt8),()))) (cond (bytesOK (0+(List.length p.1.1)) 1) (some ((),((([]:List UInt8)++p.1.1),()))) none)) (cond (bytesOK (0+(List.length p.1.1)) 1) (some ((),((([]:List UInt8)++p.1.1),()))) none))
def O53:Orc:=⟨(.cons (.sl (.ln .u8)) .nil),[],(.own 0),[(0,S49)],F53⟩
theorem run53 (p):evTop Tryz.prog (CX [] [] [] []) (MX [] []) Tryz.f53 .leaf O53 p=F53 p:=by kernel_rfl
theorem ok53:O53.OK Tryz.prog 53:=ok0 run53 Tryz.func53 Tryz.call53
def F99 (p:S23×S73):Option ((S4⊕S42)×S73):=(Option.bind (F98 (((),(2:Int),()),((p.2.1.1,()),()))) λr1=>(match r1.1 with | Sum.inl r1a=>(Option.bind (F132 (((),r1a,()),((r1.2.1.1,()),()))) λr2=>(match r2.1 with | Sum.inl r2a=>(Option.bind (F53 ((r2a,()),())) λr3=>(some ((Sum.inl r3.2.1),((r2.2.1.1,()),())))) | Sum.inr r2b=>(some ((Sum.inr (r2b.1,())),((r2.2.1.1,()),()))))) | Sum.inr r1b=>(some ((Sum.inr (r1b.1,())),((r1.2.1.1,()),())))))
def O99:Orc:=⟨S58,[(0,(.vars (.cons (.sl (.ln .u8)) .nil)))],(.may (.sl .u8) S66),[(0,(.vars (.cons (.sl (.ln .u8)) .nil)))],F99⟩
def X99:List (FuncId×Orc):=[(53,O53),(98,O98),(132,O132)]
theorem run99 (p):evTop Tryz.prog (CX X99 [] [] []) (MX X99 []) Tryz.f99 .leaf O99 p=F99 p:=by kernel_rfl
theorem ok99:O99.OK Tryz.prog 99:=ok0 run99 Tryz.func99 Tryz.call99 (hX:=⟨ok53,⟨ok98,⟨ok132,trivial⟩⟩⟩)
def S96_1:Shape:=⟨[(0,(.ptr 0 0)),(1,(.ptr 1 0)),(3,(.ptr 3 0)),(12,(.i .i64)),(13,(.i .i64)),(23,(.i .i64)),(24,(.i .i64))],[(0,(.vars (.cons (.sl (.ln .u8)) .nil))),(1,S39),(2,S21),(3,S44),(4,S29)],5⟩
def U96_1:Outs:=[((.exit 2),⟨[(0,(.ptr 0 0)),(1,(.ptr 1 0)),(3,(.ptr 3 0)),(12,(.i .i64)),(13,(.i .i64))],[(0,(.vars (.cons (.sl (.ln .u8)) .nil))),(1,S39),(2,S21),(3,S44),(4,S29)],5⟩),(.pan,⟨[(0,S66)],[(0,(.vars (.cons (.sl (.ln .u8)) .nil))),(1,S39),(2,S21)],3⟩)]
abbrev T96_1:Type:=((Unit×Unit×Unit×Int×Int×Int×Int×Unit)×(S35×S36×S38×S46×S24×Unit))
abbrev R96_1:Type:=(((Unit×Unit×Unit×Int×Int×Unit)×(S35×S36×S38×S46×S24×Unit))⊕(S67×S77))
def B96_1 (p:T96_1):Option (T96_1⊕R96_1):=(cond (decide (p.1.2.2.2.2.2.2.1<p.1.2.2.2.2.2.1)) (Option.bind (F98 (((),(4:Int),()),((p.2.1.1,()),()))) λr8=>(match r8.1 with | Sum.inl r8a=>(Option.bind (F98 (((),(1:Int),()),((r8.2.1.1,()),()))) λr9=>(match r9.1 with | Sum.inl r9a=>(Option.bind (F99 (((),()),((r9.2.1.1,()),()))) λr10=>(match r10.1 with | Sum.inl r10a=>(Option.bind (cond (bytesOK ((List.length p.2.2.2.2.2.1)+(List.length ([(r8a,((u8of r9a),(r10a,())))]:List S5))) 40) (some (((),(),(),p.1.2.2.2.1,p.1.2.2.2.2.1,p.1.2.2.2.2.2.1,p.1.2.2.2.2.2.2.1,()),((r10.2.1.1,()),(p.2.2.1.1,p.2.2.1.2.1,(),()),p.2.2.2.1,(p.2.2.2.2.1.1,p.2.2.2.2.1.2.1,p.2.2.2.2.1.2.2.1,(),()),(p.2.2.2.2.2.1++([(r8a,((u8of r9a),(r10a,())))]:List S5)),()))) none) λp11=>((some (Sum.inl (((),(),(),p11.1.2.2.2.1,p11.1.2.2.2.2.1,p11.1.2.2.2.2.2.1,(w64 (p11.1.2.2.2.2.2.2.1+(1:Int))),()),((p11.2.1.1,()),(p11.2.2.1.1,p11.2.2.1.2.1,(),()),p11.2.2.2.1,(p11.2.2.2.2.1.1,p11.2.2.2.2.1.2.1,p11.2.2.2.2.1.2.2.1,(),()),p11.2.2.2.2.2.1,())))))) | Sum.inr r10b=>(some (Sum.inr (Sum.inr (((r10b.1,()),()),((r10.2.1.1,()),(p.2.2.1.1,p.2.2.1.2.1,(),()),p.2.2.2.1,()))))))) | Sum.inr r9b=>(some (Sum.inr (Sum.inr (((r9b.1,()),()),((r9.2.1.1,()),(p.2.2.1.1,p.2.2.1.2.1,(),()),p.2.2.2.1,()))))))) | Sum.inr r8b=>(some (Sum.inr (Sum.inr (((r8b.1,()),()),((r8.2.1.1,()),(p.2.2.1.1,p.2.2.1.2.1,(),()),p.2.2.2.1,()))))))) (some (Sum.inr (Sum.inl (((),(),(),p.1.2.2.2.1,p.1.2.2.2.2.1,()),((p.2.1.1,()),(p.2.2.1.1,p.2.2.1.2.1,(),()),p.2.2.2.1,(p.2.2.2.2.1.1,p.2.2.2.2.1.2.1,p.2.2.2.2.1.2.2.1,(),()),p.2.2.2.2.2.1,()))))))
def L96_1 (p:T96_1):Option R96_1:=loopOf B96_1 p
def H96_1:HT:=(.two .leaf (.two .leaf (.two (.one (.two .leaf (.two .leaf (.join [(.normal,⟨[(0,(.ptr 0 0)),(1,(.ptr 1 0)),(3,(.ptr 3 0)),(12,(.i .i64)),(13,(.i .i64)),(23,(.i .i64)),(24,(.i .i64))],[(0,(.vars (.cons (.sl (.ln .u8)) .nil))),(1,S39),(2,S21),(3,S44),(4,S29)],5⟩)] .leaf)))) (.join [(.normal,⟨[(0,(.ptr 0 0)),(1,(.ptr 1 0)),(3,(.ptr 3 0)),(12,(.i .i64)),(13,(.i .i64)),(23,(.i .i64)),(24,(.i .i64))],[(0,(.vars (.cons (.sl (.ln .u8)) .nil))),(1,S39),(2,S21),(3,S44),(4,S29)],5⟩)] .leaf))))
def S96_0:Shape:=⟨[(0,(.ptr 0 0)),(1,(.ptr 1 0)),(12,(.i .i64)),(13,(.i .i64))],[(0,(.vars (.cons (.sl (.ln .u8)) .nil))),(1,S39),(2,S21)],3⟩
def U96_0:Outs:=[((.exit 0),⟨[(0,(.ptr 0 0)),(1,(.ptr 1 0))],[(0,(.vars (.cons (.sl (.ln .u8)) .nil))),(1,S39),(2,S21)],3⟩),(.pan,⟨[(0,S66)],[(0,(.vars (.cons (.sl (.ln .u8)) .nil))),(1,S39),(2,S21)],3⟩)]
abbrev T96_0:Type:=(S72×S77)
abbrev R96_0:Type:=((S85×S77)⊕(S67×S77))
def B96_0 (p:T96_0):Option (T96_0⊕R96_0):=(cond (decide (p.1.2.2.2.1<p.1.2.2.1)) (Option.bind (Option.bind (F97 (((),()),((p.2.1.1,()),()))) λr4=>(match r4.1 with | Sum.inl r4a=>(Option.bind (F98 (((),(4:Int),()),((r4.2.1.1,()),()))) λr5=>(match r5.1 with | Sum.inl r5a=>(Option.bind (F98 (((),(4:Int),()),((r5.2.1.1,()),()))) λr6=>(match r6.1 with | Sum.inl r6a=>(Option.bind (Option.bind (F98 (((),(1:Int),()),((r6.2.1.1,()),()))) λr7=>(match r7.1 with | Sum.inl r7a=>(Option.bind (L96_1 (((),(),(),p.1.2.2.1,p.1.2.2.2.1,r7a,(0:Int),()),((r7.2.1.1,()),(p.2.2.1.1,p.2.2.1.2.1,(),()),p.2.2.2.1,(r4a,r5a,r6a,(),()),([]:List S5),()))) λp13=>(match p13 with | Sum.inl p14=>(some (Sum.inl (((),(),(),p14.1.2.2.2.1,p14.1.2.2.2.2.1,()),((p14.2.1.1,()),(p14.2.2.1.1,p14.2.2.1.2.1,(),()),p14.2.2.2.1,(p14.2.2.2.2.1.1,p14.2.2.2.2.1.2.1,p14.2.2.2.2.1.2.2.1,(),()),p14.2.2.2.2.2.1,())))) | Sum.inr q14=>(some (Sum.inr (((q14.1.1.1,()),()),((q14.2.1.1,()),(q14.2.2.1.1,q14.2.2.1.2.1,(),()),q14.2.2.2.1,())))))) | Sum.inr r7b=>(some (Sum.inr (((r7b.1,()),()),((r7.2.1.1,()),(p.2.2.1.1,p.2.2.1.2.1,(),()),p.2.2.2.1,())))))) λp15=>(match p15 with | Sum.inl p16=>(Option.bind (cond (bytesOK ((List.length p16.2.2.2.1)+(List.length ([(p16.2.2.2.2.1.1,(p16.2.2.2.2.1.2.1,(p16.2.2.2.2.1.2.2.1,(p16.2.2.2.2.2.1,()))))]:List S1))) 56) (some (((),(),p16.1.2.2.2.1,p16.1.2.2.2.2.1,()),((p16.2.1.1,()),(p16.2.2.1.1,p16.2.2.1.2.1,(),()),(p16.2.2.2.1++([(p16.2.2.2.2.1.1,(p16.2.2.2.2.1.2.1,(p16.2.2.2.2.1.2.2.1,(p16.2.2.2.2.2.1,()))))]:List S1)),()))) none) λp17=>(some (Sum.inl (((),(),p17.1.2.2.1,p17.1.2.2.2.1,()),((p17.2.1.1,()),(p17.2.2.1.1,p17.2.2.1.2.1,(),()),p17.2.2.2.1,()))))) | Sum.inr q16=>(some (Sum.inr (((q16.1.1.1,()),()),((q16.2.1.1,()),(q16.2.2.1.1,q16.2.2.1.2.1,(),()),q16.2.2.2.1,())))))) | Sum.inr r6b=>(some (Sum.inr (((r6b.1,()),()),((r6.2.1.1,()),(p.2.2.1.1,p.2.2.1.2.1,(),()),p.2.2.2.1,())))))) | Sum.inr r5b=>(some (Sum.inr (((r5b.1,()),()),((r5.2.1.1,()),(p.2.2.1.1,p.2.2.1.2.1,(),()),p.2.2.2.1,())))))) | Sum.inr r4b=>(some (Sum.inr (((r4b.1,()),()),((r4.2.1.1,()),(p.2.2.1.1,p.2.2.1.2.1,(),()),p.2.2.2.1,())))))) λp18=>(match p18 with | Sum.inl p19=>(some (Sum.inl (((),(),p19.1.2.2.1,(w64 (p19.1.2.2.2.1+(1:Int))),()),((p19.2.1.1,()),(p19.2.2.1.1,p19.2.2.1.2.1,(),()),p19.2.2.2.1,())))) | Sum.inr q19=>(some (Sum.inr (Sum.inr (((q19.1.1.1,()),()),((q19.2.1.1,()),(q19.2.2.1.1,q19.2.2.1.2.1,(),()),q19.2.2.2.1,()))))))) (some (Sum.inr (Sum.inl (((),(),()),((p.2.1.1,()),(p.2.2.1.1,p.2.2.1.2.1,(),()),p.2.2.2.1,()))))))
def L96_0 (p:T96_0):Option R96_0:=loopOf B96_0 p
def H96_0:HT:=(.two .leaf (.two .leaf (.two (.join [(.normal,⟨[(0,(.ptr 0 0)),(1,(.ptr 1 0)),(12,(.i .i64)),(13,(.i .i64))],[(0,(.vars (.cons (.sl (.ln .u8)) .nil))),(1,S39),(2,S21)],3⟩),(.pan,⟨[(0,S66)],[(0,(.vars (.cons (.sl (.ln .u8)) .nil))),(1,S39),(2,S21)],3⟩)] (.one (.two .leaf (.two (.join [(.normal,⟨[(0,(.ptr 0 0)),(1,(.ptr 1 0)),(3,(.ptr 3 0)),(12,(.i .i64)),(13,(.i .i64))],[(0,(.vars (.cons (.sl (.ln .u8)) .nil))),(1,S39),(2,S21),(3,S44),(4,S29)],5⟩),(.pan,⟨[(0,S66)],[(0,(.vars (.cons (.sl (.ln .u8)) .nil))),(1,S39),(2,S21)],3⟩)] (.two .leaf (.one (.loop S96_1 U96_1 L96_1 H96_1)))) (.join [(.normal,⟨[(0,(.ptr 0 0)),(1,(.ptr 1 0)),(12,(.i .i64)),(13,(.i .i64))],[(0,(.vars (.cons (.sl (.ln .u8)) .nil))),(1,S39),(2,S21)],3⟩)] .leaf))))) .leaf)))
def F96 (p:S85×S77):Option ((Unit⊕S42)×S77):=(Option.bind (F97 (((),()),((p.2.1.1,()),()))) λr1=>(match r1.1 with | Sum.inl r1a=>(Option.bind (F98 (((),(4:Int),()),((r1.2.1.1,()),()))) λr2=>(match r2.1 with | Sum.inl r2a=>(Option.bind (F98 (((),(1:Int),()),((r2.2.1.1,()),()))) λr3=>(match r3.1 with | Sum.inl r3a=>(Option.bind (L96_0 (((),(),r3a,(0:Int),()),((r3.2.1.1,()),(r1a,r2a,(),()),p.2.2.2.1,()))) λp20=>(match p20 with | Sum.inl p21=>(some ((Sum.inl ()),((p21.2.1.1,()),(p21.2.2.1.1,p21.2.2.1.2.1,(),()),p21.2.2.2.1,()))) | Sum.inr q21=>(some ((Sum.inr (q21.1.1.1,())),((q21.2.1.1,()),(q21.2.2.1.1,q21.2.2.1.2.1,(),()),q21.2.2.2.1,()))))) | Sum.inr r3b=>(some ((Sum.inr (r3b.1,())),((r3.2.1.1,()),(r1a,r2a,(),()),p.2.2.2.1,()))))) | Sum.inr r2b=>(some ((Sum.inr (r2b.1,())),((r2.2.1.1,()),(p.2.2.1.1,p.2.2.1.2.1,(),()),p.2.2.2.1,()))))) | Sum.inr r1b=>(some ((Sum.inr (r1b.1,())),((r1.2.1.1,()),(p.2.2.1.1,p.2.2.1.2.1,(),()),p.2.2.2.1,())))))
def O96:Orc:=⟨(.cons (.ptr 0 0) (.cons (.ptr 1 0) .nil)),[(0,(.vars (.cons (.sl (.ln .u8)) .nil))),(1,S39),(2,S21)],(.may (.tup .nil) S66),[(0,(.vars (.cons (.sl (.ln .u8)) .nil))),(1,S39),(2,S21)],F96⟩
def H96:HT:=(.two .leaf (.two .leaf (.one (.loop S96_0 U96_0 L96_0 H96_0))))
def X96:List (FuncId×Orc):=[(97,O97),(98,O98),(99,O99)]
theorem round96_1 (p):round Tryz.prog (CX X96 [] [] []) (MX X96 []) 3 49 (subc (bodyOf Tryz.f96) [true,true,false,false,true,true,false,false,true,false,true,false,false]) H96_1 S96_1 U96_1 p=B96_1 p:=by kernel_rfl
theorem round96_0 (p):round Tryz.prog (CX X96 [] [] []) (MX X96 []) 3 49 (subc (bodyOf Tryz.f96) [true,true,false,false]) H96_0 S96_0 U96_0 p=B96_0 p:=by kernel_rfl
theorem run96 (p):evTop Tryz.prog (CX X96 [] [] []) (MX X96 []) Tryz.f96 H96 O96 p=F96 p:=by kernel_rfl
theorem ok96:O96.OK Tryz.prog 96:=okk run96 Tryz.func96 Tryz.call96 (ls:=[⟨subc (bodyOf Tryz.f96) [true,true,false,false],H96_0,S96_0,U96_0,L96_0⟩,⟨subc (bodyOf Tryz.f96) [true,true,false,false,true,true,false,false,true,false,true,false,false],H96_1,S96_1,U96_1,L96_1⟩]) ⟨LoopRec.of rfl round96_0,⟨LoopRec.of rfl round96_1,trivial⟩⟩ (hX:=⟨ok97,⟨ok98,⟨ok99,trivial⟩⟩⟩)
end Go.So
end
namespace Go.So
open Go Go.Proofs
set_option maxRecDepth 100000
theorem mixedQ:Tryz.prog.follows .mixedOrders=true:=by kernel_rfl
theorem tm130 (p:Option Addr) (x:Value):(#[Value.pointer p]++((Array.replicate 17 undef).setIfInBounds 3 x).setIfInBounds 0 x) =
  #[.pointer p,x,undef,undef,x,undef,undef,undef,undef,undef,undef,undef,undef,undef,undef,undef,undef,undef]:=by rfl
def flt (c:Int):Value:=.iface 169 (.agg #[.int .i64 c])
theorem idle130 (p:Addr) (w:World) :
  CallsD Tryz.prog 130 #[.pointer (some p)] .returning w λe u' w'=>e=.returned (.tuple #[])/\u'=.returning/\w'=w.alloc (.cells #[.int .i64 0] 169):=by
 have hta:∀ w:World,(Instr.typeAssert .nilIface 20 169 true).run Tryz.prog w=.ok (.tuple #[.agg #[.int .i64 0],.bool false]) w:=λw=>by kernel_rfl
 refine callsD_of_wpS Tryz.func130 rfl λc₀ cs hu=>?_
 apply wpS_seq
 apply wpS_region
 simp [wpOpsS,go_sem,recoverD,hu,Tryz.ntmps130,Exit.thenS]
 refine wpS_of_wp ?_
 rw [tm130]
 go_wp2
 cases c₀
 simp_all [bodyPostS,results,Tryz.results130]
theorem busy130 (n:Nat) (c:Int) (w:World) (v1:Value) (hn:n<w.heap.size) (h1:w.cell? ⟨n,0,none⟩=some v1) (h3:w.frozen? ⟨n,0,none⟩=false) :
  CallsD Tryz.prog 130 #[.pointer (some ⟨n,0,none⟩)] (.panicking [{ v:=flt c,recovered:=false }]) w λe u' w'=>e=.returned (.tuple #[])/\u'=.panicking [{ v:=flt c,recovered:=true }]/\w'=(w.setCell ⟨n,0,none⟩ (.int .i64 c)).alloc (.cells #[.int .i64 c] 169):=by
 have hta:∀ w:World,(Instr.typeAssert (.iface 169 (.agg #[.int .i64 c])) 20 169 true).run Tryz.prog w=.ok (.tuple #[.agg #[.int .i64 c],.bool true]) w:=λw=>by kernel_rfl
 have f1:(w.alloc (.cells #[.int .i64 c] 169)).cell? ⟨n,0,none⟩=some v1:=(World.cell?_alloc_past _ _ _ hn).trans h1
 have f2:(w.alloc (.cells #[.int .i64 c] 169)).frozen? ⟨n,0,none⟩=false:=(World.frozen?_alloc_past _ _ _ hn).trans h3
 unfold flt
 refine callsD_of_wpS Tryz.func130 rfl λc₀ cs hu=>?_
 apply wpS_seq
 apply wpS_region
 simp [wpOpsS,go_sem,recoverD,hu,Tryz.ntmps130,Exit.thenS]
 refine wpS_of_wp ?_
 rw [tm130]
 go_wp2
 cases c₀
 simp_all [bodyPostS,results,Tryz.results130]
theorem must_true (w:World):Calls Tryz.prog 131 #[.bool true] w λe w'=>e=.returned (.tuple #[])/\w'=w:=by
 have mixed:=mixedQ
 go_enter Tryz.func131,Tryz.ntmps131
 go_wp2
 simp [bodyPost,results,Tryz.results131]
theorem must_false (w:World):Calls Tryz.prog 131 #[.bool false] w λe w'=>e=.panicked [{ v:=flt 4,recovered:=false }]/\w'=w:=by
 have mixed:=mixedQ
 go_enter Tryz.func131,Tryz.ntmps131
 go_wp2
 have hp:(Instr.panic (.iface 169 (.agg #[.int .i64 4]))).run Tryz.prog w=.halt (.panic (.iface 169 (.agg #[.int .i64 4]))) w:=rfl
 rw [hp]
 show Oper.upon Tryz.prog _ _ _ _ (.halt (.panic (.iface 169 (.agg #[.int .i64 4]))) w)
 rw [Oper.upon_panic]
 show bodyPost Tryz.prog Tryz.f131 _ _ _ _
 simp [bodyPost,flt]
def w95 (w:World) (v:Value):World:=(w.alloc (.cells #[.int .i64 0] 26)).alloc (.cells #[v] 172)
def R96 (w:World) (v:Value) (G:Nat->World->Prop) (B:Int->World->Prop) (e:Ending) (w':World):Prop :=
 w.heap.size+2<=w'.heap.size/\w'.heap[w.heap.size]?=(w95 w v).heap[w.heap.size]? /\
 ((e=.returned (.tuple #[])/\∃ a2 n2 c2,w'.cell? ⟨w.heap.size+1,0,none⟩=some (.slice a2 n2 c2)/\G n2 w')\/(∃ c,e=.panicked [{ v:=flt c,recovered:=false }]/\B c w'))
def End95 (w w' w'':World):Prop :=
 w''.heap.size=w'.heap.size+1/\w''.os=w'.os/\w''.tape=w'.tape/\w''.output=w'.output/\∀ g,g<w'.heap.size->g≠w.heap.size->w''.heap[g]?=w'.heap[g]?
theorem end_of (w w':World) (x:Value) (o:Array Value) (t:TypeId):End95 w w' ((w'.setCell ⟨w.heap.size,0,none⟩ x).alloc (.cells o t)):=by
 refine ⟨by simp [World.setCell,World.alloc],rfl,rfl,rfl,λg hg hne=>?_⟩
 show ((World.setCell _ _ _).heap.push _)[g]?=_
 simp only [World.setCell]
 rw [Array.getElem?_push,if_neg (by simp only [Array.size_modify];omega),Array.getElem?_modify,if_neg (λh=>hne h.symm)]
theorem cell95 {w w':World} {v:Value} (h:w'.heap[w.heap.size]?=(w95 w v).heap[w.heap.size]?):w'.cell? ⟨w.heap.size,0,none⟩=some (.int .i64 0)/\w'.frozen? ⟨w.heap.size,0,none⟩=false:=by
 rw [Ev.cell?_of_heap h,Ev.frozen?_of_heap h]
 simp [w95,go_sem]
theorem set95 {w w':World} {x:Value} {y:Value} {o:Array Value} {t:TypeId} (hs:w.heap.size+2<=w'.heap.size) (h:w'.cell? ⟨w.heap.size,0,none⟩=some x):((w'.setCell ⟨w.heap.size,0,none⟩ y).alloc (.cells o t)).cell? ⟨w.heap.size,0,none⟩=some y:=by
 rw [World.cell?_alloc_past _ _ _ (by simp [World.setCell];omega),World.cell?_setCell_same _ _ _ h]
theorem walk95 (w:World) (a:Option Addr) (n c:Nat) (P:Option Addr) (G:Nat->World->Prop) (B:Int->World->Prop)
  (hc:Calls Tryz.prog 96 #[.pointer (some ⟨w.heap.size+1,0,none⟩),.pointer P] (w95 w (.slice a n c)) (R96 w (.slice a n c) G B)) :
  Calls Tryz.prog 95 #[.slice a n c,.func (.func 96) #[] #[.pointer P]] w λe w'' =>
   (∃ w',G 0 w'/\e=.returned (.int .i64 0)/\End95 w w' w'')\/(∃ n2 w',n2≠0/\G n2 w'/\e=.returned (.int .i64 4)/\End95 w w' w'')\/(∃ c w',B c w'/\e=.returned (.int .i64 c)/\End95 w w' w''):=by
 have hmf:∀ (fn:Fn) (first cap:Array Value) (w:World),(Instr.makeFunc fn first cap).run Tryz.prog w=.ok (.func fn first cap) w:=λ_ _ _ _=>rfl
 have hc':Calls Tryz.prog 96 #[.pointer (some ⟨w.heap.size+1,0,none⟩),.pointer P] ((w.alloc (.cells #[.int .i64 0] 26)).alloc (.cells #[.slice a n c] 172)) (R96 w (.slice a n c) G B):=hc
 clear hc
 have e131:=Tryz.call131
 have e96:=Tryz.call96
 go_enter_defers Tryz.func95,Tryz.ntmps95
 go_wp2_with (refine hc'.mono ?_;rintro e w' ⟨hs,k1,⟨rfl,a2,n2,q2,k3,k4⟩ | ⟨c,rfl,k4⟩⟩ <;> (obtain ⟨c1,f1⟩:=cell95 k1))
 ·by_cases hn:n2=0
  ·subst hn
   have hb:(((0:Nat):Int) == 0)=true:=by rfl
   rw [hb]
   refine (must_true _).mono ?_
   rintro e w2 ⟨rfl,rfl⟩
   go_wp2
   refine leaves_cons (f:=130) (args:=#[.pointer (some ⟨w.heap.size,0,none⟩)]) (by simp) (by simp [go_sem]) ?_
   refine (idle130 _ _).mono ?_
   rintro e u' w3 ⟨rfl,rfl,rfl⟩
   have d1:=set95 (w:=w) (w':=w2) (y:=.int .i64 0) (o:=#[.int .i64 0]) (t:=169) hs c1
   simp [Leaves,settle,results,Tryz.results95,go_sem,d1]
   exact .inl ⟨w2,k4,end_of w w2 _ _ _⟩
  ·have hb:(((n2:Nat):Int) == 0)=false:=by simpa using hn
   rw [hb]
   refine (must_false _).mono ?_
   rintro e w2 ⟨rfl,rfl⟩
   refine leaves_cons (f:=130) (args:=#[.pointer (some ⟨w.heap.size,0,none⟩)]) (by simp) (by simp [go_sem]) ?_
   refine (busy130 w.heap.size 4 w2 _ (by omega) c1 f1).mono ?_
   rintro e u' w3 ⟨rfl,rfl,rfl⟩
   have d1:=set95 (w:=w) (w':=w2) (y:=.int .i64 4) (o:=#[.int .i64 4]) (t:=169) hs c1
   simp [Leaves,settle,results,Tryz.results95,go_sem,d1]
   obtain ⟨m,rfl⟩:∃ m,n2=m+1:=⟨n2-1,by omega⟩
   exact .inl ⟨m,w2,k4,end_of w w2 _ _ _⟩
 ·refine leaves_cons (f:=130) (args:=#[.pointer (some ⟨w.heap.size,0,none⟩)]) (by simp) (by simp [go_sem]) ?_
  refine (busy130 w.heap.size c w' _ (by omega) c1 f1).mono ?_
  rintro e u' w3 ⟨rfl,rfl,rfl⟩
  have d1:=set95 (w:=w) (w':=w') (y:=.int .i64 c) (o:=#[.int .i64 c]) (t:=169) hs c1
  simp [Leaves,settle,results,Tryz.results95,go_sem,d1]
  exact .inr (.inr ⟨c,w',k4,rfl,end_of w w' _ _ _⟩)
end Go.So
namespace Go.So
open Go Go.Ev Go.Proofs
set_option maxRecDepth 100000
abbrev LetT:Ty:=.pair (.int .i64) (.pair .u8 (.pair (.sl .u8) .unit))
abbrev BoxT0:Ty:=.pair .str (.pair (.int .i64) (.pair (.int .i64) (.pair (.sl LetT) .unit)))
noncomputable def rdR (l:List UInt8):=F96 (((),(),()),((l,()),([],0,(),()),[],()))
noncomputable def rdOK (l:List UInt8):Bool :=
 match rdR l with
 | some _=>true
 | none=>false
noncomputable def rdU (l:List UInt8):List UInt8×Int×List BoxT0.den×Unit :=
 match rdR l with
 | some (_,q)=>(q.2.1.1,q.2.1.2.1,q.2.2.1,())
 | none=>([],0,[],())
noncomputable def rdE (l:List UInt8):Int :=
 match rdR l with
 | some (Sum.inl _,q)=>if q.1.1.length=0 then 0 else 4
 | some (Sum.inr c,_)=>c.1
 | none=>0
noncomputable def zRead:Deed:=λargs S =>
 match args with
 | [.sl (.ln .u8) l,.fn 96 [.ptr b 0]]=>match S.H b with
  | .vars [.s n,.i .i64 z,.c u]=>cond (isNilSl u) (some ((List.isEmpty n&&decide (z=0))&&rdOK l,.i .i64 (rdE l),⟨S.E,updH S.H b (.vars [.s (rdU l).1,.i .i64 (rdU l).2.1,.sl BoxT0 (rdU l).2.2.1]),S.nx,S.kl⟩)) none
  | _=>none
 | _=>none
theorem w95_size (w:World) (v:Value):(w95 w v).heap.size=w.heap.size+2:=by
 show ((w.heap.push _).push _).size=_
 simp only [Array.size_push]
theorem w95_old (w:World) (v:Value) {g:Nat} (h:g<w.heap.size):(w95 w v).heap[g]?=w.heap[g]?:=by
 show ((w.heap.push _).push _)[g]?=_
 rw [Array.getElem?_push,if_neg (by simp only [Array.size_push];omega),Array.getElem?_push,if_neg (by omega)]
theorem w95_new (w:World) (v:Value):(w95 w v).heap[w.heap.size+1]?=some (.cells #[v] 172 (0,0)):=by
 show ((w.heap.push _).push _)[w.heap.size+1]?=_
 rw [Array.getElem?_push,if_pos (by simp only [Array.size_push])]
theorem w95_cell (w:World) (v:Value) (i:Nat):(w95 w v).cell? ⟨w.heap.size+1,i,none⟩=#[v][i]?:=by
 unfold w95
 rw [World.cell?_alloc_at _ _ _ _ (by show _=(w.heap.push _).size;simp only [Array.size_push])]
theorem w95_frozen (w:World) (v:Value) (i:Nat):(w95 w v).frozen? ⟨w.heap.size+1,i,none⟩=false:=by
 unfold w95
 rw [World.frozen?_alloc_at _ _ _ _ (by show _=(w.heap.push _).size;simp only [Array.size_push])]
def F6' {P:Program} (F:Frm (tabsOf P)) (μ:Nat->Option Nat) (H:Nat->Blk) (w:World) (g:Nat):Frm (tabsOf P) :=
 { out:=λk=>F k\/(Trk μ H k/\k≠g)\/k=w.heap.size,hot:=λk=>F.hot k\/(Trk μ H k/\k≠g)\/k=w.heap.size,le:=λk h=>h.imp (F.le k) id,reg:=F.reg,unf:=F.unf }
def N6 {P:Program} (F:Frm (tabsOf P)) (μ:Nat->Option Nat) (H:Nat->Blk) (w:World) (g:Nat):NN :=
 ⟨λk=>(F6' F μ H w g k)\/k=w.heap.size+1\/k=g,λk=>(F6' F μ H w g).hot k\/k=w.heap.size+1\/k=g,λk h=>h.imp ((F6' F μ H w g).le k) id,F.reg,F.unf⟩
def μ6 (w:World) (g:Nat):Nat->Option Nat:=λb=>if b=0 then some (w.heap.size+1) else if b=1 then some g else none
theorem μ6_some {w:World} {g b k:Nat} (h:μ6 w g b=some k):(b=0/\k=w.heap.size+1)\/(b=1/\k=g):=by
 unfold μ6 at h
 split at h
 ·cases h;exact .inl ⟨by assumption,rfl⟩
 ·split at h
  ·cases h;exact .inr ⟨by assumption,rfl⟩
  ·cases h
abbrev q0 (l:List UInt8):blksDen O96.blks:=((l,()),([],0,(),()),[],())
theorem H96_dead {l:List UInt8} {b:Nat} (h0:b≠0) (h1:b≠1) (h2:b≠2):unBlks O96.blks (q0 l) b=.dead:=by
 show updH (updH (updH (λ_=>.dead) 2 _) 1 _) 0 _ b=.dead
 rw [updH_other h0,updH_other h1,updH_other h2]
theorem in96 {F:Frm (tabsOf Tryz.prog)} {μ:Nat->Option Nat} {H:Nat->Blk} {nx:Nat} {w:World} (hp:Hp F μ H nx w) {l:List UInt8} {v:Value} (hv:RelD w (Not F μ H) (.sl (.ln .u8)) l [v]) {b g:Nat} (hl:H b≠.dead) (hg:μ b=some g)
  (hrow:Ev.rowAt w g 0 [.string ⟨#[]⟩,.int .i64 0,.slice none 0 0]) (hroom:room w g 3) :
  Hp (F6' F μ H w g) (μ6 w g) (unBlks O96.blks (q0 l)) O96.blks.length (w95 w v):=by
 have hgl:=hp.lt b g hl hg
 have hN:Sub w (Not (F6' F μ H w g) (μ6 w g) (unBlks O96.blks (q0 l))) (Not F μ H):=by
  refine ⟨λk hk h=>?_,λk hk h=>?_,λ_ _ h=>h,λ_ _ h=>h⟩
  iterate 2
   rcases h with (h | h | h) | ⟨b',_,h⟩
   ·exact .inl h
   ·exact .inr h.1
   ·omega
   ·rcases μ6_some h with ⟨_,h⟩ | ⟨_,h⟩
    ·omega
    ·exact .inr ⟨b,hl,by rw [h];exact hg⟩
 have hK:Keep (Not F μ H).trk w (w95 w v):=⟨by rw [w95_size];omega,λk hk _=>w95_old w v hk⟩
 refine ⟨λb'=>?_,λb' k h1 h2=>?_,λb1 b2 k h1 h2 h3 h4=>?_,λb' hb=>?_,λb' k h1 h2=>?_,λk h=>?_,?_,λb' k h1 h2=>?_,λb' k h1 h2=>?_,λb' k h1 h2=>?_⟩
 ·by_cases h0:b'=0
  ·subst h0
   show RelB _ _ _ _ 0 (.vars [.sl (.ln .u8) l])
   simp only [RelB]
   refine .inr ⟨w.heap.size+1,[v],rfl,?_,λi hi=>?_,λk hk=>?_⟩
   ·simp only [RelVs,RelV]
    exact ⟨v,_,rfl,hv.keep hK hN,rfl⟩
   ·rw [Nat.zero_add,w95_cell]
    match i,hi with
    | 0,_=>rfl
   ·refine ⟨?_,w95_frozen _ _ _⟩
    rw [w95_cell]
    match k,hk with
    | 0,_=>rfl
  ·by_cases h1:b'=1
   ·subst h1
    show RelB _ _ _ _ 1 (.vars [.s [],.i .i64 0,.wh 2])
    simp only [RelB]
    refine .inr ⟨g,[.string ⟨#[]⟩,.int .i64 0,.slice none 0 0],rfl,?_,rowAt_of_heap (w95_old w v hgl) hrow,room_of_heap (w95_old w v hgl) hroom⟩
    simp only [RelVs,RelV]
    exact ⟨_,_,rfl,rfl,_,_,rfl,rfl,_,_,rfl,⟨BoxT0,[],rfl,.inr ⟨rfl,rfl,rfl⟩⟩,rfl⟩
   ·by_cases h2:b'=2
    ·subst h2
     show RelB _ _ _ _ 2 (.data BoxT0 [])
     simp only [RelB]
     exact .inl ⟨rfl,trivial⟩
    ·rw [H96_dead h0 h1 h2]
     simp only [RelB]
 ·rw [w95_size]
  rcases μ6_some h2 with ⟨_,h⟩ | ⟨_,h⟩ <;> omega
 ·rcases μ6_some h3 with ⟨e1,h⟩ | ⟨e1,h⟩ <;> rcases μ6_some h4 with ⟨e2,h'⟩ | ⟨e2,h'⟩
  ·omega
  ·omega
  ·omega
  ·omega
 ·have hb:3<=b':=hb
  exact H96_dead (by omega) (by omega) (by omega)
 ·rcases μ6_some h2 with ⟨_,h⟩ | ⟨_,h⟩
  ·rintro (h' | h' | h')
   ·have:=hp.flt _ h';omega
   ·obtain ⟨⟨b2,hb,hm⟩,_⟩:=h'
    have:=hp.lt b2 _ hb hm;omega
   ·omega
  ·rintro (h' | h' | h')
   ·exact hp.apart b g hl hg (by rw [<- h];exact h')
   ·exact h'.2 h
   ·omega
 ·rw [w95_size]
  rcases h with h | h | h
  ·have:=hp.flt _ h;omega
  ·obtain ⟨⟨b2,hb,hm⟩,_⟩:=h
   have:=hp.lt b2 _ hb hm;omega
  ·omega
 ·exact (tabsOf Tryz.prog).stays w _ (λk hk=>w95_old w v ((tabsOf Tryz.prog).lt w k hp.tab hk)) hp.tab
 ·rcases μ6_some h2 with ⟨_,h⟩ | ⟨_,h⟩
  ·intro ho
   have:=(tabsOf Tryz.prog).lt w k hp.tab ho
   omega
  ·rw [h];exact hp.tapart b g hl hg
 ·rcases μ6_some h2 with ⟨e,_⟩ | ⟨e,_⟩
  ·subst e;cases h1
  ·subst e;cases h1
 ·rcases μ6_some h2 with ⟨_,h⟩ | ⟨_,h⟩
  ·intro c e m hc
   rw [h] at hc
   rw [w95_new] at hc
   cases hc
   exact Nat.le_refl _
  ·rw [h]
   exact (hp.wfm b g hl hg).of_heap (w95_old w v hgl)
def Post96 {P:Program} (F:Frm (tabsOf P)) (μ:Nat->Option Nat) (H:Nat->Blk) (w:World) (g:Nat) (l:List UInt8) (w':World):Prop :=
 w'.os=w.os/\w'.tape=w.tape/\w'.output=w.output/\w.heap.size+2<=w'.heap.size/\(∀ k,k<w.heap.size->k≠g->w'.heap[k]?=w.heap[k]?) /\
  ∃ x3:Value,Ev.rowAt w' g 0 [.string ⟨(rdU l).1.toArray⟩,.int .i64 (rdU l).2.1,x3]/\room w' g 3/\Wfm w' g/\∃ N:NN,N.reg=F.reg/\N.unf=F.unf/\(∀ k,F k\/Trk μ H k\/k=w.heap.size->N.all k)/\(∀ k,F.hot k\/Trk μ H k\/k=w.heap.size->N.trk k)/\RelD w' N (.sl BoxT0) (rdU l).2.2.1 [x3]
theorem call96 {F:Frm (tabsOf Tryz.prog)} {μ:Nat->Option Nat} {H:Nat->Blk} {nx:Nat} {w:World} (hp:Hp F μ H nx w) {l:List UInt8} {v:Value} (hv:RelD w (Not F μ H) (.sl (.ln .u8)) l [v]) {b g:Nat} (hl:H b≠.dead) (hg:μ b=some g)
  (hrow:Ev.rowAt w g 0 [.string ⟨#[]⟩,.int .i64 0,.slice none 0 0]) (hroom:room w g 3) (hok:rdOK l=true) :
  Calls Tryz.prog 96 #[.pointer (some ⟨w.heap.size+1,0,none⟩),.pointer (some ⟨g,0,none⟩)] (w95 w v)
   (R96 w v (λn2 w'=>rdE l=(if n2=0 then 0 else 4)/\Post96 F μ H w g l w') λc w'=>rdE l=c/\Post96 F μ H w g l w'):=by
 have hgl:=hp.lt b g hl hg
 cases hr:rdR l with
 | none=>simp [rdOK,hr] at hok
 | some r =>
  have hargs:RelVs (w95 w v) (Not (F6' F μ H w g) (μ6 w g) (unBlks O96.blks (q0 l))) (μ6 w g) (unBlks O96.blks (q0 l)) (unL O96.args ((),(),())) [.pointer (some ⟨w.heap.size+1,0,none⟩),.pointer (some ⟨g,0,none⟩)]:=by
   show RelVs _ _ _ _ [.ptr 0 0,.ptr 1 0] _
   simp only [RelVs,RelV]
   exact ⟨_,_,rfl,⟨(λh=>by cases h),_,rfl,rfl⟩,_,_,rfl,⟨(λh=>by cases h),_,rfl,rfl⟩,rfl⟩
  refine (ok96.run (((),(),()),q0 l) r hr (F6' F μ H w g) (μ6 w g) (w95 w v) _ (in96 hp hv hl hg hrow hroom) hargs).mono λe w' ⟨val,μ',nx',h1,h2,h3,hch,hnew,hpin⟩=>?_
  have htrk:∀ k,Trk (μ6 w g) (unBlks O96.blks (q0 l)) k->k=w.heap.size+1\/k=g:=λk ⟨b,_,h⟩=>by
   rcases μ6_some h with ⟨_,h⟩ | ⟨_,h⟩
   ·exact .inl h
   ·exact .inr h
  have hsz:w.heap.size+2<=w'.heap.size:=by
   have:=hch.size
   rwa [w95_size] at this
  have hkeep:∀ k,k<w.heap.size+2->k≠w.heap.size+1->k≠g->w'.heap[k]?=(w95 w v).heap[k]?:=λk hk h1 h2=>hch.keep k (by rw [w95_size];exact hk) λh=>by
   rcases htrk k h with h | h
   ·exact h1 h
   ·exact h2 h
  obtain ⟨x,q⟩:=r
  have hm0:μ' 0=some (w.heap.size+1):=(hpin 0 (by show 0<3;omega) (by show (Blk.vars _).tag≠0;simp [Blk.tag])).2
  have hm1:μ' 1=some g:=(hpin 1 (by show 1<3;omega) (by show (Blk.vars _).tag≠0;simp [Blk.tag])).2
  have hB0:RelB w' (Not (F6' F μ H w g) μ' (unBlks O96.oblks q)) μ' (unBlks O96.oblks q) 0 (.vars [.sl (.ln .u8) q.1.1]):=h2.blk 0
  have hB1:RelB w' (Not (F6' F μ H w g) μ' (unBlks O96.oblks q)) μ' (unBlks O96.oblks q) 1 (.vars [.s q.2.1.1,.i .i64 q.2.1.2.1,.wh 2]):=h2.blk 1
  have hB2:RelB w' (Not (F6' F μ H w g) μ' (unBlks O96.oblks q)) μ' (unBlks O96.oblks q) 2 (.data BoxT0 q.2.2.1):=h2.blk 2
  have hl0:unBlks O96.oblks q 0≠.dead:=by show (Blk.vars _)≠.dead;simp
  have hl1:unBlks O96.oblks q 1≠.dead:=by show (Blk.vars _)≠.dead;simp
  have hl2:unBlks O96.oblks q 2=.data BoxT0 q.2.2.1:=rfl
  have hU:rdU l=(q.2.1.1,q.2.1.2.1,q.2.2.1,()):=by simp [rdU,hr]
  simp only [RelB] at hB0 hB1 hB2
  rcases hB1 with hB1 | ⟨g',vs,hg',hvs,hrow1,hroom1⟩
  ·rw [hm1] at hB1;cases hB1
  rw [hm1] at hg'
  cases hg'
  simp only [RelVs,RelV] at hvs
  obtain ⟨y1,_,rfl,rfl,y2,_,rfl,rfl,x3,_,rfl,⟨t,l',hl',hx3⟩,rfl⟩:=hvs
  rw [hl2] at hl'
  injection hl' with e1 e2
  subst e1
  have e2:=eq_of_heq e2
  subst e2
  have hpost:Post96 F μ H w g l w':=by
   refine ⟨hch.os,hch.tape,hch.output,hsz,λk hk hne=>(hkeep k (by omega) (by omega) hne).trans (w95_old w v hk),x3,by rw [hU];exact hrow1,hroom1,h2.wfm 1 g hl1 hm1,N6 F μ H w g,rfl,rfl,λk hk=>?_,λk hk=>?_,?_⟩
   iterate 2
    rcases hk with hk | hk | hk
    ·exact .inl (.inl hk)
    ·by_cases h:k=g
     ·exact .inr (.inr h)
     ·exact .inl (.inr (.inl ⟨hk,h⟩))
    ·exact .inl (.inr (.inr hk))
   ·rw [hU]
    simp only [RelD]
    rcases hx3 with ⟨g2,c,hm2,rfl,hc,hroom2⟩ | ⟨hm2,hnil,rfl⟩
    ·refine ⟨_,_,rfl,hc,λ_=>⟨g2,0,rfl,?_,h2.lt 2 g2 (by rw [hl2];simp) hm2,λ_ k hk=>by rw [Nat.zero_add];exact (hroom2 k (Nat.lt_of_lt_of_le hk (Nat.mul_le_mul_right _ hc))).2,λi hi=>?_⟩⟩
     ·rintro (h | h | h)
      ·exact h2.apart 2 g2 (by rw [hl2];simp) hm2 h
      ·have:=h2.inj 0 2 g2 hl0 (by rw [hl2];simp) (by rw [h];exact hm0) hm2
       cases this
      ·have:=h2.inj 1 2 g2 hl1 (by rw [hl2];simp) (by rw [h];exact hm1) hm2
       cases this
     ·rcases hB2 with ⟨h,_⟩ | ⟨g3,hg3,_,hrows⟩
      ·rw [hm2] at h;cases h
      rw [hm2] at hg3
      cases hg3
      obtain ⟨es,e1,e2,e3⟩:=hrows i hi
      have hs:Sub w' (N6 F μ H w g) (Not (F6' F μ H w g) μ' (unBlks O96.oblks q)):=by
       refine ⟨λk _ hk=>?_,λk _ hk=>?_,λ_ _ h=>h,λ_ _ h=>h⟩
       all_goals
        rcases hk with hk | hk | hk
        ·exact .inl hk
        ·exact .inr ⟨0,hl0,by rw [hk];exact hm0⟩
        ·exact .inr ⟨1,hl1,by rw [hk];exact hm1⟩
      have e4:=e3.keep (Keep.refl w') hs
      refine ⟨es,e1,by rw [Nat.zero_add];exact e2,?_⟩
      simpa only [RelD] using e4
    ·rw [hnil]
     exact ⟨none,0,rfl,Nat.le_refl _,λh=>absurd h (Nat.lt_irrefl _)⟩
  have hne:w.heap.size≠g:=by omega
  refine ⟨hsz,hkeep _ (by omega) (by omega) hne,?_⟩
  cases x with
  | inl x =>
   left
   have h1:e=.returned val:=h1
   have h3:RelV w' _ μ' _ (.tup []) val:=h3
   simp only [RelV,RelVs] at h3
   obtain ⟨vs,hvs,rfl⟩:=h3
   rcases hB0 with hB0 | ⟨g',vs,hg',hvs',hrow0,_⟩
   ·rw [hm0] at hB0;cases hB0
   rw [hm0] at hg'
   cases hg'
   simp only [RelVs,RelV,RelD] at hvs'
   obtain ⟨x1,_,rfl,⟨a,c,hx1,_⟩,rfl⟩:=hvs'
   cases hx1
   have hcell:=hrow0 0 (by simp)
   refine ⟨by rw [h1,hvs],a,q.1.1.length,c,by simpa using hcell,?_,hpost⟩
   simp [rdE,hr]
  | inr x =>
   right
   have h1:e=.panicked [{ v:=val,recovered:=false }]:=h1
   have h3:RelV w' _ μ' _ (.ifc 169 (.agg [.i .i64 x.1])) val:=h3
   simp only [RelV,RelVs] at h3
   obtain ⟨u,rfl,vs,rfl,v1,_,rfl,rfl,rfl⟩:=h3
   exact ⟨x.1,h1,by simp [rdE,hr],hpost⟩
theorem zRead95:ZOK Tryz.prog 95 zRead:=by
  refine ⟨Tryz.call95,λargs S v S' h F μ w vals hp hr=>?_⟩
  unfold zRead at h
  split at h
  . rename_i l b
    split at h
    . rename_i n z u hb
      obtain ⟨hu,h2⟩:=cond_some h
      clear h
      rw [oSi,Prod.mk.injEq,Prod.mk.injEq] at h2
      obtain ⟨hok,rfl,rfl⟩:=h2
      have hu:=isNilSl_ok hu
      subst hu
      simp only [bAt,dTe,List.isEmpty_iff] at hok
      obtain ⟨⟨rfl,rfl⟩,hok⟩:=hok
      simp only [RelVs] at hr
      obtain ⟨v1,_,rfl,hv,v2,_,rfl,hf,rfl⟩:=hr
      have hv:RelD w (Not F μ S.H) (.sl (.ln .u8)) l [v1]:=by simpa only [RelV] using hv
      simp only [RelV,RelVs] at hf
      obtain ⟨vs,rfl,p1,_,rfl,⟨hlive,g,hg,rfl⟩,rfl⟩:=hf
      have hB:=hp.blk b
      simp only [hb,RelB] at hB
      rcases hB with hB | ⟨g',vs,hg',hvs,hrow,hroom⟩
      . rw [hg] at hB;cases hB
      rw [hg] at hg'
      cases hg'
      simp only [RelVs,RelV] at hvs
      obtain ⟨_,_,rfl,rfl,_,_,rfl,rfl,_,_,rfl,rfl,rfl⟩:=hvs
      have hv1:∃ a c,v1=.slice a l.length c:=by
        simp only [RelD] at hv
        obtain ⟨a,c,h1,_⟩:=hv
        cases h1
        exact ⟨a,c,rfl⟩
      obtain ⟨a,c,rfl⟩:=hv1
      have hgl:=hp.lt b g hlive hg
      have fin:∀ (w' w'':World) (e:Ending),Post96 F μ S.H w g l w'->End95 w w' w''->e=.returned (.int .i64 (rdE l)) ->
          ∃ μ' kl val,e=.returned val/\(⟨S.E,updH S.H b (.vars [.s (rdU l).1,.i .i64 (rdU l).2.1,.sl BoxT0 (rdU l).2.2.1]),S.nx,S.kl⟩:St).E=killsE kl S.E/\(⟨S.E,updH S.H b (.vars [.s (rdU l).1,.i .i64 (rdU l).2.1,.sl BoxT0 (rdU l).2.2.1]),S.nx,S.kl⟩:St).kl=S.kl++kl /\
            Hp F μ' (updH S.H b (.vars [.s (rdU l).1,.i .i64 (rdU l).2.1,.sl BoxT0 (rdU l).2.2.1])) S.nx w''/\Pl F μ S.H S.nx w kl μ' (updH S.H b (.vars [.s (rdU l).1,.i .i64 (rdU l).2.1,.sl BoxT0 (rdU l).2.2.1])) S.nx w'' /\
            RelV w'' (Not F μ' (updH S.H b (.vars [.s (rdU l).1,.i .i64 (rdU l).2.1,.sl BoxT0 (rdU l).2.2.1]))) μ' (updH S.H b (.vars [.s (rdU l).1,.i .i64 (rdU l).2.1,.sl BoxT0 (rdU l).2.2.1])) (.i .i64 (rdE l)) val:=by
        intro w' w'' e ⟨e1,e2,e3,hsz,hkeep,x3,hrow',hroom',hwf,N,hNr,hNu,hN,hN2,hD⟩ ⟨k1,k2,k3,k4,k5⟩ he
        have hat:w''.heap[g]?=w'.heap[g]?:=k5 g (by omega) (by omega)
        have T:Turned F μ S.H S.nx w [] b (some g) (.vars [.s (rdU l).1,.i .i64 (rdU l).2.1,.sl BoxT0 (rdU l).2.2.1]) S.nx w'' :=
          { hp:=hp,os:=k2.trans e1,tape:=k3.trans e2,output:=k4.trans e3,size:=by omega,live:=by simp,mono:=Nat.le_refl _
            keep:=λk hk hne=>(k5 k (by omega) (by omega)).trans (hkeep k hk λh=>hne hlive (by rw [h];exact hg))
            at_:=λk hk=>by cases hk;exact .inl ⟨hlive,hg⟩
            lt:=by
              rcases Nat.lt_or_ge b S.nx with h | h
              . exact h
              . exact absurd (hp.dead b h) hlive
            kind:=λ_ _=>⟨by rw [hb];rfl,hg.symm⟩
            mark:=λh=>by cases h
            wfm:=λk hk=>by cases hk;exact hwf.of_heap hat
            self:=λ_ _=>⟨by rw [updM_same,hg],by rw [hb];simp [updH_same]⟩ }
        refine ⟨updM μ b (some g),[],_,he,rfl,by simp,T.hp' ?_,T.pl,by simp [RelV]⟩
        simp only [RelB]
        refine .inr ⟨g,[.string ⟨(rdU l).1.toArray⟩,.int .i64 (rdU l).2.1,x3],updM_same _ _ _,?_,rowAt_of_heap hat hrow',room_of_heap hat hroom'⟩
        simp only [RelVs,RelV]
        refine ⟨_,_,rfl,rfl,_,_,rfl,rfl,x3,_,rfl,hD.keep ⟨by omega,λk hk hn=>k5 k hk λh=>hn (hN2 k (.inr (.inr h)))⟩ ⟨λk _ hk=>hN k ?_,λk _ hk=>hN2 k ?_,λk _ hk=>by rw [hNr] at hk;exact hk,λk _ hk=>by rw [hNu];exact hk⟩,rfl⟩
        all_goals
          rcases hk with hk | ⟨b2,hb1,hb2⟩
          . exact .inl hk
          . by_cases hbn:b2=b
            . subst hbn
              rw [updM_same] at hb2
              exact .inr (.inl ⟨b2,hlive,by rw [hg];exact hb2⟩)
            . rw [updH_other hbn] at hb1
              rw [updM_other hbn] at hb2
              exact .inr (.inl ⟨b2,hb1,hb2⟩)
      refine (walk95 w a l.length c _ _ _ (call96 hp hv hlive hg hrow hroom hok)).mono λe w'' h=>?_
      rcases h with ⟨w',⟨hE,hP⟩,he,hend⟩ | ⟨n2,w',hn,⟨hE,hP⟩,he,hend⟩ | ⟨c,w',⟨hE,hP⟩,he,hend⟩
      . exact fin w' w'' e hP hend (by rw [he,hE];rfl)
      . exact fin w' w'' e hP hend (by rw [he,hE,if_neg hn])
      . exact fin w' w'' e hP hend (by rw [he,hE])
    . cases h
  . cases h
end Go.So
