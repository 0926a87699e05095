/- Texts that the last one leans on, 4. -/
import Derived.Test.YtijhleakepbahaaGreatDoorZC
import Derived.Scope
import Derived.ProofKit
import Derived.DataReads
import Derived.ChangeOld
import Derived.Lib.Bytealg
import Derived.Shelf.Unicode.DecodeAny
import Derived.Shelf.SlSortCmp.WholeK
import Derived.Lib.IndexMore
import Derived.Lib.IndexAny
import Derived.Lib.SlTrimSet
import Derived.Lib.SlFresh
import Derived.Shelf.Strings.FieldsFuncGrows
import Derived.Laws.OwnMore
import Derived.Lib.Join
import Derived.Lib.SlicesCompact
import Derived.Sort.Walk0
namespace Go.Ev
open Go
section
variable {T:Tb} {F F':Frm T} {μ:Nat->Option Nat} {H:Nat->Blk} {nx:Nat} {w:World} {α:Type} {r:α} {pin:Nat} {bl:List (Nat×BSh)}
theorem pinned {j b:Nat} (h:(Nat.ble pin j||Nat.beq b j)=true):j<pin->b=j:=λhj=>by
 rw [Bool.or_eq_true] at h
 rcases h with h | h
 ·have:=Nat.le_of_ble_eq_true h;omega
 ·exact Nat.eq_of_beq_eq_true h
theorem bindB_ext {B:Bd} {j:Nat} {b:Option Nat} {K:Bd->Option α} (h:bindB B j b K=some r):∃ B',K B'=some r/\Ext B B':=by
 obtain ⟨B',h1,h2,_⟩:=bindB_ok h
 exact ⟨B',h1,h2⟩
theorem nilV_ok:∀ (v:VSh) {B:Bd} {K:v.den->Bd->Option α},nilV v B K=some r->∃ q B',K q B'=some r/\Ext B B'
 | .i _,B,K,h=>⟨_,B,h,Ext.refl B⟩
 | .u,B,K,h=>⟨_,B,h,Ext.refl B⟩
 | .b,B,K,h=>⟨_,B,h,Ext.refl B⟩
 | .s,B,K,h=>⟨_,B,h,Ext.refl B⟩
 | .sl _,B,K,h=>⟨_,B,h,Ext.refl B⟩
 | .ptr _ _,B,K,h=>by obtain ⟨B',h1,h2⟩:=bindB_ext h;exact ⟨(),B',h1,h2⟩
 | .own _,B,K,h=>by obtain ⟨B',h1,h2⟩:=bindB_ext h;exact ⟨(),B',h1,h2⟩
 | .win _,B,K,h=>by obtain ⟨B',h1,h2⟩:=bindB_ext h;exact ⟨(0,0),B',h1,h2⟩
 | .mp _,B,K,h=>by obtain ⟨B',h1,h2⟩:=bindB_ext h;exact ⟨(),B',h1,h2⟩
 | .mptr _ _,B,K,h=>by obtain ⟨B',h1,h2⟩:=bindB_ext h;exact ⟨false,B',h1,h2⟩
 | .fn _ c,B,K,h=>nilV_ok c h
 | .agg c,B,K,h=>nilV_ok c h
 | .tup c,B,K,h=>nilV_ok c h
 | .ifc _ c,B,K,h=>nilV_ok c h
 | .may c _,B,K,h=>by
  obtain ⟨q,B',h1,h2⟩:=nilV_ok c h
  exact ⟨Sum.inl q,B',h1,h2⟩
 | .nil,B,K,h=>⟨_,B,h,Ext.refl B⟩
 | .cons v w,B,K,h=>by
  obtain ⟨p,B1,h1,e1⟩:=nilV_ok v h
  obtain ⟨q,B2,h2,e2⟩:=nilV_ok w h1
  exact ⟨(p,q),B2,h2,e1.trans e2⟩
 | .nilp,B,K,h=>⟨_,B,h,Ext.refl B⟩
 | .bad,B,K,h=>⟨_,B,h,Ext.refl B⟩
 | .kb _,B,K,h=>⟨_,B,h,Ext.refl B⟩
 | .ki _ _,B,K,h=>⟨_,B,h,Ext.refl B⟩
 | .ks _,B,K,h=>⟨_,B,h,Ext.refl B⟩
theorem packSl_cps {t:Ty} {x:AV} {B:Bd} {K:List t.den->Bd->Option α} (h:packSl H t x B K=some r):∃ q B',K q B'=some r/\Ext B B':=by
 have zext:∀ b,Ext B ⟨B.m,b::B.z⟩:=λb=>⟨λ_ _ h=>h,λ_ h=>List.mem_cons_of_mem _ h⟩
 unfold packSl at h
 split at h
 ·obtain ⟨l,hl⟩:=items_cps h;exact ⟨l,_,hl,zext _⟩
 ·obtain ⟨l,hl⟩:=items_cps h;exact ⟨l,_,hl,zext _⟩
 ·obtain ⟨l,hl⟩:=items_cps h;exact ⟨l,_,hl,Ext.refl B⟩
mutual
theorem packV_cps:∀ (v:VSh) {x:AV} {B:Bd} {K:v.den->Bd->Option α},packV H v x B K=some r->∃ q B',K q B'=some r/\Ext B B'
 | .i k,x,B,K,h=>by
  cases x <;> simp only [packV,reduceCtorEq] at h
  exact ⟨_,B,(cond_some h).2,Ext.refl B⟩
 | .u,x,B,K,h=>by
  cases x <;> simp only [packV,reduceCtorEq] at h
  exact ⟨_,B,h,Ext.refl B⟩
 | .b,x,B,K,h=>by
  cases x <;> simp only [packV,reduceCtorEq] at h
  ·exact ⟨_,B,h,Ext.refl B⟩
  ·exact ⟨_,B,h,Ext.refl B⟩
 | .s,x,B,K,h=>by
  cases x <;> simp only [packV,reduceCtorEq] at h
  exact ⟨_,B,h,Ext.refl B⟩
 | .sl t,x,B,K,h=>by
  simp only [packV] at h
  exact packSl_cps h
 | .ptr j o,x,B,K,h=>by
  cases x <;> simp only [packV,reduceCtorEq] at h
  obtain ⟨B',h1,h2⟩:=bindB_ext (cond_some h).2
  exact ⟨(),B',h1,h2⟩
 | .own j,x,B,K,h=>by
  simp only [packV] at h
  cases x <;> simp only [packOwn,reduceCtorEq] at h
  ·obtain ⟨B',h1,h2⟩:=bindB_ext (cond_some h).2;exact ⟨(),B',h1,h2⟩
  ·obtain ⟨B',h1,h2⟩:=bindB_ext h;exact ⟨(),B',h1,h2⟩
 | .win j,x,B,K,h=>by
  simp only [packV] at h
  cases x <;> simp only [packWin,reduceCtorEq] at h
  ·split at h
   ·obtain ⟨B',h1,h2⟩:=bindB_ext h;exact ⟨_,B',h1,h2⟩
   ·cases h
  ·obtain ⟨B',h1,h2⟩:=bindB_ext h;exact ⟨_,B',h1,h2⟩
 | .mp j,x,B,K,h=>by
  cases x <;> simp only [packV,reduceCtorEq] at h
  obtain ⟨B',h1,h2⟩:=bindB_ext h
  exact ⟨(),B',h1,h2⟩
 | .mptr j o,x,B,K,h=>by
  simp only [packV] at h
  cases x <;> simp only [packMp,reduceCtorEq] at h
  ·obtain ⟨B',h1,h2⟩:=bindB_ext (cond_some h).2;exact ⟨_,B',h1,h2⟩
  ·obtain ⟨B',h1,h2⟩:=bindB_ext (cond_some h).2;exact ⟨_,B',h1,h2⟩
  ·obtain ⟨B',h1,h2⟩:=bindB_ext (cond_some h).2;exact ⟨_,B',h1,h2⟩
 | .fn f cs,x,B,K,h=>by
  cases x <;> simp only [packV,reduceCtorEq] at h
  exact packL_cps cs (cond_some h).2
 | .agg cs,x,B,K,h=>by
  cases x <;> simp only [packV,reduceCtorEq] at h
  exact packL_cps cs h
 | .tup cs,x,B,K,h=>by
  cases x <;> simp only [packV,reduceCtorEq] at h
  exact packL_cps cs h
 | .ifc t v,x,B,K,h=>by
  cases x <;> simp only [packV,reduceCtorEq] at h
  exact packV_cps v (cond_some h).2
 | .may _ _,x,B,K,h=>by cases x <;> simp [packV] at h
 | .nil,x,B,K,h=>by cases x <;> simp [packV] at h
 | .cons _ _,x,B,K,h=>by cases x <;> simp [packV] at h
 | .nilp,x,B,K,h=>by
  cases x <;> simp only [packV,reduceCtorEq] at h
  exact ⟨_,B,(cond_some h).2,Ext.refl B⟩
 | .bad,x,B,K,h=>by
  refine ⟨(),B,?_,Ext.refl B⟩
  cases x <;> exact h
 | .kb y,x,B,K,h=>by
  cases x <;> simp only [packV,reduceCtorEq] at h
  exact ⟨_,B,(cond_some h).2,Ext.refl B⟩
 | .ki k n,x,B,K,h=>by
  cases x <;> simp only [packV,reduceCtorEq] at h
  exact ⟨_,B,(cond_some h).2,Ext.refl B⟩
 | .ks l,x,B,K,h=>by
  cases x <;> simp only [packV,reduceCtorEq] at h
  exact ⟨_,B,(cond_some h).2,Ext.refl B⟩
theorem packL_cps:∀ (v:VSh) {x:List AV} {B:Bd} {K:v.den->Bd->Option α},packL H v x B K=some r->∃ q B',K q B'=some r/\Ext B B'
 | .nil,[],B,K,h=>⟨(),B,by simpa only [packL] using h,Ext.refl B⟩
 | .cons v v2,x::xs,B,K,h=>by
  simp only [packL] at h
  obtain ⟨p,B1,h1,e1⟩:=packV_cps v h
  obtain ⟨q,B2,h2,e2⟩:=packL_cps v2 h1
  exact ⟨(p,q),B2,h2,e1.trans e2⟩
 | .nil,_::_,B,K,h=>by simp [packL] at h
 | .cons _ _,[],B,K,h=>by simp [packL] at h
 | .i _,x,B,K,h=>by cases x <;> simp [packL] at h
 | .u,x,B,K,h=>by cases x <;> simp [packL] at h
 | .b,x,B,K,h=>by cases x <;> simp [packL] at h
 | .s,x,B,K,h=>by cases x <;> simp [packL] at h
 | .sl _,x,B,K,h=>by cases x <;> simp [packL] at h
 | .ptr _ _,x,B,K,h=>by cases x <;> simp [packL] at h
 | .own _,x,B,K,h=>by cases x <;> simp [packL] at h
 | .win _,x,B,K,h=>by cases x <;> simp [packL] at h
 | .mp _,x,B,K,h=>by cases x <;> simp [packL] at h
 | .mptr _ _,x,B,K,h=>by cases x <;> simp [packL] at h
 | .fn _ _,x,B,K,h=>by cases x <;> simp [packL] at h
 | .agg _,x,B,K,h=>by cases x <;> simp [packL] at h
 | .tup _,x,B,K,h=>by cases x <;> simp [packL] at h
 | .nilp,x,B,K,h=>by cases x <;> simp [packL] at h
 | .bad,x,B,K,h=>by cases x <;> simp [packL] at h
 | .kb _,x,B,K,h=>by cases x <;> simp [packL] at h
 | .ki _ _,x,B,K,h=>by cases x <;> simp [packL] at h
 | .ks _,x,B,K,h=>by cases x <;> simp [packL] at h
end
theorem packBlk_ok (hp:Hp F μ H nx w) {j:Nat}:∀ (s:BSh) {B:Bd} {K:s.den->Bd->Option α},packBlk pin H j s B K=some r ->
  ∃ q B',K q B'=some r/\Ext B B'/\From pin H B' j (unB s q)/\∀ (F':Frm T) Bf H',Ext B' Bf->Fin F F' μ pin H bl Bf H'->bshOK bl s=true->RelB w (Not F' (muB μ Bf) H') (muB μ Bf) H' j (unB s q)
 | .vars cs,B,K,h=>by
  simp only [packBlk] at h
  cases hf:findB B.m j with
  | none=>simp [hf] at h
  | some o =>
   cases o with
   | none =>
    simp only [hf] at h
    obtain ⟨h1,h2⟩:=cond_some h
    obtain ⟨q,B',hK,he⟩:=nilV_ok cs h2
    have hf':=he.m j _ hf
    refine ⟨q,B',hK,he,?_,λF' Bf H' he' hfin hok=>?_⟩
    ·unfold From
     rw [hf']
     exact ⟨Nat.le_of_ble_eq_true h1,.inr (.inl ⟨_,rfl⟩)⟩
    ·simp only [unB,RelB]
     refine .inl ?_
     unfold muB
     rw [he'.m j _ hf']
   | some b =>
    simp only [hf] at h
    obtain ⟨h1,h2⟩:=cond_some h
    cases hb:H b <;> simp only [hb,reduceCtorEq] at h2
    rename_i l
    have hB:=hp.blk b
    simp only [hb,RelB] at hB
    rcases hB with hB | ⟨g,vs,hg,hvs,hrow,hroom⟩
    ·obtain ⟨q,B',hK,he⟩:=packL_cps cs h2
     have hf':=he.m j _ hf
     refine ⟨q,B',hK,he,?_,λF' Bf H' he' hfin hok=>?_⟩
     ·unfold From
      rw [hf']
      exact ⟨by simp [hb],by simp [hb],pinned h1,λ_=>by rw [hb];rfl⟩
     ·simp only [unB,RelB]
      exact .inl (by rw [muB_of he' hf'];exact hB)
    obtain ⟨q,B',hK,he,hh⟩:=packL_ok (pin:=pin) (bl:=bl) hp cs l B K vs hvs h2
    have hf':=he.m j _ hf
    refine ⟨q,B',hK,he,?_,λF' Bf H' he' hfin hok=>?_⟩
    ·unfold From
     rw [hf']
     exact ⟨by simp [hb],by simp [hb],pinned h1,λ_=>by rw [hb];rfl⟩
    ·simp only [unB,RelB]
     exact .inr ⟨g,vs,by rw [muB_of he' hf'];exact hg,hh F' Bf H' he' hfin hok,hrow,hroom⟩
 | .data t,B,K,h=>by
  simp only [packBlk] at h
  cases hf:findB B.m j with
  | none=>simp [hf] at h
  | some o =>
   cases o with
   | none =>
    simp only [hf] at h
    obtain ⟨h1,h2⟩:=cond_some h
    refine ⟨[],B,h2,Ext.refl B,?_,λF' Bf H' he' hfin hok=>?_⟩
    ·unfold From
     rw [hf]
     exact ⟨Nat.le_of_ble_eq_true h1,.inl ⟨t,rfl⟩⟩
    ·simp only [unB,RelB]
     refine .inl ⟨?_,trivial⟩
     unfold muB
     rw [he'.m j _ hf]
   | some b =>
    simp only [hf] at h
    obtain ⟨h1,h2⟩:=cond_some h
    cases hb:H b <;> simp only [hb,reduceCtorEq] at h2
    rename_i t' l
    split at h2
    ·rename_i ht
     subst ht
     have hB:=hp.blk b
     simp only [hb,RelB] at hB
     refine ⟨l,B,h2,Ext.refl B,?_,λF' Bf H' he' hfin hok=>?_⟩
     ·unfold From
      rw [hf]
      refine ⟨by simp [hb],λt2 l2 h2=>by rw [hb] at h2;cases h2;rfl,pinned h1,λht=>absurd rfl ht⟩
     ·simp only [unB,RelB]
      rw [muB_of he' hf]
      rcases hB with hB | ⟨g,g1,g2,g3⟩
      ·exact .inl hB
      ·refine .inr ⟨g,g1,g2,λi hi=>?_⟩
       obtain ⟨es,e1,e2,e3⟩:=g3 i hi
       exact ⟨es,e1,e2,e3.keep (keepRefl w) λ_ _=>hfin.not⟩
    ·cases h2
 | .iter,B,K,h=>by
  simp only [packBlk] at h
  cases hf:findB B.m j with
  | none=>simp [hf] at h
  | some o =>
   cases o with
   | none=>simp [hf] at h
   | some b =>
    simp only [hf] at h
    obtain ⟨h1,h2⟩:=cond_some h
    cases hb:H b <;> simp only [hb,reduceCtorEq] at h2
    rename_i s pos
    have hB:=hp.blk b
    simp only [hb,RelB] at hB
    refine ⟨(s,pos),B,h2,Ext.refl B,?_,λF' Bf H' he' hfin hok=>?_⟩
    ·unfold From
     rw [hf]
     exact ⟨by simp [hb],by simp [hb],pinned h1,λht=>absurd rfl ht⟩
    ·simp only [unB,RelB]
     rw [muB_of he' hf]
     exact hB
 | .mapd kt vt ag,B,K,h=>by
  simp only [packBlk] at h
  cases hf:findB B.m j with
  | none=>simp [hf] at h
  | some o =>
   cases o with
   | none =>
    simp only [hf] at h
    obtain ⟨h1,h2⟩:=cond_some h
    refine ⟨[],B,h2,Ext.refl B,?_,λF' Bf H' he' hfin hok=>?_⟩
    ·unfold From
     rw [hf]
     exact ⟨Nat.le_of_ble_eq_true h1,.inr (.inr ⟨_,_,_,_,rfl⟩)⟩
    ·simp only [unB,RelB]
     refine .inl ?_
     unfold muB
     rw [he'.m j _ hf]
   | some b =>
    simp only [hf] at h
    obtain ⟨h1,h2⟩:=cond_some h
    cases hb:H b <;> simp only [hb,reduceCtorEq] at h2
    rename_i kt' vt' ag' l
    split at h2
    ·rename_i e1
     split at h2
     ·rename_i e2
      subst e1
      subst e2
      obtain ⟨h3,h4⟩:=cond_some h2
      have:=eq_of_beq h3
      subst this
      have hB:=hp.blk b
      simp only [hb,RelB] at hB
      refine ⟨l,B,h4,Ext.refl B,?_,λF' Bf H' he' hfin hok=>?_⟩
      ·unfold From
       rw [hf]
       exact ⟨by simp [hb],by simp [hb],pinned h1,λ_=>by rw [hb];rfl⟩
      ·simp only [unB,RelB]
       rw [muB_of he' hf]
       rcases hB with hB | ⟨g,es,c,g1,g2,g3,g4⟩
       ·exact .inl hB
       exact .inr ⟨g,es,c,g1,g2,g3,g4.keep (keepRefl w) λ_ _=>hfin.not⟩
     ·cases h2
    ·cases h2
theorem beq_ne {j k:Nat} (h:j≠k):Nat.beq j k=false:=Bool.eq_false_iff.2 λe=>h (Nat.eq_of_beq_eq_true e)
theorem packBlks_ok (hp:Hp F μ H nx w):∀ (l:List (Nat×BSh)) {B:Bd} {K:blksDen l->Bd->Option α},packBlks pin H l B K=some r ->
  ∃ q B',K q B'=some r/\Ext B B'/\(∀ j,unBlks l q j≠.dead->From pin H B' j (unBlks l q j))/\(∀ j s,kindIn l j=some s->Kin s (unBlks l q j))/\(∀ j,unBlks l q j≠.dead->∃ p∈l,p.1=j) /\
   ∀ (F':Frm T) Bf H',Ext B' Bf->Fin F F' μ pin H bl Bf H'->(l.all λp=>bshOK bl p.2)=true->∀ j,RelB w (Not F' (muB μ Bf) H') (muB μ Bf) H' j (unBlks l q j)
 | [],B,K,h=>by
  simp only [packBlks] at h
  exact ⟨(),B,h,Ext.refl B,λj hj=>absurd rfl hj,λj s hs=>by simp [kindIn] at hs,λj hj=>absurd rfl hj,λ_ _ _ _ _ _ _=>by simp [unBlks,RelB]⟩
 | (j0,s0)::l,B,K,h=>by
  simp only [packBlks] at h
  obtain ⟨p,B1,hK1,he1,hf1,hr1⟩:=packBlk_ok (bl:=bl) hp s0 h
  obtain ⟨q,B2,hK2,he2,hf2,hk2,hm2,hr2⟩:=packBlks_ok hp l hK1
  refine ⟨(p,q),B2,hK2,he1.trans he2,λj hj=>?_,λj s hs=>?_,λj hj=>?_,λF' Bf H' he hfin hall j=>?_⟩
  ·simp only [unBlks] at hj ⊢
   by_cases hjj:j=j0
   ·subst hjj;rw [updH_same];exact hf1.ext he2
   ·rw [updH_other hjj] at hj ⊢; exact hf2 j hj
  ·simp only [kindIn] at hs
   simp only [unBlks]
   by_cases hjj:j=j0
   ·subst hjj
    rw [updH_same]
    simp only [Nat.beq_refl,cTt,oSi] at hs
    subst hs
    exact unB_kin _ _
   ·rw [updH_other hjj]
    simp only [beq_ne (Ne.symm hjj),cFf] at hs
    exact hk2 j s hs
  ·simp only [unBlks] at hj
   by_cases hjj:j=j0
   ·exact ⟨_,List.mem_cons_self,hjj.symm⟩
   ·rw [updH_other hjj] at hj
    obtain ⟨p,hp,e⟩:=hm2 j hj
    exact ⟨p,List.mem_cons_of_mem _ hp,e⟩
  ·simp only [List.all_cons,bAt] at hall
   simp only [unBlks]
   by_cases hjj:j=j0
   ·subst hjj;rw [updH_same];exact hr1 F' Bf H' (he2.trans he) hfin hall.1
   ·rw [updH_other hjj];exact hr2 F' Bf H' he hfin hall.2 j
theorem unV_noGd:∀ (v:VSh) (p:v.den),∀ j b x,unV v p≠.gd j b x:=by
 intro v
 induction v with
 | may v w h1 h2 =>
  intro p j b x
  show (match (p:v.den⊕w.den) with
   | .inl p=>unV v p
   | .inr p=>.pan (unV w p))≠_
  cases (show v.den⊕w.den from p) with
  | inl p=>exact h1 p j b x
  | inr p=>simp
 | _=>intro p j b x;simp [unV]
theorem packSlots_ok {S:St} {tmps:Array Value} (hp:Hp F μ S.H nx w) (hE:∀ t,RelV w (Not F μ S.H) μ S.H (S.E t) (tmps.getD t undef)):∀ (l:List (Nat×VSh)) {B:Bd} {K:slotsDen l->Bd->Option α},packSlots S l B K=some r ->
  ∃ q B',K q B'=some r/\Ext B B'/\∀ (F':Frm T) Bf H',Ext B' Bf->Fin F F' μ pin S.H bl Bf H'->(l.all λp=>refsOK bl p.2)=true->∀ t,RelV w (Not F' (muB μ Bf) H') (muB μ Bf) H' (unSlots l q t) (tmps.getD t undef)/\∀ j b x,unSlots l q t≠.gd j b x
 | [],B,K,h=>by
  simp only [packSlots] at h
  exact ⟨(),B,h,Ext.refl B,λ_ _ _ _ _ _ _=>by simp [unSlots,RelV]⟩
 | (t0,v)::l,B,K,h=>by
  simp only [packSlots] at h
  obtain ⟨p,B1,hK1,he1,hr1⟩:=packV_ok (pin:=pin) (bl:=bl) hp v _ B _ _ (hE t0) h
  obtain ⟨q,B2,hK2,he2,hr2⟩:=packSlots_ok hp hE l hK1
  refine ⟨(p,q),B2,hK2,he1.trans he2,λF' Bf H' he hfin hall t=>?_⟩
  simp only [List.all_cons,bAt] at hall
  simp only [unSlots]
  by_cases htt:t=t0
  ·subst htt;rw [upd_same];exact ⟨hr1 F' Bf H' (he2.trans he) hfin hall.1,unV_noGd v p⟩
  ·rw [upd_other htt];exact hr2 F' Bf H' he hfin hall.2 t
theorem Fin.hp {B:Bd} {H':Nat->Blk} {nx':Nat} (hp:Hp F μ H nx w) (hfin:Fin F F' μ pin H bl B H') (hb:∀ j,RelB w (Not F' (muB μ B) H') (muB μ B) H' j (H' j)) (hd:∀ j,nx'<=j->H' j=.dead)
  (far:∀ j b g,H' j≠.dead->findB B.m j=some (some b)->H b≠.dead->μ b=some g->¬ F' g) (flt:∀ g,F' g->g<w.heap.size):Hp F' (muB μ B) H' nx' w where
 blk:=hb
 lt:=λj g hl hg=>by
  obtain ⟨b,h1,h2⟩:=hfin.trk ⟨j,hl,hg⟩
  exact hp.lt b g h1 h2
 inj:=λj j' g hl hl' hg hg'=>by
  have key:∀ k,H' k≠.dead->muB μ B k=some g->∃ b,findB B.m k=some (some b)/\H b≠.dead/\μ b=some g:=λk hk hm=>by
   have h3:=hfin.src k hk
   unfold From at h3
   unfold muB at hm
   cases hf:findB B.m k with
   | none=>simp [hf] at hm
   | some o =>
    cases o with
    | none=>simp [hf] at hm
    | some b=>simp only [hf] at hm h3;exact ⟨b,rfl,h3.1,hm⟩
  obtain ⟨b,b1,b2,b3⟩:=key j hl hg
  obtain ⟨c,c1,c2,c3⟩:=key j' hl' hg'
  have:=hp.inj b c g b2 c2 b3 c3
  subst this
  exact Bd.ok_inj hfin.ok b1 c1
 dead:=hd
 apart:=λj g hl hg=>by
  have h3:=hfin.src j hl
  unfold From at h3
  unfold muB at hg
  cases hf:findB B.m j with
  | none=>simp [hf] at hg
  | some o =>
   cases o with
   | none=>simp [hf] at hg
   | some b=>simp only [hf] at hg h3;exact far j b g hl hf h3.1 hg
 flt:=flt
 tab:=hp.tab
 tapart:=λj g hl hg=>by
  obtain ⟨b,h1,h2⟩:=hfin.trk ⟨j,hl,hg⟩
  exact hp.tapart b g h1 h2
theorem Fin.pinned {B:Bd} {H':Nat->Blk} (hfin:Fin F F' μ pin H bl B H'):∀ j,j<pin->Pin (H' j) (H j) (muB μ B j) (μ j):=by
 intro j hj ht
 have h3:=hfin.src j (λh=>ht (by rw [h];rfl))
 unfold From at h3
 unfold muB
 cases hf:findB B.m j with
 | none=>simp [hf] at h3
 | some o =>
  cases o with
  | none=>simp only [hf] at h3;omega
  | some b =>
   simp only [hf] at h3 ⊢
   obtain ⟨_,_,h4,h5⟩:=h3
   have:=h4 hj
   subst this
   exact ⟨h5 ht,rfl⟩
structure Shaped {T:Tb} (F:Frm T) (pin:Nat) (μ:Nat->Option Nat) (S:St) (w:World) (μ':Nat->Option Nat) (S':St):Prop where
 hp:Hp F μ' S'.H S'.nx w
 trk:∀ g,Trk μ' S'.H g->Trk μ S.H g
 pinned:∀ j,j<pin->Pin (S'.H j) (S.H j) (μ' j) (μ j)
 le:pin<=S'.nx
theorem pack_ok {S:St} {a:Act} {sh:Shape} {K:sh.den->Option α} (hr:Rg F μ [] S a w) (h:pack pin sh S K=some r) :
  ∃ p μ',K p=some r/\Shaped F pin μ S w μ' (unpack sh p)/\Rg F μ' [] (unpack sh p) a w:=by
 unfold pack at h
 obtain ⟨hok,h1⟩:=cond_some h
 simp only [shapeOK,bAt] at hok
 obtain ⟨⟨hpin,hslots⟩,hblks⟩:=hok
 have hE:∀ t,RelV w (Not F μ S.H) μ S.H (S.E t) (a.tmps.getD t undef):=λt=>by
  have:=hr.e t
  cases hE:S.E t <;> simp only [hE] at this ⊢ <;> first | exact this | simp [RelV]
 obtain ⟨p,B1,hK1,he1,hr1⟩:=packSlots_ok (pin:=pin) (bl:=sh.blks) hr.hp hE sh.slots h1
 obtain ⟨q,B2,hK2,he2,hf2,hk2,hm2,hr2⟩:=packBlks_ok (bl:=sh.blks) hr.hp sh.blks hK1
 obtain ⟨hB,hK3⟩:=cond_some hK2
 have hfin:Fin F F μ pin S.H sh.blks B2 (unBlks sh.blks q):=⟨hB,hf2,hk2,λ_ h=>.inl h,λb g _ hl hm=>hr.hp.apart b g hl hm⟩
 have hall:(sh.blks.all λp=>bshOK sh.blks p.2)=true:=by
  simp only [blksOK,List.all_eq_true,bAt] at hblks ⊢
  exact λp hp=>(hblks p hp).2
 have hhp:Hp F (muB μ B2) (unBlks sh.blks q) sh.nx w:=hfin.hp hr.hp (λj=>hr2 F B2 _ (Ext.refl B2) hfin hall j) (λj hj=>by
  cases hd:unBlks sh.blks q j with
  | dead=>rfl
  | _ =>
   all_goals
    obtain ⟨p,hp,e⟩:=hm2 j (by simp [hd])
    simp only [blksOK,List.all_eq_true,bAt] at hblks
    have:=Nat.le_of_ble_eq_true (hblks p hp).1
    omega) (λ_ b g _ _ hl hm=>hr.hp.apart b g hl hm) hr.hp.flt
 have hrel:=λt=>hr1 F B2 (unBlks sh.blks q) he2 hfin hslots t
 refine ⟨(p,q),muB μ B2,hK3,⟨hhp,λg=>hfin.trk,hfin.pinned,Nat.le_of_ble_eq_true hpin⟩,hhp,λt=>?_,λt j b x hE=>absurd hE ((hrel t).2 j b x)⟩
 obtain ⟨h1,h2⟩:=hrel t
 show (match unSlots sh.slots p t with
  | .gd j b x=>_
  | x=>RelV w _ _ _ x (a.tmps.getD t undef))
 cases hu:unSlots sh.slots p t <;> rw [hu] at h1 h2 <;> first | exact h1 | exact absurd rfl (h2 _ _ _)
end
end Go.Ev
namespace Go.Ev
open Go
def exOf:Ex->Exit
 | .normal=>.normal
 | .exit id=>.exit id
 | .ret=>.ret
 | .pan=>.ret
def XR (ex:Ex) (e:Exit) (a' av:Act):Prop :=
 match ex with
 | .pan=>e=.panic [{ v:=av.tmps.getD 0 undef,recovered:=false }]/\a'.defers=av.defers
 | ex=>e=exOf ex/\a'=av
def isLeaf:HT->Bool
 | .leaf=>true
 | _=>false
structure CP (lf:Bool) {T:Tb} (F:Frm T) (pin:Nat) (μ:Nat->Option Nat) (S:St) (w:World) (a:Act) (μ':Nat->Option Nat) (S':St) (w':World) (a':Act):Prop where
 chg:Chg (Trk μ S.H) w w'
 new:∀ g,Trk μ' S'.H g->Trk μ S.H g\/w.heap.size<=g
 pinned:∀ j,j<pin->Pin (S'.H j) (S.H j) (μ' j) (μ j)
 le:pin<=S'.nx
 rg:Rg F μ' [] S' a' w'
 size:a'.tmps.size=a.tmps.size
 defers:a'.defers=a.defers
 pl:lf=true->∃ kl,S'.kl=S.kl++kl/\Pl F μ S.H S.nx w kl μ' S'.H S'.nx w'
section
variable {P:Program} {F:Frm (tabsOf P)} {μ μ' μ'':Nat->Option Nat} {S S' S'':St} {w w' w'':World} {a a' a'':Act} {α:Type} {r:α} {M:FuncId->Bool} {pin:Nat} {lf lf':Bool}
theorem CP.refl (hr:Rg F μ [] S a w) (hp:pin<=S.nx):CP lf F pin μ S w a μ S w a :=
 ⟨Chg.refl w,λ_ h=>.inl h,λ_ _=>Pin.refl _ _,hp,hr,rfl,rfl,λ_=>⟨[],by simp,Pl.refl hr.hp⟩⟩
theorem CP.trans (h:CP lf F pin μ S w a μ' S' w' a') (h':CP lf F pin μ' S' w' a' μ'' S'' w'' a''):CP lf F pin μ S w a μ'' S'' w'' a'' where
 chg:=h.chg.trans h'.chg λg hg ht=>(h.new g ht).resolve_right (by omega)
 new:=λg hg=>by
  rcases h'.new g hg with h1 | h1
  ·exact h.new g h1
  ·exact .inr (Nat.le_trans h.chg.size h1)
 pinned:=λj hj=>(h'.pinned j hj).trans (h.pinned j hj)
 le:=h'.le
 rg:=h'.rg
 size:=h'.size.trans h.size
 defers:=h'.defers.trans h.defers
 pl:=λhl=>by
  obtain ⟨kl,k1,k2⟩:=h.pl hl
  obtain ⟨kl',k3,k4⟩:=h'.pl hl
  exact ⟨kl++kl',by rw [k3,k1,List.append_assoc],k2.trans k4⟩
theorem CP.weak (h:CP lf F pin μ S w a μ' S' w' a') (hl:lf'=true->lf=true):CP lf' F pin μ S w a μ' S' w' a' :=
 ⟨h.chg,h.new,h.pinned,h.le,h.rg,h.size,h.defers,λhh=>h.pl (hl hh)⟩
theorem CP.shaped (hs:Shaped F pin μ S w μ' S') (hr:Rg F μ' [] S' a w):CP false F pin μ S w a μ' S' w a :=
 ⟨Chg.refl w,λg h=>.inl (hs.trk g h),hs.pinned,hs.le,hr,rfl,rfl,λh=>by cases h⟩
theorem CP.of_post {done':List Nat} (hpin:pin<=S.nx) (h:Post F μ S w a done' S' w' a'):∃ μ',CP true F pin μ S w a μ' ⟨λt=>noGd (S'.E t),S'.H,S'.nx,S'.kl⟩ w' a':=by
 obtain ⟨⟨μ',kl,h1,h2,h3⟩,h4,h5⟩:=h
 refine ⟨μ',h2.chg,h2.new,λj hj=>h2.pin j (Nat.lt_of_lt_of_le hj hpin),Nat.le_trans hpin h2.mono,⟨h3.hp,λt=>?_,λt j b x hE=>absurd hE (noGd_ne _ j b x)⟩,h4,h5,λ_=>⟨kl,h1,h2⟩⟩
 have he:=h3.e t
 show (match noGd (S'.E t) with
  | .gd j b x=>_
  | x=>RelV w' _ _ _ x (a'.tmps.getD t undef))
 cases hE:S'.E t <;> simp only [hE] at he <;> first | exact he | simp [noGd,RelV]
theorem CP.of_ppost {x:AV} {val:Value} (hpin:pin<=S.nx) (h1:1<=a.tmps.size) (h:PPost F μ S.H S.nx S.kl w a x S' w' a' val) :
  ∃ μ',CP true F pin μ S w a μ' ⟨upd (λ_=>.bad) 0 (noGd x),S'.H,S'.nx,S'.kl⟩ w' (a.put (some 0) val)/\(a.put (some 0) val).tmps.getD 0 undef=val:=by
 obtain ⟨⟨μ',kl,h2,h3,h4,h5⟩,_⟩:=h
 have hg:(a.put (some 0) val).tmps.getD 0 undef=val:=by
  simp only [Act.put]
  rw [getD_set (by omega),if_pos rfl]
 have hng:∀ t j b y,upd (λ_=>AV.bad) 0 (noGd x) t≠.gd j b y:=λt j b y=>by
  by_cases ht:t=0
  ·subst ht;rw [upd_same];exact noGd_ne _ _ _ _
  ·rw [upd_other ht];simp
 refine ⟨μ',⟨h3.chg,h3.new,λj hj=>h3.pin j (Nat.lt_of_lt_of_le hj hpin),Nat.le_trans hpin h3.mono,⟨h4,λt=>?_,λt j b y hE=>absurd hE (hng t j b y)⟩,Act.put_size _ _ _,Act.put_defers' _ _ _,λ_=>⟨kl,h2,h3⟩⟩,hg⟩
 have hr:RelV w' (Not F μ' S'.H) μ' S'.H (upd (λ_=>AV.bad) 0 (noGd x) t) ((a.put (some 0) val).tmps.getD t undef):=by
  by_cases ht:t=0
  ·subst ht;rw [upd_same,hg];exact noGd_rel h5
  ·rw [upd_other ht];simp [RelV]
 have hn:=hng t
 show (match upd (λ_=>AV.bad) 0 (noGd x) t with
  | .gd j b y=>_
  | y=>RelV w' _ _ _ y _)
 cases hE:upd (λ_=>AV.bad) 0 (noGd x) t <;> rw [hE] at hr hn <;> first | exact hr | exact absurd rfl (hn _ _ _)
def EvOK (P:Program) (C:Calling) (M:FuncId->Bool) (pin n:Nat) (c:Code) (h:HT):Prop :=
 ∀ (S:St) (α:Type) (K:Ex->St->Option α) (r:α),ev P C M pin n c h S K=some r->∀ (F:Frm (tabsOf P)) μ w a,n=a.tmps.size->pin<=S.nx->Rg F μ [] S a w ->
  c.wp P (λe a' w'=>∃ ex S' μ' av,XR ex e a' av/\K ex S'=some r/\CP (isLeaf h) F pin μ S w a μ' S' w' av) a w
def JOK (P:Program) (C:Calling) (M:FuncId->Bool) (pin n:Nat) (c:Code) (h:HT):Prop :=
 ∀ (S:St) (α:Type) (K:Ex->St->Option α) (r:α),joined pin h (λh=>ev P C M pin n c h S) K=some r->∀ (F:Frm (tabsOf P)) μ w a,n=a.tmps.size->pin<=S.nx->Rg F μ [] S a w ->
  c.wp P (λe a' w'=>∃ ex S' μ' av,XR ex e a' av/\K ex S'=some r/\CP (isLeaf h) F pin μ S w a μ' S' w' av) a w
theorem eqEx_eq:∀ {x y:Ex},eqEx x y=true->x=y
 | .normal,.normal,_=>rfl
 | .ret,.ret,_=>rfl
 | .pan,.pan,_=>rfl
 | .exit _,.exit _,h=>by rw [Nat.eq_of_beq_eq_true h]
 | .normal,.ret,h=>by cases h
 | .normal,.exit _,h=>by cases h
 | .normal,.pan,h=>by cases h
 | .ret,.normal,h=>by cases h
 | .ret,.exit _,h=>by cases h
 | .ret,.pan,h=>by cases h
 | .exit _,.normal,h=>by cases h
 | .exit _,.ret,h=>by cases h
 | .exit _,.pan,h=>by cases h
 | .pan,.normal,h=>by cases h
 | .pan,.ret,h=>by cases h
 | .pan,.exit _,h=>by cases h
theorem packOuts_ok {ex:Ex} (hr:Rg F μ [] S a w):∀ (o:Outs) {K:outsDen o->Option α},packOuts pin S ex o K=some r ->
  ∃ (q:outsDen o) (S':St) (μ':Nat->Option Nat),K q=some r/\(∀ (β:Type) (K':Ex->St->Option β),unOuts o q K'=K' ex S')/\Shaped F pin μ S w μ' S'/\Rg F μ' [] S' a w
 | [],K,h=>by simp [packOuts] at h
 | [(e,s)],K,h=>by
  simp only [packOuts] at h
  obtain ⟨h1,h2⟩:=cond_some h
  obtain ⟨p,μ',h3,h4,h5⟩:=pack_ok hr h2
  exact ⟨p,_,μ',h3,λβ K'=>by rw [<- eqEx_eq h1];rfl,h4,h5⟩
 | (e,s)::y::o,K,h=>by
  simp only [packOuts] at h
  cases he:eqEx e ex with
  | true =>
   simp only [he,cTt] at h
   obtain ⟨p,μ',h3,h4,h5⟩:=pack_ok hr h
   exact ⟨.inl p,_,μ',h3,λβ K'=>by rw [<- eqEx_eq he];rfl,h4,h5⟩
  | false =>
   simp only [he,cFf] at h
   obtain ⟨q,S',μ',h3,h4,h5,h6⟩:=packOuts_ok hr (y::o) h
   exact ⟨.inr q,S',μ',h3,λβ K'=>h4 β K',h5,h6⟩
def strip:HT->HT
 | .join _ h=>h
 | h=>h
theorem joined_ok {C:Calling} {n:Nat} {c:Code} {h:HT} (hok:EvOK P C M pin n c (strip h)):JOK P C M pin n c h:=by
 intro S α K r he F μ w a hn hp hr
 cases h with
 | join o h =>
  simp only [joined] at he
  cases hq:(ev P C M pin n c h S λex S=>packOuts pin S ex o some) with
  | none=>simp [hq] at he
  | some q =>
   simp only [hq,oBs] at he
   refine wp_mono (hok S _ _ _ hq F μ w a hn hp hr) λe a' w' ⟨ex,S',μ',av,h1,h2,h3⟩=>?_
   obtain ⟨q',S2,μ2,h4,h5,h6,h7⟩:=packOuts_ok h3.rg o h2
   cases h4
   exact ⟨ex,S2,μ2,av,h1,by rw [<- h5 α K];exact he,(h3.weak (λh=>by cases h)).trans (CP.shaped h6 h7)⟩
 | _=>exact hok S α K r he F μ w a hn hp hr
structure LoopRec where
 c:Code
 h:HT
 sh:Shape
 o:Outs
 run:sh.den->Option (outsDen o)
def LoopRec.OK (P:Program) (C:Calling) (M:FuncId->Bool) (pin n:Nat) (l:LoopRec):Prop :=
 ∀ p r,l.run p=some r->∃ m,iter (round P C M pin n l.c l.h l.sh l.o) m p=some r
def loopsIn:Code->HT->List LoopRec
 | .seq a b,h=>loopsIn a (strip h.fst)++loopsIn b (strip h.snd)
 | .cond _ a b,h=>loopsIn a (strip h.fst)++loopsIn b (strip h.snd)
 | .block _ c,h=>loopsIn c (strip h.fst)
 | .scope c,h=>loopsIn c (strip h.fst)
 | .loop c,.loop sh o run h=>⟨c,h,sh,o,run⟩::loopsIn c (strip h)
 | _,_=>[]
theorem wp_loop_n {c:Code} {Q:Exit->Act->World->Prop} (I:Nat->Act->World->Prop) (h0:∀ a w,¬ I 0 a w)
  (round:∀ m a w,I (m+1) a w->c.wp P (Exit.then (λa' w'=>I m a' w') Q) a w) (m:Nat) (h:I m a w):(Code.loop c).wp P Q a w:=by
 intro b k cs
 have key:∀ m a w,I m a w->∃ e a' w',Q e a' w'/\Arrives P (lone (b.at a (.code c::.inLoop c::k)) cs w) b k cs e a' w':=by
  intro m
  induction m with
  | zero=>exact λa w h=>absurd h (h0 a w)
  | succ m ih =>
   intro a w hI
   obtain ⟨e,a₁,w₁,hq,harr⟩:=round m a w hI b (.inLoop c::k) cs
   cases e with
   | normal =>
    obtain ⟨e₂,a₂,w₂,hq₂,harr₂⟩:=ih a₁ w₁ hq
    exact ⟨e₂,a₂,w₂,hq₂,.of_steps (Steps.trans harr (.one step_inLoop)) harr₂⟩
   | exit id=>exact ⟨_,a₁,w₁,hq,.pass (x:=.inLoop c) rfl (λ_ _=>.inl (by simp)) harr⟩
   | goto l=>exact ⟨_,a₁,w₁,hq,.pass (x:=.inLoop c) rfl (λ_ _=>.inl (by simp)) harr⟩
   | ret=>exact ⟨_,a₁,w₁,hq,.pass (x:=.inLoop c) rfl (λ_ _=>.inl (by simp)) harr⟩
   | panic ch=>exact ⟨_,a₁,w₁,hq,.pass (x:=.inLoop c) rfl (λ_ _=>.inl (by simp)) harr⟩
   | outgrown=>exact ⟨_,a₁,w₁,hq,.pass (x:=.inLoop c) rfl (λ_ _=>.inl (by simp)) harr⟩
 obtain ⟨e,a',w',hq,harr⟩:=key m a w h
 exact ⟨e,a',w',hq,.of_steps (.one step_loop) harr⟩
theorem leaf_fst {h:HT} (hl:isLeaf h=true):isLeaf h.fst=true:=by cases h <;> first | rfl | cases hl
theorem leaf_snd {h:HT} (hl:isLeaf h=true):isLeaf h.snd=true:=by cases h <;> first | rfl | cases hl
theorem ev_ok (hm:P.follows .mixedOrders=true) {C:Calling} (hC:CallOK P C M) {n:Nat}:∀ (c:Code) (h:HT),(∀ x∈loopsIn c h,x.OK P C M pin n)->EvOK P C M pin n c h
 | .skip,h,_=>by
  intro S α K r he F μ w a hn hp hr
  simp only [ev] at he
  exact wp_skip ⟨.normal,S,μ,_,⟨rfl,rfl⟩,he,CP.refl hr hp⟩
 | .exit id,h,_=>by
  intro S α K r he F μ w a hn hp hr
  simp only [ev] at he
  exact wp_exit ⟨.exit id,S,μ,_,⟨rfl,rfl⟩,he,CP.refl hr hp⟩
 | .ret,h,_=>by
  intro S α K r he F μ w a hn hp hr
  simp only [ev] at he
  exact wp_ret ⟨.ret,S,μ,_,⟨rfl,rfl⟩,he,CP.refl hr hp⟩
 | .region id ops draw,h,_=>by
  intro S α K r he F μ w a hn hp hr
  simp only [ev] at he
  cases hts:turnsOf P M ops draw with
  | none=>simp [hts] at he
  | some ts =>
   simp only [hts] at he
   rw [hn] at he
   refine evRegion_ok hm hC hr hts he (λc a1 a2 w1 hd h=>?_) (λx S' w' a' val hK hpp=>?_) λS' w' a' done' hK hpost=>?_
   ·obtain ⟨ex,S',μ',av,h1,h2⟩:=h
    cases ex with
    | pan=>exact ⟨.pan,S',μ',av,⟨h1.1,hd.trans h1.2⟩,h2⟩
    | normal=>exact absurd h1.1 (by simp [exOf])
    | exit id=>exact absurd h1.1 (by simp [exOf])
    | ret=>exact absurd h1.1 (by simp [exOf])
   ·obtain ⟨h1,h2⟩:=cond_some hK
    obtain ⟨μ',hcp,hg⟩:=CP.of_ppost hp (Nat.le_of_ble_eq_true h1) hpp
    exact ⟨.pan,_,μ',_,⟨by rw [hg],hpp.defers.trans (Act.put_defers' _ _ _).symm⟩,h2,hcp.weak λ_=>rfl⟩
   ·obtain ⟨μ',hcp⟩:=CP.of_post hp hpost
    exact ⟨.normal,_,μ',_,⟨rfl,rfl⟩,hK,hcp.weak λ_=>rfl⟩
 | .seq x y,h,hl=>by
  intro S α K r he F μ w a hn hp hr
  simp only [ev] at he
  have hx:=joined_ok (ev_ok hm hC x (strip h.fst) λz hz=>hl z (by simp [loopsIn,hz]))
  have hy:=joined_ok (ev_ok hm hC y (strip h.snd) λz hz=>hl z (by simp [loopsIn,hz]))
  refine wp_seq (wp_mono (hx S α _ r he F μ w a hn hp hr) λe a' w' ⟨ex,S',μ',av,h1,h2,h3⟩=>?_)
  have h3':CP (isLeaf h) F pin μ S w a μ' S' w' av:=h3.weak leaf_fst
  cases ex with
  | normal =>
   obtain ⟨rfl,rfl⟩:=h1
   refine wp_mono (hy S' α K r h2 F μ' w' a' (hn.trans h3.size.symm) h3.le h3.rg) λe2 a2 w2 ⟨ex2,S2,μ2,av2,g1,g2,g3⟩=>?_
   exact ⟨ex2,S2,μ2,av2,g1,g2,h3'.trans (g3.weak leaf_snd)⟩
  | exit id=>obtain ⟨rfl,rfl⟩:=h1;exact ⟨.exit id,S',μ',_,⟨rfl,rfl⟩,h2,h3'⟩
  | ret=>obtain ⟨rfl,rfl⟩:=h1;exact ⟨.ret,S',μ',_,⟨rfl,rfl⟩,h2,h3'⟩
  | pan=>obtain ⟨rfl,hd⟩:=h1;exact ⟨.pan,S',μ',_,⟨rfl,hd⟩,h2,h3'⟩
 | .cond c x y,h,hl=>by
  intro S α K r he F μ w a hn hp hr
  simp only [ev] at he
  have hx:=joined_ok (ev_ok hm hC x (strip h.fst) λz hz=>hl z (by simp [loopsIn,hz]))
  have hy:=joined_ok (ev_ok hm hC y (strip h.snd) λz hz=>hl z (by simp [loopsIn,hz]))
  have hX:joined pin h.fst (λh=>ev P C M pin n x h S) K=some r->x.wp P (λe a' w'=>∃ ex S' μ' av,XR ex e a' av/\K ex S'=some r/\CP (isLeaf h) F pin μ S w a μ' S' w' av) a w:=λhe =>
   wp_mono (hx S α K r he F μ w a hn hp hr) λe a' w' ⟨ex,S',μ',av,h1,h2,h3⟩=>⟨ex,S',μ',av,h1,h2,h3.weak leaf_fst⟩
  have hY:joined pin h.snd (λh=>ev P C M pin n y h S) K=some r->y.wp P (λe a' w'=>∃ ex S' μ' av,XR ex e a' av/\K ex S'=some r/\CP (isLeaf h) F pin μ S w a μ' S' w' av) a w:=λhe =>
   wp_mono (hy S α K r he F μ w a hn hp hr) λe a' w' ⟨ex,S',μ',av,h1,h2,h3⟩=>⟨ex,S',μ',av,h1,h2,h3.weak leaf_snd⟩
  have hc:=(opd_ok hr.e c).rel
  cases hcv:opd S.E c <;> simp only [hcv,reduceCtorEq] at he hc
  case b q =>
   simp only [RelV] at hc
   cases q with
   | true=>exact wp_cond_true hc (hX he)
   | false=>exact wp_cond_false hc (hY he)
  case kb q =>
   simp only [RelV] at hc
   cases q with
   | true=>exact wp_cond_true hc (hX he)
   | false=>exact wp_cond_false hc (hY he)
 | .block id c,h,hl=>by
  intro S α K r he F μ w a hn hp hr
  simp only [ev] at he
  have hx:=joined_ok (ev_ok hm hC c (strip h.fst) λz hz=>hl z (by simp [loopsIn,hz]))
  refine wp_block (wp_mono (hx S α _ r he F μ w a hn hp hr) λe a' w' ⟨ex,S',μ',av,h1,h2,h3⟩=>?_)
  have h3':CP (isLeaf h) F pin μ S w a μ' S' w' av:=h3.weak leaf_fst
  cases ex with
  | normal=>obtain ⟨rfl,rfl⟩:=h1;exact ⟨.normal,S',μ',_,⟨rfl,rfl⟩,h2,h3'⟩
  | ret=>obtain ⟨rfl,rfl⟩:=h1;exact ⟨.ret,S',μ',_,⟨rfl,rfl⟩,h2,h3'⟩
  | pan=>obtain ⟨rfl,hd⟩:=h1;exact ⟨.pan,S',μ',_,⟨rfl,hd⟩,h2,h3'⟩
  | exit id' =>
   obtain ⟨rfl,rfl⟩:=h1
   simp only [exOf,Exit.inBlock]
   by_cases hid:id'=id
   ·subst hid
    simp only [Nat.beq_refl,cTt] at h2
    rw [if_pos rfl]
    exact ⟨.normal,S',μ',_,⟨rfl,rfl⟩,h2,h3'⟩
   ·simp only [beq_ne hid,cFf] at h2
    rw [if_neg hid]
    exact ⟨.exit id',S',μ',_,⟨rfl,rfl⟩,h2,h3'⟩
 | .loop c,h,hl=>by
  intro S α K r he F μ w a hn hp hr
  cases h with
  | loop sh o run h =>
   simp only [ev] at he
   have hx:=joined_ok (ev_ok hm hC c (strip h) λz hz=>hl z (by simp [loopsIn,hz]))
   have hlo:=hl ⟨c,h,sh,o,run⟩ (by simp [loopsIn])
   obtain ⟨p,μ1,h1,h2,h3⟩:=pack_ok hr he
   cases hrun:run p with
   | none=>simp [hrun] at h1
   | some q =>
    simp only [hrun,oBs] at h1
    obtain ⟨m,hm1⟩:=hlo p q hrun
    refine wp_loop_n (λm a' w'=>∃ p μ',iter (round P C M pin n c h sh o) m p=some q/\CP false F pin μ S w a μ' (unpack sh p) w' a') (λa w ⟨p,_,hi,_⟩=>by simp [iter] at hi) (λm a' w' ⟨p,μ',hi,hcp⟩=>?_) m ⟨p,μ1,hm1,CP.shaped h2 h3⟩
    simp only [iter] at hi
    cases hro:round P C M pin n c h sh o p with
    | none=>simp [hro] at hi
    | some z =>
     refine wp_mono (hx (unpack sh p) _ _ z hro F μ' w' a' (hn.trans hcp.size.symm) hcp.le hcp.rg) λe a2 w2 ⟨ex,S2,μ2,av,g1,g2,g3⟩=>?_
     have g4:CP false F pin μ S w a μ2 S2 w2 av:=hcp.trans (g3.weak λh=>by cases h)
     have out:∀ {ex},XR ex e a2 av->(packOuts pin S2 ex o λr=>some (Sum.inr r))=some z->∃ ex' S' μ' av',XR ex' e a2 av'/\K ex' S'=some r/\CP (isLeaf (.loop sh o run h)) F pin μ S w a μ' S' w2 av':=λ{ex} g1 hpo=>by
      obtain ⟨q',S',μ3,k1,k2,k3,k4⟩:=packOuts_ok g3.rg o hpo
      simp only [oSi] at k1
      rw [hro,<- k1] at hi
      simp only [oSi] at hi
      subst hi
      exact ⟨ex,S',μ3,av,g1,by rw [<- k2 α K];exact h1,g4.trans (CP.shaped k3 k4)⟩
     cases ex with
     | normal =>
      obtain ⟨rfl,rfl⟩:=g1
      obtain ⟨p',μ3,k1,k2,k3⟩:=pack_ok g3.rg g2
      simp only [oSi] at k1
      rw [hro,<- k1] at hi
      exact ⟨p',μ3,hi,g4.trans (CP.shaped k2 k3)⟩
     | exit id=>have g5:=g1;obtain ⟨rfl,rfl⟩:=g1;exact out g5 g2
     | ret=>have g5:=g1;obtain ⟨rfl,rfl⟩:=g1;exact out g5 g2
     | pan=>have g5:=g1;obtain ⟨rfl,hd⟩:=g1;exact out g5 g2
  | _=>simp [ev] at he
 | .label _,h,_=>by
  intro S α K r he F μ w a hn hp hr
  simp only [ev] at he
  exact wp_label ⟨.normal,S,μ,_,⟨rfl,rfl⟩,he,CP.refl hr hp⟩
 | .goto _,h,_=>by intro S α K r he;simp [ev] at he
 | .scope c,h,hl=>by
  intro S α K r he F μ w a hn hp hr
  simp only [ev] at he
  have hx:=joined_ok (ev_ok hm hC c (strip h.fst) λz hz=>hl z (by simp [loopsIn,hz]))
  refine wp_scope_straight (wp_mono (hx S α _ r he F μ w a hn hp hr) λe a' w' ⟨ex,S',μ',av,h1,h2,h3⟩=>?_)
  have h3':CP (isLeaf h) F pin μ S w a μ' S' w' av:=h3.weak leaf_fst
  cases ex with
  | normal=>obtain ⟨rfl,rfl⟩:=h1;exact ⟨.normal,S',μ',_,⟨rfl,rfl⟩,h2,h3'⟩
  | ret=>obtain ⟨rfl,rfl⟩:=h1;exact ⟨.ret,S',μ',_,⟨rfl,rfl⟩,h2,h3'⟩
  | exit id'=>obtain ⟨rfl,rfl⟩:=h1;exact ⟨.exit id',S',μ',_,⟨rfl,rfl⟩,h2,h3'⟩
  | pan=>obtain ⟨rfl,hd⟩:=h1;exact ⟨.pan,S',μ',_,⟨rfl,hd⟩,h2,h3'⟩
 | .rangeFunc _ _ _ _,h,_=>by intro S α K r he;simp [ev] at he
 | .refuse _,h,_=>by intro S α K r he;simp [ev] at he
end
end Go.Ev
namespace Go.Ev
open Go
section
variable {P:Program} {F:Frm (tabsOf P)} {μ μ':Nat->Option Nat} {S S':St} {w w':World} {a a':Act} {α:Type} {r:α} {M:FuncId->Bool} {pin:Nat}
def resStep (tmps:Array Value):ResultVar->Sem Value
 | .tmp t=>pure (tmps.getD t undef)
 | .cell a t=>do loadVar t (<- asAddr (tmps.getD a undef))
theorem results_eq (fn:Func) (tmps:Array Value):results fn tmps=(do
  let vs <- fn.results.toList.mapM (resStep tmps)
  pure (if h:vs.toArray.size=1 then vs.toArray[0] else .tuple vs.toArray)):=by
 unfold results
 rw [Array.mapM_eq_mapM_toList]
 simp only [bind_map_left]
 congr 1
theorem resAV_ok (hr:Rg F μ [] S a w):∀ (rs:List ResultVar) {K:List AV->Option α},resAV P S rs K=some r ->
  ∃ vs vals,K vs=some r/\RelVs w (Not F μ S.H) μ S.H vs vals/\(rs.mapM (resStep a.tmps)).run P w=.ok vals w
 | [],K,h=>by
  simp only [resAV] at h
  exact ⟨[],[],h,by simp [RelVs],by simp⟩
 | .tmp t::rs,K,h=>by
  simp only [resAV] at h
  obtain ⟨vs,vals,h1,h2,h3⟩:=resAV_ok hr rs h
  refine ⟨_,a.tmps.getD t undef::vals,h1,?_,?_⟩
  ·simp only [RelVs]
   exact ⟨_,_,rfl,hr.e.slot λj b y hh=>absurd (hr.tags _ _ _ _ hh) (by simp),h2⟩
  ·simp [resStep,h3]
 | .cell b t::rs,K,h=>by
  simp only [resAV] at h
  have hs:=hr.e.slot (t:=b) λj b' y hh=>absurd (hr.tags _ _ _ _ hh) (by simp)
  obtain ⟨y,val,hK,hy,hrun⟩:=loadAV_ok (P:=P) (X:=λ_ _=>False) hr.hp hs (λ_ _ _ _ _ h=>h) h
  obtain ⟨vs,vals,h1,h2,h3⟩:=resAV_ok hr rs hK
  refine ⟨_,val::vals,h1,?_,?_⟩
  ·simp only [RelVs]
   exact ⟨_,_,rfl,hy,h2⟩
  ·have h4:=hrun w (Agr.refl _)
   have hp:∃ ad,a.tmps.getD b undef=.pointer (some ad):=by
    unfold loadAV at h
    cases hu:P.underlying t with
    | none=>simp [hu] at h
    | some d =>
     simp only [hu] at h
     cases hE:S.E b <;> simp only [hE,RelV,reduceCtorEq] at h hs
     ·obtain ⟨_,g,o,_,_,h5,_⟩:=hs;exact ⟨_,h5⟩
     ·obtain ⟨_,g,_,h5⟩:=hs;exact ⟨_,h5⟩
     ·obtain ⟨_,g,_,_,_,h5⟩:=hs;exact ⟨_,h5⟩
   obtain ⟨ad,had⟩:=hp
   rw [had] at h4
   have h5:(loadVar t ad).run P w=.ok val w:=by
    simpa [Instr.loadAt,Instr.sureAddr] using h4
   simp [resStep,had,asAddr,h3,h5]
theorem argsE_ok {N:Nat->Prop} {H:Nat->Blk}:∀ (args:List AV) (vals:List Value) (k:Nat) (tmps:Array Value),RelVs w N μ H args vals->(∀ i,(h:i<vals.length)->tmps.getD (k+i) undef=vals[i]) ->
  ∀ t,RelV w N μ H (argsE k args t) (tmps.getD t undef)/\∀ j b x,argsE k args t≠.gd j b x
 | [],_,_,_,_,_,t=>by simp [argsE,RelV]
 | x::r,vals,k,tmps,h,ht,t=>by
  simp only [RelVs] at h
  obtain ⟨v,vr,rfl,h1,h2⟩:=h
  simp only [argsE]
  by_cases hk:t=k
  ·subst hk
   rw [upd_same]
   have:=ht 0 (by simp)
   simp only [Nat.add_zero,List.getElem_cons_zero] at this
   rw [this]
   exact ⟨noGd_rel h1,noGd_ne _⟩
  ·rw [upd_other hk]
   refine argsE_ok r vr (k+1) tmps h2 (λi hi=>?_) t
   have:=ht (i+1) (by simp;omega)
   simpa [Nat.add_assoc,Nat.add_comm 1 i] using this
theorem resVal {vs:List AV} {vals:List Value} {K:AV->Option α} {N:Nat->Prop} {H:Nat->Blk} (hK:(match vs with
      | [v]=>K v
      | vs=>K (.tup vs))=some r) (h:RelVs w N μ H vs vals):∃ v,K v=some r/\RelV w N μ H v (if h:vals.toArray.size=1 then vals.toArray[0] else .tuple vals.toArray):=by
  have hl:=RelVs_length h
  split at hK
  . rename_i v
    simp only [RelVs] at h
    obtain ⟨x,y,rfl,h1,rfl⟩:=h
    exact ⟨v,hK,by simpa using h1⟩
  . rename_i hne
    refine ⟨_,hK,?_⟩
    have:¬ vals.toArray.size=1:=by
      intro h1
      simp only [List.size_toArray] at h1
      rw [h1] at hl
      cases vs with
      | nil=>simp at hl
      | cons x r=>cases r with
        | nil=>exact hne x rfl
        | cons _ _=>simp at hl
    rw [dif_neg this]
    simp only [RelV]
    exact ⟨vals,rfl,h⟩
def inSt (args:List AV) (S:St):St:=⟨argsE 0 args,S.H,S.nx,[]⟩
theorem evFn_ok (hm:P.follows .mixedOrders=true) {C:Calling} (hC:CallOK P C M) {f:FuncId} {fn:Func} (hf:P.funcs[f]?=some fn) {h:HT} {args:List AV} {K:AV->St->Option α}
  (hl:∀ c,fn.body=some c->∀ x∈loopsIn c (strip h),x.OK P C M pin fn.ntmps) (he:evFn P C M pin fn h args S K=some r)
  {vals:List Value} (hp:Hp F μ S.H S.nx w) (hargs:RelVs w (Not F μ S.H) μ S.H args vals) (hpin:pin<=S.nx) :
  Calls P f vals.toArray w (λe w'=>∃ v S' μ' a a' val,EndR e v val/\K v ⟨killsE S'.kl S.E,S'.H,S'.nx,S.kl++S'.kl⟩=some r /\
   RelV w' (Not F μ' S'.H) μ' S'.H v val/\CP (isLeaf h) F pin μ (inSt args S) w a μ' S' w' a'):=by
 unfold evFn at he
 cases hb:fn.body with
 | none=>simp [hb] at he
 | some c =>
  simp only [hb] at he
  obtain ⟨hle,he⟩:=cond_some he
  have hle:=Nat.le_of_ble_eq_true hle
  have hlen:=RelVs_length hargs
  refine calls_of_wp hf hb ?_
  have hsz:(vals.toArray++Array.replicate (fn.ntmps-vals.toArray.size) undef).size=fn.ntmps:=by simp;omega
  have hE:=argsE_ok args vals 0 (vals.toArray++Array.replicate (fn.ntmps-vals.toArray.size) undef) hargs (λi hi=>by simp [Array.getD_eq_getD_getElem?,Array.getElem?_append,hi])
  have hrg:Rg F μ [] (inSt args S) ⟨vals.toArray++Array.replicate (fn.ntmps-vals.toArray.size) undef,[]⟩ w:=by
   refine ⟨hp,λt=>?_,λt j b x hh=>absurd hh ((hE t).2 j b x)⟩
   obtain ⟨h1,h2⟩:=hE t
   show (match argsE 0 args t with
    | .gd j b x=>_
    | x=>RelV w _ _ _ x _)
   cases hu:argsE 0 args t <;> rw [hu] at h1 h2 <;> first | exact h1 | exact absurd rfl (h2 _ _ _)
  have hj:=joined_ok (ev_ok hm hC c (strip h) (hl c hb))
  refine wp_mono (hj (inSt args S) α _ r he F μ w _ hsz.symm hpin hrg) λe a' w' ⟨ex,S',μ',av,h1,h2,h3⟩=>?_
  have key:a'=av->(resAV P S' fn.results.toList λvs=>match vs with
   | [v]=>cond (noPan v) (K v ⟨killsE S'.kl S.E,S'.H,S'.nx,S.kl++S'.kl⟩) none
   | vs=>K (.tup vs) ⟨killsE S'.kl S.E,S'.H,S'.nx,S.kl++S'.kl⟩)=some r->a'.defers=[]/\∃ v,(results fn a'.tmps).run P w'=.ok v w' /\
    ∃ v' S' μ' a a' val,EndR (Ending.returned v) v' val/\K v' ⟨killsE S'.kl S.E,S'.H,S'.nx,S.kl++S'.kl⟩=some r/\RelV w' (Not F μ' S'.H) μ' S'.H v' val/\CP (isLeaf h) F pin μ (inSt args S) w a μ' S' w' a':=λhav hres=>by
   subst hav
   obtain ⟨vs,us,k1,k2,k3⟩:=resAV_ok (P:=P) h3.rg _ hres
   obtain ⟨v,k4,k5⟩:=resVal (K:=λv=>cond (noPan v) (K v ⟨killsE S'.kl S.E,S'.H,S'.nx,S.kl++S'.kl⟩) none) (by
    split at k1
    ·exact k1
    ·exact k1) k2
   obtain ⟨k6,k7⟩:=cond_some k4
   refine ⟨h3.defers,_,?_,v,S',μ',_,a',_,(EndR.ret k6).2 rfl,k7,k5,h3⟩
   rw [results_eq]
   simp only [Sem.run_bind,k3,Result.andThen_ok,Sem.run_pure]
  cases ex with
  | exit id=>simp at h2
  | normal=>obtain ⟨rfl,hav⟩:=h1;exact key hav h2
  | ret=>obtain ⟨rfl,hav⟩:=h1;exact key hav h2
  | pan =>
   obtain ⟨rfl,hd⟩:=h1
   refine ⟨hd.trans h3.defers,.pan (S'.E 0),S',μ',_,av,_,rfl,h2,?_,h3⟩
   have:=h3.rg.e.slot (t:=0) λj b y hh=>absurd (h3.rg.tags _ _ _ _ hh) (by simp)
   simpa only [RelV] using this
end
end Go.Ev
namespace Go.Ev
open Go
section
variable {P:Program} {F F':Frm (tabsOf P)} {μ μ' μ'':Nat->Option Nat} {S S':St} {w w':World} {α:Type} {r:α} {M:FuncId->Bool} {N N':Nat->Prop} {H H':Nat->Blk}
def Enters (P:Program) (f:FuncId):Prop:=∀ (args:Array Value) w,(callFunc f args).run P w=.ok (.enter f args) w
structure Orc.OK (P:Program) (f:FuncId) (o:Orc):Prop where
 enters:Enters P f
 fits:o.fits=true
 run:∀ p r,o.run p=some r->∀ (F:Frm (tabsOf P)) μ w vals,Hp F μ (unBlks o.blks p.2) o.blks.length w->RelVs w (Not F μ (unBlks o.blks p.2)) μ (unBlks o.blks p.2) (unL o.args p.1) vals ->
  Calls P f vals.toArray w (λe w'=>∃ val μ' nx',EndR e (unV o.out r.1) val/\Hp F μ' (unBlks o.oblks r.2) nx' w'/\RelV w' (Not F μ' (unBlks o.oblks r.2)) μ' (unBlks o.oblks r.2) (unV o.out r.1) val /\
   Chg (Trk μ (unBlks o.blks p.2)) w w'/\(∀ g,Trk μ' (unBlks o.oblks r.2) g->Trk μ (unBlks o.blks p.2) g\/w.heap.size<=g) /\
   (∀ j,j<o.blks.length->Pin (unBlks o.oblks r.2 j) (unBlks o.blks p.2 j) (μ' j) (μ j)))
theorem RelD_noSl:∀ {t:Ty} {x:t.den} {vs:List Value},slTy t=false->RelD w N t x vs->RelD w N' t x vs
 | .int _,_,_,_,h=>h
 | .u8,_,_,_,h=>h
 | .bool,_,_,_,h=>h
 | .str,_,_,_,h=>h
 | .sl t,l,vs,hs,h=>by simp [slTy] at hs
 | .unit,_,_,_,h=>h
 | .pair a b,p,vs,hs,h=>by
  simp only [slTy,Bool.or_eq_false_iff] at hs
  simp only [RelD] at h ⊢
  obtain ⟨xs,ys,h0,h1,h2⟩:=h
  exact ⟨xs,ys,h0,RelD_noSl hs.1 h1,RelD_noSl hs.2 h2⟩
theorem RelD_to {t:Ty} {x:t.den} {vs:List Value} (hN:slTy t=true->∀ g,N' g->N g) (h:RelD w N t x vs):RelD w N' t x vs:=by
 cases hs:slTy t with
 | false=>exact RelD_noSl hs h
 | true=>exact h.keep (Keep.refl w) λg _=>hN hs g
def Ren (bl:List (Nat×BSh)) (ρ:Nat->Nat) (μ μ':Nat->Option Nat) (H H':Nat->Blk):Prop :=
 ∀ j s,kindIn bl j=some s->μ' (ρ j)=μ j/\H' (ρ j)=renB ρ (H j)/\H j≠.dead
theorem renB_data {ρ:Nat->Nat} {b:Blk} {t:Ty} {l:List t.den} (h:b=.data t l):renB ρ b=.data t l:=by subst h;rfl
theorem tag_renB {ρ:Nat->Nat} (b:Blk):(renB ρ b).tag=b.tag:=by cases b <;> rfl
theorem renB_live {ρ:Nat->Nat} {b:Blk} (h:b≠.dead):renB ρ b≠.dead:=by cases b <;> simp_all [renB]
section
variable {bl:List (Nat×BSh)} {ρ:Nat->Nat}
mutual
theorem renV_ok (hr:Ren bl ρ μ μ' H H'):∀ (v:VSh) (p:v.den) (val:Value),(hasSl v=true->∀ g,N' g->N g)->refsOK bl v=true->RelV w N μ H (unV v p) val->RelV w N' μ' H' (renV ρ (unV v p)) val
 | .i k,p,val,_,_,h=>h
 | .u,p,val,_,_,h=>h
 | .b,p,val,_,_,h=>h
 | .s,p,val,_,_,h=>h
 | .nilp,p,val,_,_,h=>h
 | .kb _,p,val,_,_,h=>h
 | .ki _ _,p,val,_,_,h=>h
 | .ks _,p,val,_,_,h=>h
 | .bad,p,val,_,_,h=>by simp [unV,renV,RelV]
 | .nil,p,val,_,_,h=>by simp [unV,renV,RelV]
 | .cons _ _,p,val,_,_,h=>by simp [unV,renV,RelV]
 | .sl t,p,val,hN,_,h=>by
  simp only [unV,renV,RelV] at h ⊢
  exact h.keep (Keep.refl w) λg _=>hN rfl g
 | .ptr j o,p,val,_,hf,h=>by
  simp only [unV,renV,RelV,refsOK,Option.isSome_iff_exists] at h hf ⊢
  obtain ⟨s,hs⟩:=hf
  obtain ⟨h1,h2,h3⟩:=hr j s hs
  obtain ⟨_,g,hg,hv⟩:=h
  exact ⟨by rw [h2];exact renB_live h3,g,by rw [h1];exact hg,hv⟩
 | .mp j,p,val,_,hf,h=>by
  simp only [unV,renV,RelV,refsOK,Option.isSome_iff_exists] at h hf ⊢
  obtain ⟨s,hs⟩:=hf
  obtain ⟨h1,h2,h3⟩:=hr j s hs
  obtain ⟨_,g,hg,hv⟩:=h
  exact ⟨by rw [h2];exact renB_live h3,g,by rw [h1];exact hg,hv⟩
 | .mptr j o,p,val,_,hf,h=>by
  simp only [unV,renV,RelV,refsOK,Option.isSome_iff_exists] at h hf ⊢
  obtain ⟨s,hs⟩:=hf
  obtain ⟨h1,h2,h3⟩:=hr j s hs
  obtain ⟨_,hv⟩:=h
  exact ⟨by rw [h2];exact renB_live h3,by rw [h1];exact hv⟩
 | .own j,p,val,_,hf,h=>by
  simp only [unV,renV,RelV] at h ⊢
  obtain ⟨t,l,hl,hv⟩:=h
  simp only [refsOK] at hf
  cases hk:kindIn bl j with
  | none=>simp [hk] at hf
  | some s =>
   obtain ⟨h1,h2,h3⟩:=hr j s hk
   exact ⟨t,l,by rw [h2];exact renB_data hl,by rw [h1];exact hv⟩
 | .win j,p,val,_,hf,h=>by
  simp only [unV,renV,RelV] at h ⊢
  obtain ⟨t,l,hl,hv⟩:=h
  simp only [refsOK] at hf
  cases hk:kindIn bl j with
  | none=>simp [hk] at hf
  | some s =>
   obtain ⟨h1,h2,h3⟩:=hr j s hk
   exact ⟨t,l,by rw [h2];exact renB_data hl,by rw [h1];exact hv⟩
 | .fn f cs,p,val,hN,hf,h=>by
  simp only [unV,renV,RelV] at h ⊢
  obtain ⟨vs,hv,h⟩:=h
  exact ⟨vs,hv,renL_ok hr cs p vs hN hf h⟩
 | .agg cs,p,val,hN,hf,h=>by
  simp only [unV,renV,RelV] at h ⊢
  obtain ⟨vs,hv,h⟩:=h
  exact ⟨vs,hv,renL_ok hr cs p vs hN hf h⟩
 | .tup cs,p,val,hN,hf,h=>by
  simp only [unV,renV,RelV] at h ⊢
  obtain ⟨vs,hv,h⟩:=h
  exact ⟨vs,hv,renL_ok hr cs p vs hN hf h⟩
 | .ifc t v,p,val,hN,hf,h=>by
  simp only [unV,renV,RelV] at h ⊢
  obtain ⟨u,hv,h⟩:=h
  exact ⟨u,hv,renV_ok hr v p u hN hf h⟩
 | .may v v2,p,val,hN,hf,h=>by
  simp only [refsOK,bAt] at hf
  simp only [hasSl,Bool.or_eq_true] at hN
  match (show v.den⊕v2.den from p),h with
  | .inl p,h=>exact renV_ok hr v p val (λh=>hN (.inl h)) hf.1 h
  | .inr p,h =>
   have h:RelV w N μ H (unV v2 p) val:=h
   have:=renV_ok hr v2 p val (λh=>hN (.inr h)) hf.2 h
   exact this
theorem renL_ok (hr:Ren bl ρ μ μ' H H'):∀ (v:VSh) (p:v.den) (vals:List Value),(hasSl v=true->∀ g,N' g->N g)->refsOK bl v=true->RelVs w N μ H (unL v p) vals->RelVs w N' μ' H' (renL ρ (unL v p)) vals
 | .cons v v2,p,vals,hN,hf,h=>by
  simp only [unL,renL,RelVs] at h ⊢
  simp only [refsOK,bAt] at hf
  simp only [hasSl,Bool.or_eq_true] at hN
  obtain ⟨val,vr,rfl,h1,h2⟩:=h
  exact ⟨val,vr,rfl,renV_ok hr v p.1 val (λh=>hN (.inl h)) hf.1 h1,renL_ok hr v2 p.2 vr (λh=>hN (.inr h)) hf.2 h2⟩
 | .nil,p,vals,_,_,h=>h
 | .i _,p,vals,_,_,h=>h
 | .u,p,vals,_,_,h=>h
 | .b,p,vals,_,_,h=>h
 | .s,p,vals,_,_,h=>h
 | .sl _,p,vals,_,_,h=>h
 | .ptr _ _,p,vals,_,_,h=>h
 | .ifc _ _,p,vals,_,_,h=>h
 | .may _ _,p,vals,_,_,h=>h
 | .own _,p,vals,_,_,h=>h
 | .win _,p,vals,_,_,h=>h
 | .mp _,p,vals,_,_,h=>h
 | .mptr _ _,p,vals,_,_,h=>h
 | .fn _ _,p,vals,_,_,h=>h
 | .agg _,p,vals,_,_,h=>h
 | .tup _,p,vals,_,_,h=>h
 | .nilp,p,vals,_,_,h=>h
 | .kb _,p,vals,_,_,h=>h
 | .ki _ _,p,vals,_,_,h=>h
 | .ks _,p,vals,_,_,h=>h
 | .bad,p,vals,_,_,h=>h
end
end
theorem kindIn_mem:∀ {bl:List (Nat×BSh)} {j:Nat} {s:BSh},kindIn bl j=some s->(j,s)∈bl
 | [],_,_,h=>by simp [kindIn] at h
 | (k,s0)::bl,j,s,h=>by
  simp only [kindIn] at h
  cases hk:Nat.beq k j with
  | true =>
   simp only [hk,cTt,oSi] at h
   rw [<- Nat.eq_of_beq_eq_true hk,<- h]
   simp
  | false =>
   simp only [hk,cFf] at h
   exact List.mem_cons_of_mem _ (kindIn_mem h)
theorem unBlks_some:∀ (bl:List (Nat×BSh)) (q:blksDen bl) (j:Nat) (s:BSh),kindIn bl j=some s->∃ p:s.den,unBlks bl q j=unB s p
 | [],_,_,_,h=>by simp [kindIn] at h
 | (k,s0)::bl,q,j,s,h=>by
  simp only [kindIn] at h
  simp only [unBlks]
  cases hk:Nat.beq k j with
  | true =>
   simp only [hk,cTt,oSi] at h
   subst h
   rw [Nat.eq_of_beq_eq_true hk,updH_same]
   exact ⟨_,rfl⟩
  | false =>
   simp only [hk,cFf] at h
   have hne:j≠k:=λe=>by subst e;simp at hk
   rw [updH_other hne]
   exact unBlks_some bl q.2 j s h
theorem putBlks_other {ρ:Nat->Nat}:∀ (bl:List (Nat×BSh)) (q:blksDen bl) (H:Nat->Blk) (b:Nat),(∀ j s,kindIn bl j=some s->ρ j≠b)->putBlks ρ bl q H b=H b
 | [],_,_,_,_=>rfl
 | (k,s)::bl,q,H,b,h=>by
  simp only [putBlks]
  have hk:ρ k≠b:=h k s (by simp [kindIn])
  rw [updH_other (Ne.symm hk)]
  refine putBlks_other bl q.2 H b λj s' hj=>?_
  by_cases hkj:k=j
  ·subst hkj;exact hk
  ·exact h j s' (by simp [kindIn,beq_ne hkj,hj])
theorem putBlks_at {ρ:Nat->Nat}:∀ (bl:List (Nat×BSh)) (q:blksDen bl) (H:Nat->Blk) (j:Nat) (s:BSh),(∀ j s j' s',kindIn bl j=some s->kindIn bl j'=some s'->ρ j=ρ j'->j=j')->nodupN (bl.map (·.1))=true ->
  kindIn bl j=some s->putBlks ρ bl q H (ρ j)=renB ρ (unBlks bl q j)
 | [],_,_,_,_,_,_,h=>by simp [kindIn] at h
 | (k,s0)::bl,q,H,j,s,hi,hn,h=>by
  simp only [putBlks,unBlks]
  by_cases hk:j=k
  ·subst hk;rw [updH_same,updH_same]
  ·have hne:ρ j≠ρ k:=λe=>hk (hi j s k s0 h (by simp [kindIn]) e)
   rw [updH_other hne,updH_other hk]
   have h':kindIn bl j=some s:=by simpa [kindIn,beq_ne (Ne.symm hk)] using h
   have hn':nodupN (bl.map (·.1))=true:=by
    simp only [List.map_cons,nodupN,bAt] at hn;exact hn.2
   have hnk:∀ j' s',kindIn bl j'=some s'->j'≠k:=λj' s' hj' e=>by
    subst e
    simp only [List.map_cons,nodupN,bAt,Bool.not_eq_true'] at hn
    have:(List.any (bl.map (·.1)) λy=>Nat.beq j' y)=true:=List.any_eq_true.2 ⟨j',List.mem_map.2 ⟨_,kindIn_mem hj',rfl⟩,Nat.beq_refl j'⟩
    rw [this] at hn
    exact absurd hn.1 (by simp)
   refine putBlks_at bl q.2 H j s (λj1 s1 j2 s2 h1 h2 he=>?_) hn' h'
   exact hi j1 s1 j2 s2 (by simp [kindIn,beq_ne (Ne.symm (hnk j1 s1 h1)),h1]) (by simp [kindIn,beq_ne (Ne.symm (hnk j2 s2 h2)),h2]) he
theorem mem_dataIds:∀ {bl:List (Nat×BSh)} {j:Nat} {t:Ty},(j,BSh.data t)∈bl->j∈dataIds bl
 | [],_,_,h=>by cases h
 | (k,s)::bl,j,t,h=>by
  rcases List.mem_cons.1 h with h | h
  ·cases h;simp [dataIds]
  ·have:=mem_dataIds h
   cases s <;> simp [dataIds,this]
end
end Go.Ev
namespace Go.Ev
open Go
section
variable {P:Program} {F F':Frm (tabsOf P)} {μ μ' μ'':Nat->Option Nat} {S S':St} {w w':World} {α:Type} {r:α} {M:FuncId->Bool} {N N':Nat->Prop} {H H':Nat->Blk}
theorem renOf_cases (B:Bd) (n nx j:Nat):(j<n/\∃ b,findB B.m j=some (some b)/\renOf B n nx j=b)\/renOf B n nx j=nx+j:=by
 unfold renOf
 cases hb:Nat.ble n j with
 | true=>right;rfl
 | false =>
  have hlt:j<n:=by
   rcases Nat.lt_or_ge j n with h | h
   ·exact h
   ·rw [Nat.ble_eq_true_of_le h] at hb;cases hb
  simp only [cFf]
  cases hf:findB B.m j with
  | none=>right;rfl
  | some x =>
   cases x with
   | none=>right;rfl
   | some b=>left;exact ⟨hlt,b,rfl,rfl⟩
theorem hasSlB_vars:∀ {bl:List (Nat×BSh)} {j:Nat} {cs:VSh},(j,BSh.vars cs)∈bl->hasSl cs=true->hasSlB bl=true
 | [],_,_,h,_=>by cases h
 | (k,s)::bl,j,cs,h,hs=>by
  rcases List.mem_cons.1 h with h | h
  ·cases h;simp [hasSlB,hs]
  ·have:=hasSlB_vars h hs
   cases s <;> simp [hasSlB,this]
theorem hasSlB_data:∀ {bl:List (Nat×BSh)} {j:Nat} {t:Ty},(j,BSh.data t)∈bl->slTy t=true->hasSlB bl=true
 | [],_,_,h,_=>by cases h
 | (k,s)::bl,j,cs,h,hs=>by
  rcases List.mem_cons.1 h with h | h
  ·cases h;simp [hasSlB,hs]
  ·have:=hasSlB_data h hs
   cases s <;> simp [hasSlB,this]
theorem hasSlB_map:∀ {bl:List (Nat×BSh)} {j:Nat} {kt vt:Ty} {ag:Bool},(j,BSh.mapd kt vt ag)∈bl->(slTy kt||slTy vt)=true->hasSlB bl=true
 | [],_,_,_,_,h,_=>by cases h
 | (k,s)::bl,j,kt,vt,ag,h,hs=>by
  rcases List.mem_cons.1 h with h | h
  ·cases h
   simp only [hasSlB,Bool.or_eq_true] at hs ⊢
   exact .inl hs
  ·have:=hasSlB_map h hs
   cases s <;> simp [hasSlB,this]
theorem room_of_heap' {g n:Nat} (hk:g<w.heap.size->w'.heap[g]?=w.heap[g]?) (h:room w g n):room w' g n:=λk hkn=>by
 obtain ⟨h1,h2⟩:=h k hkn
 obtain ⟨v,hv⟩:=Option.isSome_iff_exists.1 h1
 have hlt:=World.block_lt_of_cell? w _ hv
 exact ⟨by rw [cell?_of_heap (hk hlt)];exact h1,by rw [frozen?_of_heap (hk hlt)];exact h2⟩
theorem kb_kind {kl:List Nat} {b:Blk}:(b=.dead->kb kl b=.dead)/\(b≠.dead->kb kl b≠.dead)/\(∀ cs,kb kl b=.vars cs->∃ cs',b=.vars cs')/\(∀ t l,b=.data t l->kb kl b=.data t l):=by
 cases kl <;> cases b <;> simp [kb,killB]
theorem unVK_eq:∀ (v:VSh) (p:v.den) (K:AV->Option α),unVK v p K=K (unV v p):=λv p K=>by
 cases v
 case may v1 v2=>cases (show v1.den⊕v2.den from p) <;> rfl
 all_goals rfl
theorem EndR.ren {ρ:Nat->Nat} {e:Ending} {v:AV} {val:Value} (h:EndR e v val):EndR e (renV ρ v) val:=by
 cases v <;> exact h
theorem Orc.call_ok {o:Orc} {f:FuncId} (ho:o.OK P f) {args:List AV} {K:AV->St->Option α} (h:o.call args S K=some r) {vals:List Value} (hp:Hp F μ S.H S.nx w) (hargs:RelVs w (Not F μ S.H) μ S.H args vals) :
  Calls P f vals.toArray w (λe w'=>∃ v S' μ' kl val,EndR e v val/\K v S'=some r/\S'.E=killsE kl S.E/\S'.kl=S.kl++kl/\Hp F μ' S'.H S'.nx w' /\
   Pl F μ S.H S.nx w kl μ' S'.H S'.nx w'/\RelV w' (Not F μ' S'.H) μ' S'.H v val/\(o.blks=[]->Keep (λ_=>False) w w')):=by
 unfold Orc.call at h
 obtain ⟨p,B1,hK1,he1,hr1⟩:=packL_ok (pin:=0) (bl:=o.blks) hp o.args args ⟨[],[]⟩ _ vals hargs h
 obtain ⟨q,B,hK2,he2,hf2,hk2,hm2,hr2⟩:=packBlks_ok (bl:=o.blks) hp o.blks hK1
 obtain ⟨hB,hK3⟩:=cond_some hK2
 have hfits:=ho.fits
 simp only [Orc.fits,bAt,List.all_eq_true] at hfits
 obtain ⟨⟨⟨⟨⟨fnd,frange⟩,fargs⟩,fout⟩,fblks⟩,foblks⟩:=hfits
 have hlive_lt:∀ b,S.H b≠.dead->b<S.nx:=λb hb=>Nat.lt_of_not_le λhle=>hb (hp.dead b hle)
 have hkey:∀ j,unBlks o.blks q j≠.dead->j<o.blks.length:=λj hj=>by
  obtain ⟨x,hx,rfl⟩:=hm2 j hj
  exact Nat.le_of_ble_eq_true (fblks x hx).1.1.1
 have hsrc:∀ j,j<o.blks.length->∀ b,findB B.m j=some (some b)->∃ s,kindIn o.blks j=some s/\S.H b≠.dead/\(∀ t l,S.H b=.data t l->unBlks o.blks q j=.data t l)/\((unBlks o.blks q j).tag≠0->(S.H b).tag=(unBlks o.blks q j).tag):=λj hj b hb=>by
  have h1:=frange j (List.mem_range.2 hj)
  obtain ⟨s,hs⟩:=Option.isSome_iff_exists.1 h1
  have h2:=hf2 j (hk2 j s hs).live
  unfold From at h2
  rw [hb] at h2
  exact ⟨s,hs,h2.1,h2.2.1,h2.2.2.2⟩
 let F':Frm (tabsOf P):=Frm.mk λg=>F g\/∃ b,S.H b≠.dead/\μ b=some g/\b∉B.z/\∀ j,j<o.blks.length->findB B.m j≠some (some b)
 have hfin:Fin F F' μ 0 S.H o.blks B (unBlks o.blks q):=by
  refine ⟨hB,hf2,hk2,λg hg=>?_,λb g hb hl hm hg=>?_⟩
  ·rcases hg with hg | ⟨b,h1,h2,_⟩
   ·exact .inl hg
   ·exact .inr ⟨b,h1,h2⟩
  ·rcases hg with hg | ⟨b',h1,h2,h3,_⟩
   ·exact hp.apart b g hl hm hg
   ·have:=hp.inj b b' g hl h1 hm h2
    subst this
    exact h3 hb
 have hp1:Hp F' (muB μ B) (unBlks o.blks q) o.blks.length w:=by
  refine hfin.hp hp (λj=>hr2 F' B _ (Ext.refl B) hfin (List.all_eq_true.2 λx hx=>(fblks x hx).1.1.2) j) (λj hj=>?_) (λj b g hlj hb hl hm hg=>?_) (λg hg=>?_)
  ·by_cases hd:unBlks o.blks q j=.dead
   ·exact hd
   ·have:=hkey j hd;omega
  ·rcases hg with hg | ⟨b',h1,h2,_,h4⟩
   ·exact hp.apart b g hl hm hg
   ·have:=hp.inj b b' g hl h1 hm h2
    subst this
    exact h4 j (hkey j hlj) hb
  ·rcases hg with hg | ⟨b',h1,h2,_⟩
   ·exact hp.flt g hg
   ·exact hp.lt b' g h1 h2
 have hargs1:=hr1 F' B _ he2 hfin fargs
 cases hrun:o.run (p,q) with
 | none=>simp [hrun] at hK3
 | some rr =>
  simp only [hrun,oBs] at hK3
  rw [unVK_eq] at hK3
  refine (ho.run (p,q) rr hrun F' (muB μ B) w vals hp1 hargs1).mono λe w' ⟨val,μ2,nx2,hee,hp2,hv2,hchg,hnew,hpin⟩=>?_
  simp only at hp2 hv2 hchg hnew hpin
  generalize hgone:cond (hasSl o.out||hasSlB o.oblks) B.z []=gone at hK3
  generalize hρ:renOf B o.blks.length S.nx=ρ at hK3
  generalize hkl:gone++(dataIds o.blks).map ρ=kl at hK3
  have hρc:∀ j,(j<o.blks.length/\∃ b,findB B.m j=some (some b)/\ρ j=b)\/ρ j=S.nx+j:=λj=>by rw [<- hρ];exact renOf_cases _ _ _ _
  have hbl:∀ j,j<o.blks.length->∀ b,findB B.m j=some (some b)->b<S.nx:=λj hj b hb=>by
   obtain ⟨_,_,h1,_⟩:=hsrc j hj b hb
   exact hlive_lt b h1
  have hinj0:∀ j j',ρ j=ρ j'->j=j':=λj j' he=>by
   rcases hρc j with ⟨h1,b,h2,h3⟩ | h1 <;> rcases hρc j' with ⟨g1,b',g2,g3⟩ | g1
   ·rw [h3,g3] at he;subst he;exact Bd.ok_inj hB h2 g2
   ·have:=hbl j h1 b h2;omega
   ·have:=hbl j' g1 b' g2;omega
   ·omega
  have hat:∀ j s,kindIn o.oblks j=some s->putBlks ρ o.oblks rr.2 (dropBlks kl (killsH kl S.H)) (ρ j)=renB ρ (unBlks o.oblks rr.2 j):=λj s hs =>
   putBlks_at o.oblks rr.2 _ j s (λj _ j' _ _ _=>hinj0 j j') fnd hs
  have hoff:∀ b,(∀ j s,kindIn o.oblks j=some s->ρ j≠b)->putBlks ρ o.oblks rr.2 (dropBlks kl (killsH kl S.H)) b=if b∈kl then .dead else kb kl (S.H b):=λb hb=>by
   rw [putBlks_other _ _ _ _ hb,dropBlks_eq,killsH_eq]
  generalize hH':putBlks ρ o.oblks rr.2 (dropBlks kl (killsH kl S.H))=H' at hK3 hat hoff
  have hex:∃ μ':Nat->Option Nat,(∀ j s,kindIn o.oblks j=some s->μ' (ρ j)=μ2 j)/\∀ b,(∀ j s,kindIn o.oblks j=some s->ρ j≠b)->μ' b=μ b:=by
   classical
   refine ⟨λb=>if hh:∃ j s,kindIn o.oblks j=some s/\ρ j=b then μ2 hh.choose else μ b,λj s hs=>?_,λb hb=>?_⟩
   ·have hh:∃ j' s,kindIn o.oblks j'=some s/\ρ j'=ρ j:=⟨j,s,hs,rfl⟩
    simp only [hh,dite_true]
    obtain ⟨_,_,h3⟩:=hh.choose_spec
    rw [hinj0 _ _ h3]
   ·exact dif_neg λ⟨j,s,h1,h2⟩=>hb j s h1 h2
  obtain ⟨μ3,hm3,hm3'⟩:=hex
  have hlive2:∀ j s,kindIn o.oblks j=some s->unBlks o.oblks rr.2 j≠.dead:=λj s hs=>by
   obtain ⟨x,hx⟩:=unBlks_some o.oblks rr.2 j s hs
   rw [hx];exact (unB_kin s x).live
  have hren:Ren o.oblks ρ μ2 μ3 (unBlks o.oblks rr.2) H':=λj s hs=>⟨hm3 j s hs,hat j s hs,hlive2 j s hs⟩
  have hcase:∀ b,(∃ j s,kindIn o.oblks j=some s/\ρ j=b)\/(∀ j s,kindIn o.oblks j=some s->ρ j≠b):=λb=>by
   by_cases hh:∃ j s,kindIn o.oblks j=some s/\ρ j=b
   ·exact .inl hh
   ·exact .inr λj s h1 h2=>hh ⟨j,s,h1,h2⟩
  have hold:∀ b,(∀ j s,kindIn o.oblks j=some s->ρ j≠b)->H' b≠.dead->b∉kl/\S.H b≠.dead/\H' b=kb kl (S.H b)/\μ3 b=μ b:=λb hb hl=>by
   have h1:=hoff b hb
   by_cases hbk:b∈kl
   ·rw [if_pos hbk] at h1;exact absurd h1 hl
   ·rw [if_neg hbk] at h1
    refine ⟨hbk,λhd=>hl ?_,h1,hm3' b hb⟩
    rw [h1];exact kb_kind.1 hd
  have hunbound:∀ b,(∀ j s,kindIn o.oblks j=some s->ρ j≠b)->b∉kl->∀ j,j<o.blks.length->findB B.m j≠some (some b):=λb hb hbk j hj hf=>by
   obtain ⟨s,hs,_,hdat,_⟩:=hsrc j hj b hf
   have hρj:ρ j=b:=by
    rw [<- hρ]
    unfold renOf
    have:Nat.ble o.blks.length j=false:=by
     cases hh:Nat.ble o.blks.length j with
     | false=>rfl
     | true=>have:=Nat.le_of_ble_eq_true hh;omega
    rw [this,hf];rfl
   have hmem:=kindIn_mem hs
   have hs2:=fblks _ hmem
   cases s with
   | data t =>
    refine hbk ?_
    rw [<- hkl]
    exact List.mem_append_right _ (List.mem_map.2 ⟨j,mem_dataIds hmem,hρj⟩)
   | iter=>have:=hs2.1.2;simp [notIter] at this
   | vars cs =>
    have h4:=hs2.2
    cases hko:kindIn o.oblks j with
    | none=>simp [hko,tagO,BSh.tag] at h4
    | some s'=>exact hb j s' hko hρj
   | mapd kt vt ag =>
    have h4:=hs2.2
    cases hko:kindIn o.oblks j with
    | none=>simp [hko,tagO,BSh.tag] at h4
    | some s'=>exact hb j s' hko hρj
  have htrk:∀ g,Trk μ3 H' g->Trk μ2 (unBlks o.oblks rr.2) g\/∃ b,(∀ j s,kindIn o.oblks j=some s->ρ j≠b)/\b∉kl/\S.H b≠.dead/\μ b=some g:=λg ⟨b,h1,h2⟩=>by
   rcases hcase b with ⟨j,s,hs,rfl⟩ | hb
   ·rw [hm3 j s hs] at h2
    exact .inl ⟨j,hlive2 j s hs,h2⟩
   ·obtain ⟨k1,k2,_,k4⟩:=hold b hb h1
    exact .inr ⟨b,hb,k1,k2,by rw [<- k4];exact h2⟩
  have htrk1:∀ g,Trk (muB μ B) (unBlks o.blks q) g->Trk μ S.H g:=λg=>hfin.trk
  have hk:Keep (Not F μ S.H) w w':=⟨hchg.size,λg hg hn=>hchg.keep g hg λht=>hn (.inr (htrk1 g ht))⟩
  have hN:∀ g,g<w.heap.size->Not F μ3 H' g->Not F μ S.H g:=λg hg hn=>by
   rcases hn with hn | hn
   ·exact .inl hn
   ·rcases htrk g hn with h1 | ⟨b,_,_,h1,h2⟩
    ·exact .inr (htrk1 g ((hnew g h1).resolve_right (by omega)))
    ·exact .inr ⟨b,h1,h2⟩
  have hkept:∀ b,(∀ j s,kindIn o.oblks j=some s->ρ j≠b)->b∉kl->S.H b≠.dead->∀ g,μ b=some g->w'.heap[g]?=w.heap[g]?:=λb hb hbk hl g hg=>by
   refine hchg.keep g (hp.lt b g hl hg) λ⟨j,h1,h2⟩=>?_
   have h3:=hf2 j h1
   unfold From at h3
   unfold muB at h2
   cases hf:findB B.m j with
   | none=>simp [hf] at h2
   | some x =>
    cases x with
    | none=>simp [hf] at h2
    | some b' =>
     simp only [hf] at h2 h3
     have:=hp.inj b b' g hl h3.1 hg h2
     subst this
     exact hunbound b hb hbk j (hkey j h1) hf
  have hcompat:∀ b,hasN kl b=false->S.H b≠.dead->Compat w w' μ μ3 S.H H' b:=λb hbk hl=>by
   have hbk':b∉kl:=λhm=>by rw [hasN_mem.2 hm] at hbk;cases hbk
   rcases hcase b with ⟨j,s,hs,hjb⟩ | hb
   ·rcases hρc j with ⟨h1,b',h2,h3⟩ | h1
    ·rw [hjb] at h3
     subst h3
     obtain ⟨s0,hs0,hl0,hd0,hv0⟩:=hsrc j h1 b h2
     have hmem:=kindIn_mem hs0
     have hs2:=fblks _ hmem
     have htag:s0.tag≠0->Compat w w' μ μ3 S.H H' b:=λht=>by
      have h4:=hs2.2
      simp only [hs,tagO] at h4
      have hst:s.tag=s0.tag:=by
       rw [Bool.or_eq_true] at h4
       rcases h4 with h4 | h4
       ·exact absurd (Nat.eq_of_beq_eq_true h4) ht
       ·exact Nat.eq_of_beq_eq_true h4
      obtain ⟨x,hx⟩:=unBlks_some o.oblks rr.2 j _ hs
      obtain ⟨y,hy⟩:=unBlks_some o.blks q j _ hs0
      have hxt:(unBlks o.oblks rr.2 j).tag=s.tag:=by rw [hx];exact (unB_kin s x).tag
      have hyt:(unBlks o.blks q j).tag=s0.tag:=by rw [hy];exact (unB_kin s0 y).tag
      obtain ⟨_,hpj⟩:=hpin j h1 (by rw [hxt,hst];exact ht)
      have hbt:(S.H b).tag=s0.tag:=(hv0 (by rw [hyt];exact ht)).trans hyt
      refine ⟨?_,?_⟩
      ·rw [<- hjb,hm3 j _ hs,hpj]
       unfold muB
       rw [h2,hjb]
      ·have hd:H' b≠.dead:=by
        rw [<- hjb,hat j _ hs]
        exact renB_live (hlive2 j _ hs)
       cases hSb:S.H b <;> simp only <;> first | exact hd | (rw [hSb] at hbt;exact absurd hbt.symm ht)
     cases s0 with
     | data t=>exact absurd (by rw [<- hkl];exact List.mem_append_right _ (List.mem_map.2 ⟨j,mem_dataIds hmem,hjb⟩)) hbk'
     | iter=>have:=hs2.1.2;simp [notIter] at this
     | vars cs=>exact htag (by simp [BSh.tag])
     | mapd kt vt ag=>exact htag (by simp [BSh.tag])
    ·have:=hlive_lt b hl;omega
   ·have hH:H' b=kb kl (S.H b):=by rw [hoff b hb,if_neg hbk']
    refine ⟨hm3' b hb,?_⟩
    cases hSb:S.H b with
    | dead=>exact absurd hSb hl
    | data t l =>
     refine ⟨⟨l,by rw [hH];exact kb_kind.2.2.2 t l hSb,rfl⟩,λg n hg hrm=>?_⟩
     exact room_of_heap' (λ_=>hkept b hb hbk' hl g hg) hrm
    | vars cs=>simp only;rw [hH];exact kb_kind.2.1 hl
    | iter s k=>simp only;rw [hH];exact kb_kind.2.1 hl
    | mapd kt vt ag l=>simp only;rw [hH];exact kb_kind.2.1 hl
  have hsl:(hasSl o.out||hasSlB o.oblks)=true->∀ g,Not F μ3 H' g->Not F' μ2 (unBlks o.oblks rr.2) g:=λhh g hn=>by
   rcases hn with hn | hn
   ·exact .inl (.inl hn)
   ·rcases htrk g hn with h1 | ⟨b,hb,hbk,h1,h2⟩
    ·exact .inr h1
    ·refine .inl (.inr ⟨b,h1,h2,λhz=>hbk ?_,hunbound b hb hbk⟩)
     rw [<- hkl,<- hgone,hh]
     exact List.mem_append_left _ hz
  have hapart:∀ b g,H' b≠.dead->μ3 b=some g->¬ F g:=λb g hl hg hF=>by
   rcases hcase b with ⟨j,s,hs,rfl⟩ | hb
   ·rw [hm3 j s hs] at hg
    exact hp2.apart j g (hlive2 j s hs) hg (.inl hF)
   ·obtain ⟨_,k2,_,k4⟩:=hold b hb hl
    exact hp.apart b g k2 (by rw [<- k4];exact hg) hF
  have hapart2:∀ b g,H' b≠.dead->μ3 b=some g->¬ (tabsOf P).out g:=λb g hl hg hF=>by
   rcases hcase b with ⟨j,s,hs,rfl⟩ | hb
   ·rw [hm3 j s hs] at hg
    exact hp2.tapart j g (hlive2 j s hs) hg hF
   ·obtain ⟨_,k2,_,k4⟩:=hold b hb hl
    exact hp.tapart b g k2 (by rw [<- k4];exact hg) hF
  have himold:∀ j s b g,kindIn o.oblks j=some s->μ2 j=some g->(∀ j s,kindIn o.oblks j=some s->ρ j≠b)->b∉kl->S.H b≠.dead->μ b=some g->False:=λj s b g hs hg hb hbk hl hg'=>by
   have hlt:=hp.lt b g hl hg'
   rcases hnew g ⟨j,hlive2 j s hs,hg⟩ with ⟨j1,h1,h2⟩ | h1
   ·have h3:=hf2 j1 h1
    unfold From at h3
    unfold muB at h2
    cases hf:findB B.m j1 with
    | none=>simp [hf] at h2
    | some x =>
     cases x with
     | none=>simp [hf] at h2
     | some b' =>
      simp only [hf] at h2 h3
      have:=hp.inj b b' g hl h3.1 hg' h2
      subst this
      exact hunbound b hb hbk j1 (hkey j1 h1) hf
   ·omega
  have hhp:Hp F μ3 H' (S.nx+(o.blks.length+o.oblks.length)) w':=by
   refine ⟨λb=>?_,λb g hl hg=>?_,λb b' g hl hl' hg hg'=>?_,λb hb=>?_,hapart,λg hg=>Nat.lt_of_lt_of_le (hp.flt g hg) hchg.size,hp2.tab,hapart2⟩
   ·rcases hcase b with ⟨j,s,hs,rfl⟩ | hb
    ·have hB2:=hp2.blk j
     obtain ⟨x,hx⟩:=unBlks_some o.oblks rr.2 j s hs
     rw [hat j s hs]
     rw [hx] at hB2 ⊢
     have hmem:=kindIn_mem hs
     have hs2:=foblks _ hmem
     cases s with
     | vars cs =>
      simp only [unB,RelB,renB] at hB2 ⊢
      rw [hm3 j _ hs]
      rcases hB2 with hB2 | ⟨g,vs,h1,h2,h3,h4⟩
      ·exact .inl hB2
      refine .inr ⟨g,vs,h1,?_,h3,h4⟩
      exact renL_ok hren cs x vs (λhh=>hsl (by rw [hasSlB_vars hmem hh];simp)) (by simpa [bshOK] using hs2.1.2) h2
     | data t =>
      simp only [unB,RelB,renB] at hB2 ⊢
      rw [hm3 j _ hs]
      rcases hB2 with h1 | ⟨g,h1,h2,h3⟩
      ·exact .inl h1
      ·refine .inr ⟨g,h1,h2,λi hi=>?_⟩
       obtain ⟨es,e1,e2,e3⟩:=h3 i hi
       exact ⟨es,e1,e2,RelD_to (λhh=>hsl (by rw [hasSlB_data hmem hh];simp)) e3⟩
     | iter =>
      simp only [unB,RelB,renB] at hB2 ⊢
      rw [hm3 j _ hs]
      exact hB2
     | mapd kt vt ag =>
      simp only [unB,RelB,renB] at hB2 ⊢
      rw [hm3 j _ hs]
      rcases hB2 with hB2 | ⟨g,es,c,h1,h2,h3,h4⟩
      ·exact .inl hB2
      refine .inr ⟨g,es,c,h1,h2,h3,h4.1,λi a b=>?_⟩
      obtain ⟨r1,cs,r2,r3⟩:=h4.2 i a b
      exact ⟨RelD_to (λhh=>hsl (by rw [hasSlB_map hmem (by rw [hh];simp)];simp)) r1,cs,RelD_to (λhh=>hsl (by rw [hasSlB_map hmem (by rw [hh];simp)];simp)) r2,r3⟩
    ·by_cases hbk:b∈kl
     ·rw [hoff b hb,if_pos hbk];simp [RelB]
     ·have hH:H' b=kb kl (S.H b):=by rw [hoff b hb,if_neg hbk]
      rw [hH]
      have hB:=hp.blk b
      cases hSb:S.H b with
      | dead=>rw [kb_kind.1 rfl];simp [RelB]
      | vars cs =>
       have hlb:S.H b≠.dead:=by simp [hSb]
       simp only [hSb,RelB] at hB
       have hkb:kb kl (.vars cs)=.vars (kL kl cs):=by cases kl <;> rfl
       rw [hkb]
       simp only [RelB]
       rw [hm3' b hb]
       rcases hB with hB | ⟨g,vs,h1,h2,h3,h4⟩
       ·exact .inl hB
       have hsame:=hkept b hb hbk hlb g h1
       exact .inr ⟨g,vs,h1,RelVs_kL hk hN hcompat _ _ h2,rowAt_of_heap hsame h3,room_of_heap' (λ_=>hsame) h4⟩
      | data t l =>
       have hlb:S.H b≠.dead:=by simp [hSb]
       simp only [hSb,RelB] at hB
       rw [kb_kind.2.2.2 t l rfl]
       simp only [RelB]
       rw [hm3' b hb]
       rcases hB with h1 | ⟨g,h1,h2,h3⟩
       ·exact .inl h1
       ·have hsame:=hkept b hb hbk hlb g h1
        refine .inr ⟨g,h1,room_of_heap' (λ_=>hsame) h2,λi hi=>?_⟩
        obtain ⟨es,e1,e2,e3⟩:=h3 i hi
        exact ⟨es,e1,rowAt_of_heap hsame e2,e3.keep hk hN⟩
      | iter s k =>
       have hlb:S.H b≠.dead:=by simp [hSb]
       simp only [hSb,RelB] at hB
       obtain ⟨g,h1,h2⟩:=hB
       have hsame:=hkept b hb hbk hlb g h1
       have hkb:kb kl (.iter s k)=.iter s k:=by cases kl <;> rfl
       rw [hkb]
       simp only [RelB]
       exact ⟨g,by rw [hm3' b hb];exact h1,by rw [hsame];exact h2⟩
      | mapd kt vt ag l =>
       have hlb:S.H b≠.dead:=by simp [hSb]
       simp only [hSb,RelB] at hB
       have hkb:kb kl (.mapd kt vt ag l)=.mapd kt vt ag l:=by cases kl <;> rfl
       rw [hkb]
       simp only [RelB]
       rw [hm3' b hb]
       rcases hB with hB | ⟨g,es,c,h1,h2,h3,h4⟩
       ·exact .inl hB
       have hsame:=hkept b hb hbk hlb g h1
       exact .inr ⟨g,es,c,h1,by rw [hsame];exact h2,h3,h4.keep hk hN⟩
   ·rcases hcase b with ⟨j,s,hs,rfl⟩ | hb
    ·rw [hm3 j s hs] at hg
     exact hp2.lt j g (hlive2 j s hs) hg
    ·obtain ⟨_,k2,_,k4⟩:=hold b hb hl
     exact Nat.lt_of_lt_of_le (hp.lt b g k2 (by rw [<- k4];exact hg)) hchg.size
   ·rcases hcase b with ⟨j,s,hs,rfl⟩ | hb <;> rcases hcase b' with ⟨j',s',hs',rfl⟩ | hb'
    ·rw [hm3 j s hs] at hg
     rw [hm3 j' s' hs'] at hg'
     rw [hp2.inj j j' g (hlive2 j s hs) (hlive2 j' s' hs') hg hg']
    ·rw [hm3 j s hs] at hg
     obtain ⟨k1,k2,_,k4⟩:=hold b' hb' hl'
     exact (himold j s b' g hs hg hb' k1 k2 (by rw [<- k4];exact hg')).elim
    ·rw [hm3 j' s' hs'] at hg'
     obtain ⟨k1,k2,_,k4⟩:=hold b hb hl
     exact (himold j' s' b g hs' hg' hb k1 k2 (by rw [<- k4];exact hg)).elim
    ·obtain ⟨_,k2,_,k4⟩:=hold b hb hl
     obtain ⟨_,l2,_,l4⟩:=hold b' hb' hl'
     exact hp.inj b b' g k2 l2 (by rw [<- k4];exact hg) (by rw [<- l4];exact hg')
   ·have hb':∀ j s,kindIn o.oblks j=some s->ρ j≠b:=λj s hs he=>by
     have h1:j<o.blks.length+o.oblks.length:=Nat.le_of_ble_eq_true (foblks _ (kindIn_mem hs)).1.1
     rcases hρc j with ⟨h2,b',h3,h4⟩ | h2
     ·have:=hbl j h2 b' h3;omega
     ·omega
    rw [hoff b hb']
    split
    ·rfl
    ·exact kb_kind.1 (hp.dead b (by omega))
  have hpl:Pl F μ S.H S.nx w kl μ3 H' (S.nx+(o.blks.length+o.oblks.length)) w':=by
   refine ⟨⟨⟨hchg.size,λg hg hn=>hchg.keep g hg λht=>hn (htrk1 g ht)⟩,hchg.os,hchg.tape,hchg.output⟩,λg hg=>?_,by omega,λx v hx=>RelV_kv hk hN hcompat x v hx,λb hb ht=>?_⟩
   ·rcases htrk g hg with h1 | ⟨b,_,_,h1,h2⟩
    ·exact (hnew g h1).imp (htrk1 g) id
    ·exact .inl ⟨b,h1,h2⟩
   ·rcases hcase b with ⟨j,s,hs,hjb⟩ | hb'
    ·rcases hρc j with ⟨h1,b',h2,h3⟩ | h1
     ·rw [hjb] at h3
      subst h3
      rw [<- hjb,hat j s hs,tag_renB] at ht
      obtain ⟨h4,h5⟩:=hpin j h1 ht
      obtain ⟨_,_,_,_,hv0⟩:=hsrc j h1 b h2
      refine ⟨?_,?_⟩
      ·rw [<- hjb,hat j s hs,tag_renB,hjb,hv0 (by rw [h4];exact ht),h4]
      ·rw [<- hjb,hm3 j _ hs,h5]
       unfold muB
       rw [h2,hjb]
     ·omega
    ·obtain ⟨_,_,k3,k4⟩:=hold b hb' (λh=>ht (by rw [h];rfl))
     rw [k3,tag_kb]
     exact ⟨rfl,k4⟩
  refine ⟨_,_,μ3,kl,val,hee.ren,hK3,rfl,rfl,hhp,hpl,?_,λhnil=>?_⟩
  ·exact renV_ok hren o.out rr.1 val (λhh=>hsl (by rw [hh];rfl)) fout hv2
  ·refine ⟨hchg.size,λg hg _=>hchg.keep g hg λ⟨j,h1,_⟩=>?_⟩
   have:=hkey j h1
   rw [hnil] at this
   simp at this
end
end Go.Ev
namespace Go.Ev
open Go
section
variable {P:Program} {F:Frm (tabsOf P)} {μ:Nat->Option Nat} {w w':World} {α:Type} {r:α} {M:FuncId->Bool}
theorem strip_leaf:strip HT.leaf=.leaf:=rfl
theorem loopsIn_leaf:∀ (c:Code),loopsIn c .leaf=[]
 | .seq a b=>by simp [loopsIn,HT.fst,HT.snd,strip_leaf,loopsIn_leaf a,loopsIn_leaf b]
 | .cond _ a b=>by simp [loopsIn,HT.fst,HT.snd,strip_leaf,loopsIn_leaf a,loopsIn_leaf b]
 | .block _ a=>by simp [loopsIn,HT.fst,strip_leaf,loopsIn_leaf a]
 | .loop _=>rfl
 | .skip=>rfl
 | .exit _=>rfl
 | .ret=>rfl
 | .region _ _ _=>rfl
 | .label _=>rfl
 | .goto _=>rfl
 | .scope a=>by simp [loopsIn,HT.fst,strip_leaf,loopsIn_leaf a]
 | .rangeFunc _ _ _ _=>rfl
 | .refuse _=>rfl
def NvOK (P:Program) (f:FuncId) (g:List AV->Option AV):Prop :=
 ∀ args v,g args=some v->∀ w N μ H vals,RelVs w N μ H args vals->∃ val,RelV w N μ H v val/\∀ w1,(callFunc f vals.toArray).run P w1=.ok (.value val) w1
def PvOK (P:Program) (f:FuncId) (g:List AV->Option AV):Prop :=
 Enters P f/\∀ args v,g args=some v->∀ w N μ H vals,(tabsOf P).tab w->RelVs w N μ H args vals ->
  Calls P f vals.toArray w λe w'=>∃ val,e=.returned val/\(∀ w1 N1 μ1 H1,RelV w1 N1 μ1 H1 v val)/\RowKit.Below w.heap.size w w'
def YOK (P:Program) (f:FuncId) (g:List AV->Option AV):Prop:=NvOK P f g\/PvOK P f g
def ZOK (P:Program) (f:FuncId) (z:Deed):Prop :=
 Enters P f/\∀ (args:List AV) (S:St) (v:AV) (S':St),z args S=some (true,v,S')->∀ (F:Frm (tabsOf P)) μ w vals,Hp F μ S.H S.nx w->RelVs w (Not F μ S.H) μ S.H args vals ->
  Calls P f vals.toArray w λe w'=>∃ μ' kl val,e=.returned val/\S'.E=killsE kl S.E/\S'.kl=S.kl++kl/\Hp F μ' S'.H S'.nx w'/\Pl F μ S.H S.nx w kl μ' S'.H S'.nx w'/\RelV w' (Not F μ' S'.H) μ' S'.H v val
theorem callX_ok (hm:P.follows .mixedOrders=true) {X:FuncId->List AV->Option Orc} {B:FuncId->Option Bool} {Y:FuncId->Option (List AV->Option AV)} {Z:FuncId->Option Deed} {I:FuncId->Bool} (hX:∀ f args o,X f args=some o->o.OK P f) (hB:∀ f args o,X f args=some o->∃ b,B f=some b/\(b=true->o.blks=[]))
  (hBY:∀ f b,B f=none->b∈Y f->YOK P f b) (hY:∀ f g,Y f=some g->B f=none) (hZ:∀ f z,Z f=some z->ZOK P f z/\B f=none/\Y f=none) (hI:∀ f,I f=true->Enters P f/\B f=none/\Y f=none):∀ d,CallOK P (callX P X B Y Z I d) (mild B Y)
 | 0=>λf args S α K r h=>by cases h
 | d+1=>λf args S α K r h F μ w vals hp hargs=>by
  simp only [callX] at h
  cases hXf:X f args with
  | some o =>
   simp only [hXf] at h
   have ho:=hX f args o hXf
   refine .inl ⟨λw1=>ho.enters _ _,(o.call_ok ho h hp hargs).mono λe w' ⟨v,S',μ',kl,val,h1,h2,h3,h4,h5,h6,h7,h8⟩=>⟨v,S',μ',kl,val,h1,h2,h3,h4,h5,h6,h7,λhM=>h8 ?_⟩⟩
   obtain ⟨b,hb1,hb2⟩:=hB f args o hXf
   simp only [mild,hb1] at hM
   exact hb2 hM
  | none =>
   simp only [hXf] at h
   cases hYf:Y f with
   | some g =>
    simp only [hYf] at h
    cases hg:g args with
    | none=>simp [hg] at h
    | some v =>
     simp only [hg] at h
     obtain ⟨hnp,h⟩:=cond_some h
     rcases hBY f g (hY f g hYf) hYf with hY | ⟨hen,hpv⟩
     ·obtain ⟨val,h1,h2⟩:=hY args v hg w _ _ _ vals hargs
      exact .inr ⟨v,val,hnp,h,h1,h2⟩
     ·refine .inl ⟨λw1=>hen _ _,(hpv args v hg w _ _ _ vals hp.tab hargs).mono λe w' ⟨val,h1,h2,bel⟩=>?_⟩
      exact ⟨v,S,μ,[],val,(EndR.ret hnp).2 h1,h,rfl,by simp,hp.keep ⟨bel.size,λg hg _=>bel.block g hg⟩ λg ⟨b,hb,hg⟩=>bel.block g (hp.lt b g hb hg),
       Pl.keep hp ⟨⟨bel.size,λg hg _=>bel.block g hg⟩,bel.os,bel.tape,bel.output⟩,h2 _ _ _ _,λ_=>⟨bel.size,λg hg _=>bel.block g hg⟩⟩
   | none =>
    simp only [hYf] at h
    cases hZf:Z f with
    | some z =>
     simp only [hZf] at h
     obtain ⟨⟨hen,hz⟩,hb1,hb2⟩:=hZ f z hZf
     cases hza:z args S with
     | none=>simp [hza] at h
     | some q =>
      obtain ⟨side,v,S'⟩:=q
      simp only [hza] at h
      obtain ⟨hs,hK⟩:=need_some h
      subst hs
      obtain ⟨hnp,hK⟩:=cond_some hK
      refine .inl ⟨λw1=>hen _ _,(hz args S v S' hza F μ w vals hp hargs).mono λe w' ⟨μ',kl,val,h1,h2,h3,h4,h5,h6⟩=>⟨v,S',μ',kl,val,(EndR.ret hnp).2 h1,hK,h2,h3,h4,h5,h6,λhM=>?_⟩⟩
      simp [mild,hb1,hb2] at hM
    | none =>
    simp only [hZf] at h
    cases hIf:I f with
    | false=>simp [hIf] at h
    | true =>
     cases hfn:P.funcs[f]? with
     | none=>simp [hIf,hfn] at h
     | some fn =>
      simp only [hIf,hfn] at h
      obtain ⟨hI1,hI2,hI3⟩:=hI f hIf
      refine .inl ⟨λw1=>hI1 _ _,?_⟩
      refine (evFn_ok hm (callX_ok hm hX hB hBY hY hZ hI d) hfn (h:=.leaf) (λc _ x hx=>by rw [strip_leaf,loopsIn_leaf] at hx;cases hx) h hp hargs (Nat.zero_le _)).mono ?_
      intro e w' ⟨v,S',μ',a,a',val,h1,h2,h3,h4⟩
      obtain ⟨kl,k1,k2⟩:=h4.pl rfl
      have k3:S'.kl=kl:=by simpa [inSt] using k1
      refine ⟨v,_,μ',kl,val,h1,h2,by simp only;rw [k3],by simp only;rw [k3],h4.rg.hp,k2,h3,λhM=>?_⟩
      simp [mild,hI2,hI3] at hM
theorem packV_np {H:Nat->Blk}:∀ (v:VSh) (x:AV) (B:Bd) (K:v.den->Bd->Option α),noPan x=true->packV H v x B K=some r->∀ p:v.den,noPan (unV v p)=true:=λv x B K _ h p=>by
 cases v
 case may v1 v2=>cases x <;> simp [packV] at h
 all_goals rfl
theorem packR_ok {pin:Nat} {bl:List (Nat×BSh)} {H:Nat->Blk} {nx:Nat} (hp:Hp F μ H nx w) (v:VSh) (x:AV) (B:Bd) (K:v.den->Bd->Option α) (val:Value) (e:Ending) (he:EndR e x val) (hx:RelV w (Not F μ H) μ H x val) (h:packR H v x B K=some r) :
  ∃ p B',K p B'=some r/\Ext B B'/\EndR e (unV v p) val/\∀ (F':Frm (tabsOf P)) Bf H',Ext B' Bf->Fin F F' μ pin H bl Bf H'->refsOK bl v=true->RelV w (Not F' (muB μ Bf) H') (muB μ Bf) H' (unV v p) val:=by
 have plain:noPan x=true->∀ (v:VSh) (K:v.den->Bd->Option α),packV H v x B K=some r->∃ p B',K p B'=some r/\Ext B B'/\EndR e (unV v p) val/\∀ (F':Frm (tabsOf P)) Bf H',Ext B' Bf->Fin F F' μ pin H bl Bf H'->refsOK bl v=true->RelV w (Not F' (muB μ Bf) H') (muB μ Bf) H' (unV v p) val:=λhn v K h=>by
  obtain ⟨p,B',h1,h2,h3⟩:=packV_ok (pin:=pin) (bl:=bl) hp v x B K val hx h
  exact ⟨p,B',h1,h2,(EndR.ret (packV_np v x B K hn h p)).2 ((EndR.ret hn).1 he),h3⟩
 cases hn:noPan x with
 | true =>
  cases v
  case may v1 v2 =>
   have h':packV H v1 x B (λp B=>K (Sum.inl p) B)=some r:=by
    cases x <;> first | exact h | (simp [noPan] at hn)
   obtain ⟨p,B',h1,h2,h3,h4⟩:=plain hn v1 _ h'
   refine ⟨Sum.inl p,B',h1,h2,h3,λF' Bf H' g1 g2 g3=>?_⟩
   simp only [refsOK,bAt] at g3
   exact h4 F' Bf H' g1 g2 g3.1
  all_goals
   refine plain hn _ K ?_
   cases x <;> first | exact h | (simp [noPan] at hn)
 | false =>
  cases x <;> simp only [noPan,Bool.true_eq_false] at hn
  rename_i y
  cases v
  case may v1 v2 =>
   have h':packV H v2 y B (λq B=>K (Sum.inr q) B)=some r:=h
   simp only [RelV] at hx
   obtain ⟨p,B',h1,h2,h3⟩:=packV_ok (pin:=pin) (bl:=bl) hp v2 y B _ val hx h'
   refine ⟨Sum.inr p,B',h1,h2,he,λF' Bf H' g1 g2 g3=>?_⟩
   simp only [refsOK,bAt] at g3
   have:=h3 F' Bf H' g1 g2 g3.2
   exact this
  all_goals simp [packR] at h
theorem evTop_ok (hm:P.follows .mixedOrders=true) {C:Calling} (hC:CallOK P C M) {f:FuncId} {fn:Func} (hf:P.funcs[f]?=some fn) (hen:Enters P f) {h:HT} {o:Orc} (hfit:o.fits=true)
  (hl:∀ c,fn.body=some c->∀ x∈loopsIn c (strip h),x.OK P C M o.blks.length fn.ntmps) (hrun:∀ p r,o.run p=some r->evTop P C M fn h o p=some r):o.OK P f:=by
 refine ⟨hen,hfit,λp r hr F μ w vals hp hargs=>?_⟩
 have he:=hrun p r hr
 unfold evTop at he
 refine (evFn_ok hm hC hf hl he hp hargs (Nat.le_refl _)).mono λe w' ⟨v,S',μ',a,a',val,h1,h2,h3,h4⟩=>?_
 have hfits:=hfit
 simp only [Orc.fits,bAt,List.all_eq_true] at hfits
 obtain ⟨⟨⟨⟨⟨fnd,frange⟩,fargs⟩,fout⟩,fblks⟩,foblks⟩:=hfits
 have hp':=h4.rg.hp
 obtain ⟨x,B1,k1,k2,hend,k3⟩:=packR_ok (pin:=o.blks.length) (bl:=o.oblks) hp' o.out v _ _ val e h1 h3 h2
 obtain ⟨y,B,k4,k5,k6,k7,k8,k9⟩:=packBlks_ok (bl:=o.oblks) hp' o.oblks k1
 obtain ⟨hB,k10⟩:=cond_some k4
 simp only [oSi] at k10
 have hfin:Fin F F μ' o.blks.length S'.H o.oblks B (unBlks o.oblks y):=⟨hB,k6,k7,λ_ h=>.inl h,λb g _ hl hm=>hp'.apart b g hl hm⟩
 have hhp:Hp F (muB μ' B) (unBlks o.oblks y) (o.blks.length+o.oblks.length) w':=by
  refine hfin.hp hp' (λj=>k9 F B _ (Ext.refl B) hfin (List.all_eq_true.2 λx hx=>(foblks x hx).1.2) j) (λj hj=>?_) (λ_ b g _ _ hl hm=>hp'.apart b g hl hm) hp'.flt
  by_cases hd:unBlks o.oblks y j=.dead
  ·exact hd
  ·obtain ⟨x,hx,rfl⟩:=k8 j hd
   have:=Nat.le_of_ble_eq_true (foblks x hx).1.1
   omega
 have hv:=k3 F B _ k5 hfin fout
 subst k10
 refine ⟨val,muB μ' B,_,hend,hhp,hv,h4.chg,λg hg=>h4.new g (hfin.trk hg),λj hj=>(hfin.pinned j hj).trans (h4.pinned j hj)⟩
def noF {T:Tb}:Frm T:=⟨λ_=>False⟩
theorem told {f:FuncId} {A:VSh} {run:A.den×blksDen []->Option (VSh.den .b×blksDen [])} (ho:Orc.OK P f ⟨A,[],.b,[],run⟩) {p:A.den} (hrun:run (p,())=some (true,())) {vals:List Value} (ht:(tabsOf P).tab w)
  (hargs:RelVs w (Not (noF:Frm (tabsOf P)) (λ_=>none) λ_=>.dead) (λ_=>none) (λ_=>.dead) (unL A p) vals) :
  Calls P f vals.toArray w λe w'=>e=.returned (.bool true)/\RowKit.Below w.heap.size w w':=by
 have hp:Hp (noF:Frm (tabsOf P)) (λ_=>none) (unBlks [] ()) 0 w:=⟨λb=>by simp [unBlks,RelB],λb g h=>absurd rfl h,λb b' g h=>absurd rfl h,λ_ _=>rfl,λb g h=>absurd rfl h,λg h=>h.elim,ht,λb g h=>absurd rfl h⟩
 refine (ho.run (p,()) _ hrun noF (λ_=>none) w vals hp hargs).mono λe w' ⟨val,μ',nx',h1,h2,h3,h4,_⟩=>⟨?_,h4.os,h4.tape,h4.output,h4.size,λk hk=>h4.keep k hk λ⟨j,h,_⟩=>h rfl⟩
 have h1:e=.returned val:=h1
 simp only [unV,RelV] at h3
 rw [h1,h3]
def FUEL:Nat:=9223372036854775808
def loopOf {σ τ:Type} (body:σ->Option (σ⊕τ)) (p:σ):Option τ:=iter body FUEL p
theorem LoopRec.of {C:Calling} {pin n:Nat} {c:Code} {h:HT} {sh:Shape} {o:Outs} {run:sh.den->Option (outsDen o)} {body:sh.den->Option (sh.den⊕outsDen o)} (hrun:run=loopOf body)
  (hb:∀ p,round P C M pin n c h sh o p=body p):LoopRec.OK P C M pin n ⟨c,h,sh,o,run⟩:=λp r hr=>by
 have:round P C M pin n c h sh o=body:=funext hb
 simp only [hrun,loopOf] at hr
 exact ⟨FUEL,by rw [this];exact hr⟩
end
def lookX:List (FuncId×Orc)->FuncId->List AV->Option Orc
 | [],_,_=>none
 | (g,o)::r,f,args=>cond (Nat.beq g f&&fitsFn o.args args) (some o) (lookX r f args)
def lookM:List (FuncId×Orc)->FuncId->Option Bool
 | [],_=>none
 | (g,o)::r,f=>cond (Nat.beq g f) (some ((match o.blks with
  | []=>true
  | _=>false)&&(match lookM r f with
  | some b=>b
  | none=>true))) (lookM r f)
def AllX (P:Program):List (FuncId×Orc)->Prop
 | []=>True
 | (g,o)::r=>o.OK P g/\AllX P r
theorem lookX_ok {P:Program}:∀ {l:List (FuncId×Orc)},AllX P l->∀ f args o,lookX l f args=some o->o.OK P f
 | [],_,f,args,o,h=>by cases h
 | (g,o')::r,h,f,args,o,ho=>by
  simp only [lookX] at ho
  cases hb:Nat.beq g f&&fitsFn o'.args args with
  | true =>
   simp only [hb,cTt,oSi] at ho
   subst ho
   simp only [bAt] at hb
   rw [<- Nat.eq_of_beq_eq_true hb.1]
   exact h.1
  | false =>
   simp only [hb,cFf] at ho
   exact lookX_ok h.2 f args o ho
theorem lookM_ok:∀ {l:List (FuncId×Orc)} {f:FuncId} {args:List AV} {o:Orc},lookX l f args=some o->∃ b,lookM l f=some b/\(b=true->o.blks=[])
 | [],f,args,o,h=>by cases h
 | (g,o')::r,f,args,o,h=>by
  simp only [lookX] at h
  simp only [lookM]
  cases hg:Nat.beq g f with
  | false =>
   simp only [hg,Bool.false_and,cFf] at h ⊢
   exact lookM_ok h
  | true =>
   refine ⟨_,rfl,λhb=>?_⟩
   simp only [bAt] at hb
   cases hf:fitsFn o'.args args with
   | true =>
    simp only [hg,hf,bAs,cTt,oSi] at h
    subst h
    cases hbl:o'.blks with
    | nil=>rfl
    | cons _ _=>rw [hbl] at hb;simp at hb
   | false =>
    simp only [hg,hf,Bool.and_false,cFf] at h
    obtain ⟨b,h1,h2⟩:=lookM_ok h
    rw [h1] at hb
    exact h2 hb.2
def lookY:List (FuncId×(List AV->Option AV))->FuncId->Option (List AV->Option AV)
 | [],_=>none
 | (g,o)::r,f=>cond (Nat.beq g f) (some o) (lookY r f)
def AllY (P:Program):List (FuncId×(List AV->Option AV))->Prop
 | []=>True
 | (g,o)::r=>YOK P g o/\AllY P r
theorem lookY_ok {P:Program}:∀ {l:List (FuncId×(List AV->Option AV))},AllY P l->∀ f o,lookY l f=some o->YOK P f o
 | [],_,f,o,h=>by cases h
 | (g,o')::r,h,f,o,ho=>by
  simp only [lookY] at ho
  cases hb:Nat.beq g f with
  | true =>
   simp only [hb,cTt,oSi] at ho
   subst ho
   rw [<- Nat.eq_of_beq_eq_true hb]
   exact h.1
  | false =>
   simp only [hb,cFf] at ho
   exact lookY_ok h.2 f o ho
theorem lookY_mem:∀ {l:List (FuncId×(List AV->Option AV))} {f:FuncId} {o},lookY l f=some o->f∈l.map (·.1)
 | [],f,o,h=>by cases h
 | (g,o')::r,f,o,ho=>by
  simp only [lookY] at ho
  cases hb:Nat.beq g f with
  | true=>rw [Nat.eq_of_beq_eq_true hb];simp
  | false =>
   simp only [hb,cFf] at ho
   exact List.mem_cons_of_mem _ (lookY_mem ho)
def lookZ:List (FuncId×Deed)->FuncId->Option Deed
 | [],_=>none
 | (g,o)::r,f=>cond (Nat.beq g f) (some o) (lookZ r f)
def AllZ (P:Program):List (FuncId×Deed)->Prop
 | []=>True
 | (g,o)::r=>ZOK P g o/\AllZ P r
theorem lookZ_ok {P:Program}:∀ {l:List (FuncId×Deed)},AllZ P l->∀ f o,lookZ l f=some o->ZOK P f o/\f∈l.map (·.1)
 | [],_,f,o,h=>by cases h
 | (g,o')::r,h,f,o,ho=>by
  simp only [lookZ] at ho
  cases hb:Nat.beq g f with
  | true =>
   simp only [hb,cTt,oSi] at ho
   subst ho
   rw [<- Nat.eq_of_beq_eq_true hb]
   exact ⟨h.1,by simp⟩
  | false =>
   simp only [hb,cFf] at ho
   exact ⟨(lookZ_ok h.2 f o ho).1,List.mem_cons_of_mem _ (lookZ_ok h.2 f o ho).2⟩
def AllI (P:Program):List FuncId->Prop
 | []=>True
 | g::r=>Enters P g/\AllI P r
theorem inL_ok {P:Program}:∀ {l:List FuncId},AllI P l->∀ f,hasN l f=true->Enters P f:=by
 intro l
 induction l with
 | nil=>intro _ f h;cases h
 | cons g r ih =>
  intro h f hf
  have hm:=hasN_mem.1 hf
  rcases List.mem_cons.1 hm with rfl | hm
  ·exact h.1
  ·exact ih h.2 f (hasN_mem.2 hm)
def isNn {β:Type}:Option β->Bool
 | none=>true
 | some _=>false
theorem isNn_eq {β:Type} {x:Option β} (h:isNn x=true):x=none:=by
 cases x with
 | none=>rfl
 | some _=>cases h
def apartL (X:List (FuncId×Orc)) (Y:List (FuncId×(List AV->Option AV))) (Z:List (FuncId×Deed)) (I:List FuncId):Bool :=
 (Y.all λy=>isNn (lookM X y.1))&&(Z.all λz=>isNn (lookM X z.1)&&isNn (lookY Y z.1))&&(I.all λi=>isNn (lookM X i)&&isNn (lookY Y i))
def bodyOf (fn:Func):Code :=
 match fn.body with
 | some c=>c
 | none=>.skip
def subc:Code->List Bool->Code
 | .seq a b,x::r=>subc (cond x b a) r
 | .cond _ a b,x::r=>subc (cond x b a) r
 | .block _ c,_::r=>subc c r
 | .scope c,_::r=>subc c r
 | .loop c,_::r=>subc c r
 | c,_=>c
def AllL (P:Program) (C:Calling) (M:FuncId->Bool) (pin n:Nat):List LoopRec->Prop
 | []=>True
 | l::r=>l.OK P C M pin n/\AllL P C M pin n r
theorem AllL.mem {P:Program} {C:Calling} {M:FuncId->Bool} {pin n:Nat}:∀ {l:List LoopRec},AllL P C M pin n l->∀ x∈l,x.OK P C M pin n
 | _::_,h,x,hx=>by
  rcases List.mem_cons.1 hx with rfl | hx
  ·exact h.1
  ·exact AllL.mem h.2 x hx
theorem ok_of {P:Program} (hm:P.follows .mixedOrders=true) {X:List (FuncId×Orc)} {Y:List (FuncId×(List AV->Option AV))} {Z:List (FuncId×Deed)} {I:List FuncId} {d:Nat} (hX:AllX P X) (hY:AllY P Y) (hZ:AllZ P Z) (hI:AllI P I) (hap:apartL X Y Z I=true) {f:FuncId} {fn:Func} (hf:P.funcs[f]?=some fn) (hen:Enters P f)
  {c:Code} (hc:fn.body=some c) {h:HT} {o:Orc} (hfit:o.fits=true) {ls:List LoopRec} (hls:loopsIn c (strip h)=ls) (hl:AllL P (callX P (lookX X) (lookM X) (lookY Y) (lookZ Z) (hasN I) d) (mild (lookM X) (lookY Y)) o.blks.length fn.ntmps ls)
  (hrun:∀ p,evTop P (callX P (lookX X) (lookM X) (lookY Y) (lookZ Z) (hasN I) d) (mild (lookM X) (lookY Y)) fn h o p=o.run p):o.OK P f:=by
 simp only [apartL,bAt,List.all_eq_true] at hap
 obtain ⟨⟨a1,a2⟩,a3⟩:=hap
 exact evTop_ok hm (callX_ok hm (lookX_ok hX) (λf args o h=>lookM_ok h) (λf b _ hb=>lookY_ok hY f b hb) (λf g h=>by
   obtain ⟨y,hy,rfl⟩:=List.mem_map.1 (lookY_mem h)
   exact isNn_eq (a1 y hy)) (λf z h=>by
   obtain ⟨h1,h2⟩:=lookZ_ok hZ f z h
   obtain ⟨y,hy,rfl⟩:=List.mem_map.1 h2
   exact ⟨h1,isNn_eq (a2 y hy).1,isNn_eq (a2 y hy).2⟩) (λf h=>⟨inL_ok hI f h,isNn_eq (a3 f (hasN_mem.1 h)).1,isNn_eq (a3 f (hasN_mem.1 h)).2⟩) d) hf hen hfit (λc' hc' x hx=>by
  rw [hc] at hc'
  cases hc'
  rw [hls] at hx
  exact hl.mem x hx) λp r h=>(hrun p).trans h
end Go.Ev
namespace Go.Ev
open Go
theorem iter_ind {σ τ:Type} {f:σ->Option (σ⊕τ)} {I:σ->Prop} {μ:σ->Nat} {Q:τ->Prop}
  (step:∀ p,I p->(∃ q,f p=some (.inl q)/\I q/\μ q<μ p)\/∃ r,f p=some (.inr r)/\Q r):∀ (n:Nat) (p:σ),I p->μ p<n->∃ r,iter f n p=some r/\Q r
 | 0,_,_,h=>absurd h (Nat.not_lt_zero _)
 | n+1,p,hI,h=>by
  simp only [iter]
  rcases step p hI with ⟨q,h1,h2,h3⟩ | ⟨r,h1,h2⟩
  ·rw [h1]
   exact iter_ind step n q h2 (by omega)
  ·rw [h1]
   exact ⟨r,rfl,h2⟩
theorem loop_ind {σ τ:Type} {f:σ->Option (σ⊕τ)} (I:σ->Prop) (μ:σ->Nat) (Q:τ->Prop)
  (step:∀ p,I p->(∃ q,f p=some (.inl q)/\I q/\μ q<μ p)\/∃ r,f p=some (.inr r)/\Q r) {p:σ} (hI:I p) (hμ:μ p<FUEL):∃ r,loopOf f p=some r/\Q r :=
 iter_ind step FUEL p hI hμ
theorem FUEL_big:(9223372036854775807:Nat)/2<FUEL:=by unfold FUEL;omega
end Go.Ev
namespace Go.Ev
open Go Go.WideShapes
def fitD:(t:Ty)->t.den->Prop
 | .int k,n=>(Lit.int k n).wf=true
 | .u8,_=>True
 | .bool,_=>True
 | .str,l=>List.length l<=maxLen
 | .sl t,l=>List.length l<=maxLen/\∀ x∈l,fitD t x
 | .unit,_=>True
 | .pair a b,p=>fitD a p.1/\fitD b p.2
def layF (P:Program) (q:TypeId->Bool):List Field->Nat->Nat->Bool
 | [],off,n=>Nat.beq off n
 | f::r,off,n=>Nat.beq f.offset off&&q f.type&&layF P q r (off+P.cellsOf f.type) n
def layB (P:Program):Nat->TypeId->Bool
 | 0,_=>false
 | d+1,t=>match P.underlying t with
  | some (.int _)=>true
  | some .bool=>true
  | some .string=>true
  | some (.slice e)=>layB P d e&&(match tyOf P d e with
    | some y=>Nat.beq (P.cellsOf e) y.size&&Nat.ble 1 y.size
    | none=>false)
  | some (.struct fs)=>layF P (layB P d) fs.toList 0 (P.cellsOf t)
  | _=>false
section
variable {P:Program} {w:World} {H:Type} {enc:TypeId×Value->H} {base:Nat} {spare:Nat->Bool} {held:Bool}
theorem pick_list {β:Type} {Q:Nat->β->Prop}:∀ (n:Nat),(∀ i,i<n->∃ x,Q i x)->∃ l:List β,l.length=n/\∀ i,(h:i<l.length)->Q i l[i]
 | 0,_=>⟨[],rfl,λi h=>by simp at h⟩
 | n+1,h=>by
  obtain ⟨l,h1,h2⟩:=pick_list n λi hi=>h i (by omega)
  obtain ⟨x,hx⟩:=h n (by omega)
  refine ⟨l++[x],by simp [h1],λi hi=>?_⟩
  simp only [List.length_append,List.length_cons,List.length_nil] at hi
  rcases Nat.lt_or_ge i l.length with hlt | hge
  ·rw [List.getElem_append_left hlt];exact h2 i hlt
  ·have:i=n:=by omega
   subst this
   rw [List.getElem_append_right hge]
   simpa [h1] using hx
theorem cells_row {a:Addr} {n:Nat} {es:List Value} (hs:a.spot=none) (h:w.cells? base a n=some es):es.length=n/\rowAt w a.block a.off es:=by
 obtain ⟨_,h1,h2⟩:=World.cells?_some h
 refine ⟨h1,λi hi=>?_⟩
 have:=h2 i (by omega)
 obtain ⟨b,o,s⟩:=a
 simp only at hs
 subst hs
 rw [add_none] at this
 rw [this]
 simp [hi]
theorem noN {T:Tb} (g:Nat):¬ Not (noF:Frm T) (λ_=>none) (λ_=>.dead) g:=λh=>h.elim id λ⟨_,h,_⟩=>h rfl
theorem arg_one {t:TypeId} {r:Reach} {b:Nat} {v:Value} {x:AV} {N:Nat->Prop} {μ:Nat->Option Nat} {Hh:Nat->Blk} (hs:∀ fs,P.underlying t≠some (.struct fs)) (ha:∀ n e,P.underlying t≠some (.array n e)) (hv:Value.okWide P w r b t v)
  (h:RelVs w N μ Hh [x] v.cells.toList):RelV w N μ Hh x v:=by
 simp only [RelVs] at h
 obtain ⟨v1,vr,h1,h2,rfl⟩:=h
 have hne:∀ cs,v≠.agg cs:=λcs hc=>by
  subst hc
  unfold Value.okWide at hv
  cases hu:P.underlying t with
  | none=>simp [hu,Cell.okWide,Cell.ok] at hv
  | some u=>cases u <;> simp_all [Cell.okWide,Cell.ok]
 have hcells:v.cells.toList=[v]:=by cases v <;> first | rfl | exact absurd rfl (hne _)
 rw [hcells] at h1
 simp only [List.cons.injEq,and_true] at h1
 rw [h1]
 exact h2
theorem arg_struct {t:TypeId} {fs:Array Field} {r:Reach} {b:Nat} {v:Value} {cs:List AV} {N:Nat->Prop} {μ:Nat->Option Nat} {Hh:Nat->Blk} (ht:P.underlying t=some (.struct fs)) (hv:Value.okWide P w r b t v)
  (h:RelVs w N μ Hh cs v.cells.toList):RelV w N μ Hh (.agg cs) v:=by
 obtain ⟨vs,rfl,_⟩:=okWide_struct ht hv
 simp only [RelV]
 exact ⟨vs.toList,by simp,h⟩
end
end Go.Ev
namespace Go.Ev
open Go
section
variable {P:Program} {f:FuncId} {fn:Func}
end
end Go.Ev
namespace Go.Ev
open Go
def nvDecode:List AV->Option AV
 | [.s l]=>some (.tup [.i .i32 ((Lib.decodeGo ⟨l.toArray⟩).1:Nat),.i .i64 ((Lib.decodeGo ⟨l.toArray⟩).2:Nat)])
 | _=>none
theorem nvDecode_ok {P:Program} {f:FuncId} {g3 g4:Nat} (hen:Enters P f) (h3:globAt P "unicode/utf8.first"=some g3) (h4:globAt P "unicode/utf8.acceptRanges"=some g4)
  (hc:∀ s w,Lib.Utf8Tabs g3 g4 w->Calls P f #[.string s] w λe w'=>e=.returned (.tuple #[.int .i32 (Lib.decodeGo s).1,.int .i64 (Lib.decodeGo s).2])/\RowKit.Below w.heap.size w w'):YOK P f nvDecode:=by
 refine .inr ⟨hen,λargs v h w N μ H vals ht hr=>?_⟩
 unfold nvDecode at h
 split at h
 ·rename_i l
  simp only [oSi] at h
  subst h
  simp only [RelVs,RelV] at hr
  obtain ⟨_,_,rfl,rfl,rfl⟩:=hr
  refine (hc _ w (ht.1 g3 g4 h3 h4)).mono λe w' ⟨he,bel⟩=>⟨_,he,λw1 N1 μ1 H1=>?_,bel⟩
  simp only [RelV,RelVs]
  exact ⟨_,rfl,_,_,rfl,rfl,_,_,rfl,rfl,rfl⟩
 ·cases h
end Go.Ev
namespace Go.Ev
open Go Go.Proofs Go.Sort
def zContains:Deed:=λargs S=>match args with
 | [.s a,.s b]=>some (decide (a.length<4294967281),.b (Lib.contains a b),S)
 | _=>none
theorem zContains_ok {P:Program} {f:FuncId} {g:Nat} (hen:Enters P f) (hg:globAt P "internal/bytealg.MaxLen"=some g)
  (hc:∀ (s sub:ByteArray) (m:Int) (w:World),s.size<4294967281->w.cell? ⟨g,0,none⟩=some (.int .i64 m)->Calls P f #[.string s,.string sub] w λe w'=>e=.returned (.bool (Lib.contains s.data.toList sub.data.toList))/\w'=w):ZOK P f zContains:=by
 refine ⟨hen,λargs S v S' h F μ w vals hp hr=>?_⟩
 unfold zContains at h
 split at h
 ·rename_i a b
  simp only [oSi,Prod.mk.injEq,dTe] at h
  obtain ⟨h1,rfl,rfl⟩:=h
  simp only [RelVs,RelV] at hr
  obtain ⟨_,_,rfl,rfl,_,_,rfl,rfl,rfl⟩:=hr
  obtain ⟨m,hm⟩:=hp.tab.2 g hg
  refine (hc ⟨a.toArray⟩ ⟨b.toArray⟩ m w (by simpa [ByteArray.size] using h1) hm).mono λe w' ⟨he,hw⟩=>?_
  subst hw
  exact ⟨μ,[],_,he,rfl,by simp,hp,Pl.keep hp (Chg.refl _),by simp [RelV]⟩
 ·cases h
@[reducible] def P2:Ty:=.pair (.int .i64) (.pair (.int .i64) .unit)
def srt (cf:Int×Int×Unit->Int×Int×Unit->Int) (l:List (Int×Int×Unit)):List (Int×Int×Unit):=(pdq (ltOf cf) l.toArray 0 l.length (Lib.bitLen l.length) true true).toList
def zSort (g:FuncId) (cf:Int×Int×Unit->Int×Int×Unit->Int):Deed:=λargs S=>match args with
 | [.wh b,.fn g' []]=>match S.H b with
  | .data t l=>if h:t=P2 then cond (Nat.beq g' g) (some (decide (List.length l<4611686018427387904)&&!l.isEmpty,.tup [],⟨S.E,updH S.H b (.data P2 (srt cf (h ▸ l:List P2.den))),S.nx,S.kl⟩)) none else none
  | _=>none
 | _=>none
def enc2 (p:Int×Int×Unit):List Value:=[.int .i64 p.1,.int .i64 p.2.1]
theorem heap_putRow_other (enc:Value->Value) (w:World) (blk off:Nat) (d:Array Value) {k:Nat} (h:k≠blk):(putRow enc w blk off d).heap[k]?=w.heap[k]?:=by
 simp only [putRow,mapBlock,Array.getElem?_modify]
 rw [if_neg (λe=>h e.symm)]
theorem sort_core {P:Program} {f g:FuncId} {cf:Int×Int×Unit->Int×Int×Unit->Int} (hO:SWO (ltOf cf))
    (hg:∀ w x y,Calls P g #[.agg (enc2 x).toArray,.agg (enc2 y).toArray] w λe w'=>e=.returned (.int .i64 (cf x y))/\∃ q os',w'=grow (w.drewN q) os')
    (hc:∀ (blk cap:Nat) (d:Array (Int×Int×Unit)) (w:World),CmpLays P g #[] enc2 2 cf blk 0 d.size w->HoldsK enc2 2 w blk 0 d->blk<w.heap.size->d.size<4611686018427387904 ->
      Calls P f #[.slice (some ⟨blk,0,none⟩) d.size cap,.func (.func g) #[] #[]] w λe w'=>e=.returned (.tuple #[])/\∃ n os,w'=sortWorldK enc2 2 w blk 0 n (pdq (ltOf cf) d 0 d.size (Lib.bitLen d.size) true true) os)
    {S:St} {F:Frm (tabsOf P)} {μ:Nat->Option Nat} {w:World} (hp:Hp F μ S.H S.nx w) {b gb c:Nat} {l:List (Int×Int×Unit)} (hb:S.H b=.data P2 l) (hlt:l.length<4611686018427387904) (hm:μ b=some gb) (hcl:l.length<=c) (hroom:room w gb (c*2)) :
    Calls P f #[.slice (some ⟨gb,0,none⟩) l.length c,.func (.func g) #[] #[]] w λe w'=>∃ μ' kl val,e=.returned val/\S.E=killsE kl S.E/\S.kl=S.kl++kl/\Hp F μ' (updH S.H b (.data P2 (srt cf l))) S.nx w' /\
      Pl F μ S.H S.nx w kl μ' (updH S.H b (.data P2 (srt cf l))) S.nx w'/\RelV w' (Not F μ' (updH S.H b (.data P2 (srt cf l)))) μ' (updH S.H b (.data P2 (srt cf l))) (.tup []) val:=by
  have hlive:S.H b≠.dead:=by rw [hb];simp
  have hlt':=hp.lt b gb hlive hm
  have hrow:=hp.blk b
  simp only [hb,RelB] at hrow
  rcases hrow with ⟨hn,_⟩ | ⟨gb',hm',_,hrows⟩
  . rw [hm] at hn;cases hn
  . rw [hm] at hm'
    cases hm'
    have hsz2:P2.size=2:=rfl
    have lk:∀ x,(enc2 x).length=2:=λ_=>rfl
    have hH:HoldsK enc2 2 w gb 0 l.toArray:=λj hj=>by
      rw [size_flatK] at hj
      have hj':j<l.length*2:=by simpa using hj
      have hd:j/2<l.length:=by omega
      obtain ⟨es,e1,e2,e3⟩:=hrows (j/2) hd
      have hrm:=hroom j (by have:=Nat.mul_le_mul_right 2 hcl;omega)
      refine ⟨?_,by rw [Nat.zero_add];exact hrm.2⟩
      rw [get_flatK _ _ _ _ hj,Nat.zero_add]
      have hl:l.toArray[j/2]! = l[j/2]:=by simp [hd]
      rw [hl]
      have hes:es=enc2 l[j/2]:=by
        simp only [P2,RelD] at e3
        obtain ⟨xs,ys,rfl,rfl,zs,us,rfl,rfl,rfl⟩:=e3
        rfl
      subst hes
      have:=e2 (j % 2) (by rw [lk];omega)
      rw [hsz2,show j/2*2+j % 2=j by omega] at this
      rw [this]
      congr 1
      rw [getElem!_pos _ _ (by rw [lk];omega)]
      rfl
    have hlen:l.toArray.size=l.length:=by simp
    have:=hc gb c l.toArray w (λm os dk _ x y=>hg _ x y) hH hlt' (by rw [hlen];exact hlt)
    rw [hlen] at this
    refine this.mono λe w' ⟨he,n,os,hw⟩=>?_
    generalize hd':pdq (ltOf cf) l.toArray 0 l.length (Lib.bitLen l.length) true true=d' at hw
    have hsrt:srt cf l=d'.toList:=by unfold srt;rw [hd']
    have hperm:=(pdq_sorts (ltOf cf) hO l.toArray 0 l.length (Lib.bitLen l.length) true true (Nat.zero_le _) (by simp) (Or.inl rfl)).1
    rw [hd'] at hperm
    have hds:d'.size=l.length:=by have:=hperm.1;simpa using this
    have hl2:d'.toList.length=l.length:=by simpa using hds
    have hsize:(putRowK enc2 2 (Go.Sort.ahead w n) gb 0 d').heap.size=w.heap.size:=by simp [putRowK,putRow,mapBlock,Go.Sort.ahead]
    have hold:∀ k,k<w.heap.size->k≠gb->w'.heap[k]?=w.heap[k]?:=λk hk hne=>by
      rw [hw]
      unfold sortWorldK
      have:(grow (putRowK enc2 2 (Go.Sort.ahead w n) gb 0 d') os).heap[k]?=(putRowK enc2 2 (Go.Sort.ahead w n) gb 0 d').heap[k]?:=by
        simp only [grow]
        rw [Array.getElem?_append_left (by rw [hsize];exact hk)]
      rw [this]
      exact heap_putRow_other _ _ _ _ _ hne
    have hsz':w.heap.size<=w'.heap.size:=by rw [hw];unfold sortWorldK;rw [Go.Sort.size_grow,hsize];omega
    have hH':HoldsK enc2 2 w' gb 0 d':=by
      rw [hw]
      unfold sortWorldK
      exact holdsK_grow enc2 2 _ os gb 0 d' (by rw [hsize];exact hlt') (holdsK_putRowK enc2 2 _ gb 0 l.toArray d' (holdsK_ahead enc2 2 w n gb 0 _ hH) (by rw [hds];simp))
    have hroom':∀ m,room w gb m->room w' gb m:=λm hr k hk=>by
      obtain ⟨r1,r2⟩:=hr k hk
      have hcell:w'.frozen? ⟨gb,k,none⟩=w.frozen? ⟨gb,k,none⟩:=by
        rw [hw]
        unfold sortWorldK
        rw [Go.Sort.frozen?_grow _ _ _ (by rw [hsize];exact hlt')]
        exact frozen?_putRow _ _ _ _ _ _
      refine ⟨?_,by rw [hcell];exact r2⟩
      by_cases hkk:k<l.length*2
      . have:=hH' k (by rw [size_flatK,hds];exact hkk)
        rw [Nat.zero_add] at this
        rw [this.1];rfl
      . have:w'.cell? ⟨gb,k,none⟩=w.cell? ⟨gb,k,none⟩:=by
          rw [hw]
          unfold sortWorldK
          rw [Go.Sort.cell?_grow _ _ _ (by rw [hsize];exact hlt')]
          exact cell?_putRow_other _ _ _ _ _ _ (.inr (.inr (by rw [size_flatK,hds];simpa using hkk)))
        rw [this];exact r1
    have T:Turned F μ S.H S.nx w [] b (some gb) (.data P2 (srt cf l)) S.nx w':={
      hp:=hp
      os:=by rw [hw];rfl
      tape:=by rw [hw];rfl
      output:=by rw [hw];rfl
      size:=hsz'
      keep:=λk hk hne=>hold k hk λe=>hne hlive (by rw [e];exact hm)
      at_:=λk hk=>by cases hk;exact .inl ⟨hlive,hm⟩
      mono:=Nat.le_refl _
      lt:=by
        rcases Nat.lt_or_ge b S.nx with h | h
        . exact h
        . exact absurd (hp.dead b h) hlive
      live:=by simp
      kind:=λ_=>Pin.zero rfl
      self:=λ_ _=>by
        refine ⟨by rw [updM_same,hm],?_⟩
        rw [hb]
        simp only [updH_same]
        exact ⟨⟨_,rfl,by rw [hsrt];exact hl2⟩,λk m hk hr=>by rw [hm] at hk;cases hk;exact hroom' m hr⟩ }
    refine ⟨updM μ b (some gb),[],.tuple #[],he,rfl,by simp,T.hp' ?_,T.pl,by simp [RelV,RelVs]⟩
    simp only [RelB]
    refine .inr ⟨gb,updM_same _ _ _,?_,λi hi=>?_⟩
    . rw [hsrt,hl2]
      exact hroom' _ λk hk=>hroom k (Nat.lt_of_lt_of_le hk (Nat.mul_le_mul_right _ hcl))
    . have hi':i<d'.size:=by rw [hsrt] at hi;simpa using hi
      have hgi:(srt cf l)[i]=d'[i]! := by simp only [hsrt];simp [hi']
      refine ⟨enc2 (d'[i]!),rfl,λk hk=>?_,?_⟩
      . have hk2:k<2:=hk
        have:=HoldsK.cell hH' (i:=i) (c:=k) hi' hk2
        rw [Nat.zero_add] at this
        have hkk:k<(enc2 d'[i]!).length:=hk
        rw [hsz2,this.1,getElem!_pos (enc2 d'[i]!) k hkk]
      . rw [hgi]
        simp only [RelD]
        exact ⟨[_],[_],rfl,rfl,[_],[],rfl,rfl,rfl⟩
theorem zSort_ok {P:Program} {f g:FuncId} {cf:Int×Int×Unit->Int×Int×Unit->Int} (hen:Enters P f) (hO:SWO (ltOf cf))
  (hg:∀ w x y,Calls P g #[.agg (enc2 x).toArray,.agg (enc2 y).toArray] w λe w'=>e=.returned (.int .i64 (cf x y))/\∃ q os',w'=grow (w.drewN q) os')
  (hc:∀ (blk cap:Nat) (d:Array (Int×Int×Unit)) (w:World),CmpLays P g #[] enc2 2 cf blk 0 d.size w->HoldsK enc2 2 w blk 0 d->blk<w.heap.size->d.size<4611686018427387904 ->
   Calls P f #[.slice (some ⟨blk,0,none⟩) d.size cap,.func (.func g) #[] #[]] w λe w'=>e=.returned (.tuple #[])/\∃ n os,w'=sortWorldK enc2 2 w blk 0 n (pdq (ltOf cf) d 0 d.size (Lib.bitLen d.size) true true) os):ZOK P f (zSort g cf):=by
 refine ⟨hen,λargs S v S' h F μ w vals hp hr=>?_⟩
 unfold zSort at h
 split at h
 ·rename_i b g'
  split at h
  ·rename_i t l hb
   split at h
   ·rename_i ht
    subst ht
    have hh:=cond_some h
    clear h
    obtain ⟨hgg,h⟩:=hh
    have hgg:=Nat.eq_of_beq_eq_true hgg
    subst hgg
    rw [oSi,Prod.mk.injEq,Prod.mk.injEq,bAt,dTe,Bool.not_eq_true',List.isEmpty_eq_false_iff] at h
    obtain ⟨⟨hlt,hne⟩,hv,hS⟩:=h
    subst hv
    subst hS
    simp only [RelVs,RelV] at hr
    obtain ⟨v1,_,rfl,h1,v2,_,rfl,⟨_,rfl,rfl⟩,rfl⟩:=hr
    obtain ⟨t',l',hB,h1⟩:=h1
    rw [hb] at hB
    cases hB
    rcases h1 with ⟨gb,c,hm,rfl,hcl,hroom⟩ | ⟨_,h0,_⟩
    ·exact sort_core hO hg hc hp hb hlt hm hcl hroom
    ·exact absurd h0 hne
   ·cases h
  ·cases h
 ·cases h
end Go.Ev
namespace Go.Ev
open Go Go.Proofs
abbrev Pvs:=List AV->Option (Bool×AV)
def PvsOK (P:Program) (f:FuncId) (g:Pvs):Prop :=
 Enters P f/\∀ args v,g args=some (true,v)->∀ w N μ H vals,(tabsOf P).tab w->RelVs w N μ H args vals ->
  Calls P f vals.toArray w λe w'=>∃ val,e=.returned val/\(∀ w1 N1 μ1 H1,RelV w1 N1 μ1 H1 v val)/\RowKit.Below w.heap.size w w'
def zPv (g:Pvs):Deed:=λargs S=>match g args with
 | some (b,v)=>some (b,v,S)
 | none=>none
theorem zPv_ok {P:Program} {f:FuncId} {g:Pvs} (h:PvsOK P f g):ZOK P f (zPv g):=by
 refine ⟨h.1,λargs S v S' hz F μ w vals hp hr=>?_⟩
 unfold zPv at hz
 split at hz
 ·rename_i b v' hg
  simp only [oSi,Prod.mk.injEq] at hz
  obtain ⟨rfl,rfl,rfl⟩:=hz
  refine (h.2 args v' hg w _ _ _ vals hp.tab hr).mono λe w' ⟨val,h1,h2,bel⟩=>?_
  exact ⟨μ,[],val,h1,rfl,by simp,hp.keep ⟨bel.size,λg hg _=>bel.block g hg⟩ λg ⟨b,hb,hg⟩=>bel.block g (hp.lt b g hb hg),
   Pl.keep hp ⟨⟨bel.size,λg hg _=>bel.block g hg⟩,bel.os,bel.tape,bel.output⟩,h2 _ _ _ _⟩
 ·cases hz
def ascii (l:List UInt8):Bool:=l.all λb=>decide (b.toNat<128)
theorem ascii_at {l:List UInt8} (h:ascii l=true):∀ (j:Nat) b,l[j]?=some b->b.toNat<128:=λj b hb=>by
 have:=List.all_eq_true.mp h b (List.mem_of_getElem? hb)
 exact of_decide_eq_true this
def pTrim:Pvs
 | [.s l,.s c]=>some (decide (l.length<=9223372036854775807)&&decide (c.length<4294967281)&&ascii c,.s (Lib.trimS l c))
 | _=>none
theorem pTrim_ok {P:Program} {f:FuncId} (hen:Enters P f)
  (hc:∀ (s c:ByteArray) (w:World),s.size<=9223372036854775807->c.size<4294967281->(∀ (j:Nat) b,c.data.toList[j]?=some b->b.toNat<128) ->
   Calls P f #[.string s,.string c] w λe w'=>e=.returned (.string ⟨(Lib.trimS s.data.toList c.data.toList).toArray⟩)/\RowKit.Below w.heap.size w w'):ZOK P f (zPv pTrim):=by
 refine zPv_ok ⟨hen,λargs v h w N μ H vals ht hr=>?_⟩
 unfold pTrim at h
 split at h
 ·rename_i l c
  simp only [oSi,Prod.mk.injEq,bAt,dTe] at h
  obtain ⟨⟨⟨h1,h2⟩,h3⟩,rfl⟩:=h
  simp only [RelVs,RelV] at hr
  obtain ⟨_,_,rfl,rfl,_,_,rfl,rfl,rfl⟩:=hr
  refine (hc ⟨l.toArray⟩ ⟨c.toArray⟩ w (by simpa [ByteArray.size] using h1) (by simpa [ByteArray.size] using h2) (by simpa using ascii_at h3)).mono λe w' ⟨he,bel⟩=>⟨_,he,λw1 N1 μ1 H1=>?_,bel⟩
  simp [RelV]
 ·cases h
def pHasPrefix:Pvs
 | [.s l,.s c]=>some (true,.b (Lib.hasPrefix l c))
 | _=>none
theorem pHasPrefix_ok {P:Program} {f:FuncId} (hen:Enters P f)
  (hc:∀ (s c:ByteArray) (w:World),Calls P f #[.string s,.string c] w λe w'=>e=.returned (.bool (Lib.hasPrefix s.data.toList c.data.toList))/\w'=w):ZOK P f (zPv pHasPrefix):=by
 refine zPv_ok ⟨hen,λargs v h w N μ H vals ht hr=>?_⟩
 unfold pHasPrefix at h
 split at h
 ·rename_i l c
  simp only [oSi,Prod.mk.injEq,true_and] at h
  subst h
  simp only [RelVs,RelV] at hr
  obtain ⟨_,_,rfl,rfl,_,_,rfl,rfl,rfl⟩:=hr
  refine (hc ⟨l.toArray⟩ ⟨c.toArray⟩ w).mono λe w' ⟨he,hw⟩=>⟨_,he,λw1 N1 μ1 H1=>?_,hw ▸ RowKit.Below.refl _ _⟩
  simp [RelV]
 ·cases h
theorem sl_cells {w:World} {N:Nat->Prop} {l:List UInt8} {v:Value} (h:RelD w N (.sl .u8) l [v]) (h0:l≠[]) :
  ∃ (a:Addr) (c:Nat),v=.slice (some a) l.length c/\l.length<=c/\∀ i,i<l.length->w.cell? (a.add i)=some (.int .u8 ((Lib.numsL l).getD i 0)):=by
 simp only [RelD] at h
 obtain ⟨a,c,h1,h2,h3⟩:=h
 obtain ⟨g,o,rfl,_,hg,hrow⟩:=h3 (List.length_pos_iff.mpr h0)
 injection h1 with h1 _
 refine ⟨⟨g,o,none⟩,c,h1,h2,λi hi=>?_⟩
 obtain ⟨es,e1,e2,e3⟩:=hrow i hi
 subst e3
 have:=e2 0 (by simp)
 simp only [Ty.size,Nat.mul_one,Nat.add_zero,List.getElem_cons_zero] at this
 rw [add_none,this]
 simp [Lib.numsL,hi]
def pBytesIndexByte:Pvs
 | [.sl .u8 l,.u c]=>some (!(List.isEmpty (α:=UInt8) l),.i .i64 (Lib.indexByte l c))
 | _=>none
theorem pBytesIndexByte_ok {P:Program} {f:FuncId} (hen:Enters P f)
  (hc:∀ (a:Addr) (n c:Nat) (xs:List Int) (cv:Int) (w:World),xs.length=n->(∀ i,i<n->w.cell? (a.add i)=some (.int .u8 (xs.getD i 0))) ->
   Calls P f #[.slice (some a) n c,.int .u8 cv] w λe w'=>e=.returned (.int .i64 (Lib.indexByte (Lib.bytesOf xs) cv.toNat.toUInt8))/\w'=w):ZOK P f (zPv pBytesIndexByte):=by
 refine zPv_ok ⟨hen,λargs v h w N μ H vals ht hr=>?_⟩
 unfold pBytesIndexByte at h
 split at h
 ·rename_i l c
  simp only [oSi,Prod.mk.injEq,Bool.not_eq_true'] at h
  obtain ⟨h1,rfl⟩:=h
  have h0:l≠[]:=λe=>by rw [e] at h1;cases h1
  simp only [RelVs,RelV] at hr
  obtain ⟨_,_,rfl,hl,_,_,rfl,rfl,rfl⟩:=hr
  obtain ⟨a,cc,rfl,_,hcell⟩:=sl_cells hl h0
  refine (hc a l.length cc (Lib.numsL l) (c.toNat:Int) w (Lib.numsL_length l) hcell).mono λe w' ⟨he,hw⟩=>⟨_,he,λw1 N1 μ1 H1=>?_,hw ▸ RowKit.Below.refl _ _⟩
  rw [Lib.bytesOf_numsL]
  simp [RelV]
 ·cases h
theorem Orc.OK.none {P:Program} {f:FuncId} {a:VSh} {bs:List (Nat×BSh)} {o:VSh} {obs:List (Nat×BSh)} (hen:Enters P f) (hf:(⟨a,bs,o,obs,λ_=>Option.none⟩:Orc).fits=true):(⟨a,bs,o,obs,λ_=>Option.none⟩:Orc).OK P f:=⟨hen,hf,λp r h=>by cases h⟩
end Go.Ev
namespace Go.Ev
open Go Go.Proofs
noncomputable def zOrc (o:Orc):Deed:=λargs S=>o.call args S λv S'=>some (noPan v,v,S')
theorem zOrc_ok {P:Program} {f:FuncId} {o:Orc} (h:o.OK P f):ZOK P f (zOrc o):=by
 refine ⟨h.enters,λargs S v S' hz F μ w vals hp hr=>?_⟩
 refine (Orc.call_ok h hz hp hr).mono λe w' ⟨v',S1,μ',kl,val,h1,h2,h3,h4,h5,h6,h7,_⟩=>?_
 simp only [oSi,Prod.mk.injEq] at h2
 obtain ⟨hn,rfl,rfl⟩:=h2
 exact ⟨μ',kl,val,(EndR.ret hn).1 h1,h3,h4,h5,h6,h7⟩
end Go.Ev
namespace Go.Ev
open Go Go.Proofs
abbrev Pvr:=List AV->(Nat->Blk)->Option (Bool×AV)
def PvrOK (P:Program) (f:FuncId) (g:Pvr):Prop :=
 Enters P f/\∀ args H nx v,g args H=some (true,v)->∀ (F:Frm (tabsOf P)) μ w vals,Hp F μ H nx w->RelVs w (Not F μ H) μ H args vals ->
  Calls P f vals.toArray w λe w'=>∃ val,e=.returned val/\RelV w' (Not F μ H) μ H v val/\RowKit.Below w.heap.size w w'
def zPvr (g:Pvr):Deed:=λargs S=>match g args S.H with
 | some (b,v)=>some (b,v,S)
 | none=>none
theorem zPvr_ok {P:Program} {f:FuncId} {g:Pvr} (h:PvrOK P f g):ZOK P f (zPvr g):=by
 refine ⟨h.1,λargs S v S' hz F μ w vals hp hr=>?_⟩
 unfold zPvr at hz
 split at hz
 ·rename_i b v' hg
  simp only [oSi,Prod.mk.injEq] at hz
  obtain ⟨rfl,rfl,rfl⟩:=hz
  refine (h.2 args S.H S.nx v' hg F μ w vals hp hr).mono λe w' ⟨val,h1,h2,bel⟩=>?_
  exact ⟨μ,[],val,h1,rfl,by simp,hp.keep ⟨bel.size,λg hg _=>bel.block g hg⟩ λg ⟨b,hb,hg⟩=>bel.block g (hp.lt b g hb hg),
   Pl.keep hp ⟨⟨bel.size,λg hg _=>bel.block g hg⟩,bel.os,bel.tape,bel.output⟩,h2⟩
 ·cases hz
theorem wh_cells {T:Tb} {F:Frm T} {μ:Nat->Option Nat} {H:Nat->Blk} {nx:Nat} {w:World} (hp:Hp F μ H nx w) {b:Nat} {t:Ty} {l:List t.den} (hb:H b=.data t l) {v:Value} (hv:RelV w (Not F μ H) μ H (.wh b) v) (h0:l≠[]) :
  ∃ (g c:Nat),v=.slice (some ⟨g,0,none⟩) l.length c/\l.length<=c/\g<w.heap.size/\∀ i,(h:i<l.length)->∃ es,es.length=t.size/\rowAt w g (i*t.size) es/\RelD w (Not F μ H) t (l[i]'h) es:=by
 simp only [RelV] at hv
 obtain ⟨t',l',hb',hv⟩:=hv
 rw [hb] at hb'
 injection hb' with e1 e2
 subst e1
 have e2:=eq_of_heq e2
 subst e2
 rcases hv with ⟨g,c,h1,h2,h3,_⟩ | ⟨_,h2,_⟩
 ·have hrow:=hp.blk b
  simp only [hb,RelB] at hrow
  rcases hrow with ⟨hn,_⟩ | ⟨g',hm',_,hrows⟩
  ·rw [h1] at hn;cases hn
  ·rw [h1] at hm'
   cases hm'
   exact ⟨g,c,h2,h3,hp.lt b g (by rw [hb];simp) h1,hrows⟩
 ·exact absurd h2 h0
theorem own_bytes {T:Tb} {F:Frm T} {μ:Nat->Option Nat} {H:Nat->Blk} {nx:Nat} {w:World} (hp:Hp F μ H nx w) {b:Nat} {l:List UInt8} (hb:H b=.data .u8 l) {v:Value} (hv:RelV w (Not F μ H) μ H (.wh b) v) (h0:l≠[]) :
  ∃ (a:Addr) (c:Nat),v=.slice (some a) l.length c/\l.length<=c/\∀ i,i<l.length->w.cell? (a.add i)=some (.int .u8 ((Lib.numsL l).getD i 0)):=by
 obtain ⟨g,c,h1,h2,_,h3⟩:=wh_cells (t:=.u8) hp hb hv h0
 refine ⟨⟨g,0,none⟩,c,h1,h2,λi hi=>?_⟩
 obtain ⟨es,e1,e2,e3⟩:=h3 i hi
 simp only [RelD] at e3
 subst e3
 have:=e2 0 (by simp)
 simp only [Ty.size,Nat.mul_one,Nat.add_zero,List.getElem_cons_zero] at this
 rw [add_none,Nat.zero_add,this]
 simp [Lib.numsL,hi]
def pFields (g:FuncId) (p:Nat->Bool):Pvr
 | [.s l,.fn g' []],_=>cond (Nat.beq g' g) (some (decide (l.length<=4294967296),.sl .str ((Lib.goFieldsP p ⟨l.toArray⟩).map λx=>x.data.toList))) none
 | _,_=>none
theorem pFields_ok {P:Program} {f g:FuncId} {p:Nat->Bool} {ts:TypeId} (hen:Enters P f) (hg:∀ w,PredGrows P g #[] p w)
  (hc:∀ (s:ByteArray) (w:World),s.size<=4294967296->PredGrows P g #[] p w ->
   Calls P f #[.string s,.func (.func g) #[] #[]] w λe w'=>∃ A,e=.returned (.slice (some ⟨A,0,none⟩) (Lib.goFieldsP p s).length (Lib.goFieldsP p s).length)/\w.heap.size<=A /\
    w'.ownsRow w.heap.size ts 1 (.slice (some ⟨A,0,none⟩) (Lib.goFieldsP p s).length (Lib.goFieldsP p s).length) (Lib.goFieldsP p s).length ((Lib.goFieldsP p s).map Value.string)/\RowKit.Below w.heap.size w w'):ZOK P f (zPvr (pFields g p)):=by
 refine zPvr_ok ⟨hen,λargs H nx v h F μ w vals hp hr=>?_⟩
 unfold pFields at h
 split at h
 ·rename_i l g'
  cases hgg:Nat.beq g' g with
  | false=>rw [hgg] at h;cases h
  | true =>
  rw [hgg] at h
  have hgg:=Nat.eq_of_beq_eq_true hgg
  subst hgg
  simp only [cTt,oSi,Prod.mk.injEq,dTe] at h
  obtain ⟨h1,rfl⟩:=h
  simp only [RelVs,RelV] at hr
  obtain ⟨_,_,rfl,rfl,_,_,rfl,⟨_,rfl,rfl⟩,rfl⟩:=hr
  refine (hc ⟨l.toArray⟩ w (by simpa [ByteArray.size] using h1) (hg w)).mono λe w' ⟨A,he,hA,hown,bel⟩=>⟨_,he,?_,bel⟩
  generalize Lib.goFieldsP p ⟨l.toArray⟩=fs at *
  unfold RelV RelD
  refine ⟨some ⟨A,0,none⟩,fs.length,by rw [List.length_map],by rw [List.length_map];exact Nat.le_refl _,λh0=>⟨A,0,rfl,λhN=>?_,?_,λi hi=>?_⟩⟩
  ·rcases hN with hF | ⟨b,hb,hm⟩
   ·exact absurd (hp.flt A hF) (by omega)
   ·exact absurd (hp.lt b A hb hm) (by omega)
  ·exact (hown.lt A rfl).2
  ·have hi':i<fs.length:=by simpa using hi
   refine ⟨[.string fs[i]],rfl,λk hk=>?_,?_⟩
   ·have hk0:k=0:=by simpa using hk
    subst hk0
    have:=hown.cellAt i (by omega)
    simp only [Ty.size,Nat.mul_one,Nat.zero_add,Nat.add_zero,List.getElem_cons_zero]
    rw [this,List.getElem?_map,List.getElem?_eq_getElem hi']
    rfl
   ·simp [RelD]
 ·cases h
end Go.Ev
namespace Go.Gl
open Go Go.Proofs
abbrev Tx:=List UInt8
def ins (s:Tx):List Tx->List Tx
 | []=>[s]
 | x::l=>if s<x then s::x::l else x::ins s l
end Go.Gl
namespace Go.Ev
open Go Go.Proofs Go.Sort Go.Gl
section
variable {T:Tb} {F:Frm T} {μ:Nat->Option Nat} {H:Nat->Blk} {nx:Nat} {w:World} {b g:Nat} {l:List Tx}
end
end Go.Ev
namespace Go.Ev
open Go Go.Proofs
set_option maxRecDepth 100000
def pIndexB:Pvr
 | [.sl .u8 l,.wh b],H=>match H b with
  | .data .u8 p=>some (!(List.isEmpty (α:=UInt8) l)&&decide (l.length<4294967281)&&!(List.isEmpty (α:=UInt8) p)&&decide (p.length<=9223372036854775807),.i .i64 (Lib.index l p))
  | _=>none
 | [.sl .u8 l,.sl .u8 p],_=>some (!(List.isEmpty (α:=UInt8) l)&&decide (l.length<4294967281)&&!(List.isEmpty (α:=UInt8) p)&&decide (p.length<=9223372036854775807),.i .i64 (Lib.index l p))
 | _,_=>none
theorem pIndexB_ok {P:Program} {f:FuncId} {g:Nat} (hen:Enters P f) (hg:globAt P "internal/bytealg.MaxLen"=some g)
  (hc:∀ (a1 a2:Addr) (n c1 k c2:Nat) (xs ys:List Int) (m:Int) (w:World),xs.length=n->ys.length=k->(∀ x∈xs,0<=x/\x<256)->(∀ y∈ys,0<=y/\y<256) ->
   (∀ i,i<n->w.cell? (a1.add i)=some (.int .u8 (xs.getD i 0)))->(∀ i,i<k->w.cell? (a2.add i)=some (.int .u8 (ys.getD i 0)))->n<=c1->n<4294967281->k<=9223372036854775807->w.cell? ⟨g,0,none⟩=some (.int .i64 m) ->
   Calls P f #[.slice (some a1) n c1,.slice (some a2) k c2] w λe w'=>e=.returned (.int .i64 (Lib.index (Lib.bytesOf xs) (Lib.bytesOf ys)))/\RowKit.Below w.heap.size w w'):ZOK P f (zPvr pIndexB):=by
 refine zPvr_ok ⟨hen,λargs H nx v h F μ w vals hp hr=>?_⟩
 unfold pIndexB at h
 split at h
 ·rename_i l b
  split at h
  ·rename_i p hb
   simp only [oSi,Prod.mk.injEq,bAt,dTe,Bool.not_eq_true'] at h
   obtain ⟨⟨⟨⟨h1,h2⟩,h3⟩,h4⟩,rfl⟩:=h
   have l0:l≠[]:=λe=>by rw [e] at h1;cases h1
   have p0:p≠[]:=λe=>by rw [e] at h3;cases h3
   simp only [RelVs] at hr
   obtain ⟨v1,_,rfl,hl,v2,_,rfl,hw,rfl⟩:=hr
   have hl':RelD w (Not F μ H) (.sl .u8) l [v1]:=by simpa only [RelV] using hl
   obtain ⟨a,cc,rfl,hcc,hcell⟩:=sl_cells hl' l0
   obtain ⟨a2,c2,rfl,_,hcell2⟩:=own_bytes hp hb hw p0
   obtain ⟨m,hm⟩:=hp.tab.2 g hg
   refine (hc a a2 l.length cc p.length c2 (Lib.numsL l) (Lib.numsL p) m w (Lib.numsL_length l) (Lib.numsL_length p) (Lib.numsL_range l) (Lib.numsL_range p) hcell hcell2 hcc h2 h4 hm).mono λe w' ⟨he,bel⟩=>⟨_,he,?_,bel⟩
   rw [Lib.bytesOf_numsL,Lib.bytesOf_numsL]
   simp [RelV]
  ·cases h
 ·rename_i l p
  simp only [oSi,Prod.mk.injEq,bAt,dTe,Bool.not_eq_true'] at h
  obtain ⟨⟨⟨⟨h1,h2⟩,h3⟩,h4⟩,rfl⟩:=h
  have l0:l≠[]:=λe=>by rw [e] at h1;cases h1
  have p0:p≠[]:=λe=>by rw [e] at h3;cases h3
  simp only [RelVs] at hr
  obtain ⟨v1,_,rfl,hl,v2,_,rfl,hw,rfl⟩:=hr
  have hl':RelD w (Not F μ H) (.sl .u8) l [v1]:=by simpa only [RelV] using hl
  have hw':RelD w (Not F μ H) (.sl .u8) p [v2]:=by simpa only [RelV] using hw
  obtain ⟨a,cc,rfl,hcc,hcell⟩:=sl_cells hl' l0
  obtain ⟨a2,c2,rfl,_,hcell2⟩:=sl_cells hw' p0
  obtain ⟨m,hm⟩:=hp.tab.2 g hg
  refine (hc a a2 l.length cc p.length c2 (Lib.numsL l) (Lib.numsL p) m w (Lib.numsL_length l) (Lib.numsL_length p) (Lib.numsL_range l) (Lib.numsL_range p) hcell hcell2 hcc h2 h4 hm).mono λe w' ⟨he,bel⟩=>⟨_,he,?_,bel⟩
  rw [Lib.bytesOf_numsL,Lib.bytesOf_numsL]
  simp [RelV]
 ·cases h
end Go.Ev
namespace Go.Ev
open Go
def foldS {α β τ:Type} (step:α->β->β⊕τ) (fin:β->τ):β->List α->τ
 | b,[]=>fin b
 | b,a::t=>match step a b with
  | .inl c=>foldS step fin c t
  | .inr r=>r
theorem walk_iter {α β σ τ:Type} {f:σ->Option (σ⊕τ)} {mk:β->Nat->σ} {ls:List α} {step:α->β->β⊕τ} {fin:β->τ} {I:β->Nat->Prop}
  (h1:∀ b i a,I b i->i<ls.length->(∀ d,ls.getD i d=a)->(∃ c,step a b=.inl c/\I c (i+1)/\f (mk b i)=some (.inl (mk c (i+1))))\/(∃ r,step a b=.inr r/\f (mk b i)=some (.inr r)))
  (h2:∀ b,I b ls.length->f (mk b ls.length)=some (.inr (fin b))):∀ (n:Nat) (b:β) (i:Nat) (t:List α),I b i->i<=ls.length->ls.drop i=t->t.length<n->iter f n (mk b i)=some (foldS step fin b t)
 | 0,_,_,_,_,_,_,h=>absurd h (Nat.not_lt_zero _)
 | n+1,b,i,[],hI,hi,ht,_=>by
  have hl:ls.length<=i:=List.drop_eq_nil_iff.mp ht
  simp only [iter,foldS]
  obtain rfl:i=ls.length:=by omega
  rw [h2 b hI]
 | n+1,b,i,a::t,hI,_,ht,hn=>by
  have hl:i<ls.length:=by
   rcases Nat.lt_or_ge i ls.length with h | h
   ·exact h
   ·rw [List.drop_eq_nil_iff.mpr h] at ht;cases ht
  have e:=List.drop_eq_getElem_cons hl
  rw [ht] at e
  obtain ⟨e1,e2⟩:=List.cons.inj e
  simp only [iter,foldS]
  rcases h1 b i a hI hl (λd=>by rw [e1,List.getD_eq_getElem?_getD,List.getElem?_eq_getElem hl];rfl) with ⟨c,q1,q2,q3⟩ | ⟨r,q1,q3⟩
  ·rw [q3,q1]
   exact walk_iter h1 h2 n c (i+1) t q2 hl e2.symm (by simp only [List.length_cons] at hn;omega)
  ·rw [q3,q1]
theorem walk_listI {α β σ τ:Type} {f:σ->Option (σ⊕τ)} (mk:β->Nat->σ) (ls:List α) (step:α->β->β⊕τ) (fin:β->τ) (I:β->Nat->Prop)
  (h1:∀ b i a,I b i->i<ls.length->(∀ d,ls.getD i d=a)->(∃ c,step a b=.inl c/\I c (i+1)/\f (mk b i)=some (.inl (mk c (i+1))))\/(∃ r,step a b=.inr r/\f (mk b i)=some (.inr r)))
  (h2:∀ b,I b ls.length->f (mk b ls.length)=some (.inr (fin b))) (hn:ls.length<FUEL) {b:β} (hI:I b 0):loopOf f (mk b 0)=some (foldS step fin b ls) :=
 walk_iter h1 h2 FUEL b 0 ls hI (Nat.zero_le _) rfl hn
theorem walk_list {α β σ τ:Type} {f:σ->Option (σ⊕τ)} (mk:β->Nat->σ) (ls:List α) (step:α->β->β⊕τ) (fin:β->τ)
  (h1:∀ b i a,i<ls.length->(∀ d,ls.getD i d=a)->f (mk b i)=some (match step a b with | .inl c=>.inl (mk c (i+1)) | .inr r=>.inr r))
  (h2:∀ b,f (mk b ls.length)=some (.inr (fin b))) (hn:ls.length<FUEL) {b:β}:loopOf f (mk b 0)=some (foldS step fin b ls) :=
 walk_listI mk ls step fin (λ_ _=>True) (λb i a _ hi ha=>by
  have h:=h1 b i a hi ha
  cases e:step a b with
  | inl c=>rw [e] at h;exact .inl ⟨c,rfl,trivial,h⟩
  | inr r=>rw [e] at h;exact .inr ⟨r,rfl,h⟩) (λb _=>h2 b) hn trivial
theorem w64_id {n:Int} (h1:-9223372036854775808<=n) (h2:n<=9223372036854775807):w64 n=n:=by
 unfold w64 IntKind.wrap
 simp only [IntKind.bits,IntKind.signed]
 by_cases h:n % 2^64>=2^63
 ·simp;omega
 ·simp;omega
theorem w64_nat {n:Nat} (h:n<9223372036854775807):w64 ((n:Int)+1)=((n+1:Nat):Int):=by
 rw [show ((n+1:Nat):Int)=(n:Int)+1 from by omega]
 exact w64_id (by omega) (by omega)
theorem nat_lt {i n:Nat}:decide ((i:Int)<(n:Int))=decide (i<n):=by simp
theorem nat_nn {i:Nat}:decide ((0:Int)<=(i:Int))=true:=by simp
end Go.Ev
namespace Go.Ev
open Go
def KE (t:Ty):Prop:=∀ a b:t.den,keyEq t a b=true<->a=b
section
variable {t:Ty} {β:Type}
theorem KE.ne (h:KE t) {a b:t.den} (hn:a≠b):keyEq t a b=false:=by
 cases e:keyEq t a b with
 | false=>rfl
 | true=>exact absurd ((h a b).1 e) hn
end
end Go.Ev
namespace Go.Ev
open Go Go.Proofs
theorem turned_new {T:Tb} {F:Frm T} {μ:Nat->Option Nat} {H:Nat->Blk} {nx:Nat} {w w':World} (hp:Hp F μ H nx w) (hb:Go.RowKit.Below w.heap.size w w') {g':Option Nat} {B:Blk} (hB:B≠.dead) (hg:∀ g,g'=some g->w.heap.size<=g/\g<w'.heap.size) :
  Turned F μ H nx w [] nx g' B (nx+1) w' where
 hp:=hp
 os:=hb.os
 tape:=hb.tape
 output:=hb.output
 size:=hb.size
 keep:=λg hg _=>hb.block g hg
 at_:=λg h=>.inr (hg g h)
 mono:=Nat.le_succ _
 lt:=Nat.lt_succ_self _
 live:=hB
 kind:=λh=>absurd h (Nat.lt_irrefl _)
 self:=λ_ h=>absurd (hp.dead nx (Nat.le_refl _)) h
theorem new_dataN {P:Program} {F:Frm (tabsOf P)} {μ:Nat->Option Nat} {S:St} {w w':World} {gb c:Nat} {t:Ty} {l:List t.den} (hp:Hp F μ S.H S.nx w) (hb:Go.RowKit.Below w.heap.size w w') (hg:w.heap.size<=gb) (hg':gb<w'.heap.size) (hcl:l.length<=c) (hroom:room w' gb (c*t.size))
  (hrow:∀ i (h:i<l.length),∃ es:List Value,es.length=t.size/\rowAt w' gb (i*t.size) es/\RelD w' (Not F (updM μ S.nx (some gb)) (updH S.H S.nx (.data t l))) t l[i] es) :
  ∃ μ' kl,(⟨S.E,updH S.H S.nx (.data t l),S.nx+1,S.kl⟩:St).E=killsE kl S.E/\(⟨S.E,updH S.H S.nx (.data t l),S.nx+1,S.kl⟩:St).kl=S.kl++kl/\Hp F μ' (updH S.H S.nx (.data t l)) (S.nx+1) w'/\Pl F μ S.H S.nx w kl μ' (updH S.H S.nx (.data t l)) (S.nx+1) w'/\RelV w' (Not F μ' (updH S.H S.nx (.data t l))) μ' (updH S.H S.nx (.data t l)) (.wh S.nx) (.slice (some ⟨gb,0,none⟩) l.length c):=by
 have T:=turned_new hp hb (g':=some gb) (B:=.data t l) (by simp) (λg h=>by cases h;exact ⟨hg,hg'⟩)
 refine ⟨updM μ S.nx (some gb),[],rfl,by simp,T.hp' ?_,T.pl,?_⟩
 ·simp only [RelB]
  exact .inr ⟨gb,updM_same _ _ _,λk hk=>hroom k (Nat.lt_of_lt_of_le hk (Nat.mul_le_mul_right _ hcl)),λi hi=>hrow i hi⟩
 ·simp only [RelV]
  exact ⟨t,l,updH_same _ _ _,.inl ⟨gb,c,updM_same _ _ _,rfl,hcl,hroom⟩⟩
theorem new_nilN {P:Program} {F:Frm (tabsOf P)} {μ:Nat->Option Nat} {S:St} {w w':World} {t:Ty} (hp:Hp F μ S.H S.nx w) (hb:Go.RowKit.Below w.heap.size w w') :
  ∃ μ' kl,(⟨S.E,updH S.H S.nx (.data t []),S.nx+1,S.kl⟩:St).E=killsE kl S.E/\(⟨S.E,updH S.H S.nx (.data t []),S.nx+1,S.kl⟩:St).kl=S.kl++kl/\Hp F μ' (updH S.H S.nx (.data t [])) (S.nx+1) w'/\Pl F μ S.H S.nx w kl μ' (updH S.H S.nx (.data t [])) (S.nx+1) w'/\RelV w' (Not F μ' (updH S.H S.nx (.data t []))) μ' (updH S.H S.nx (.data t [])) (.wh S.nx) (.slice none 0 0):=by
 have T:=turned_new hp hb (g':=none) (B:=.data t []) (by simp) (λg h=>by cases h)
 refine ⟨updM μ S.nx none,[],rfl,by simp,T.hp' ?_,T.pl,?_⟩
 ·simp only [RelB]
  exact .inl ⟨updM_same _ _ _,trivial⟩
 ·simp only [RelV]
  exact ⟨t,[],updH_same _ _ _,.inr ⟨updM_same _ _ _,rfl,trivial⟩⟩
end Go.Ev
