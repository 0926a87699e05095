/- Texts that the last one leans on, 3. -/
import Derived.Test.YtipfcejaekfogaaGreatDoorTB
import Derived.Lib.DecodeN
namespace Go.Ev
open Go
section
variable {P:Program} {T:Tb} {F:Frm T} {μ:Nat->Option Nat} {S:St} {w:World} {α:Type} {r:α} {ρ:Operand->Value} {ρA:Operand->AV} {K:AV->St->Option α}
theorem rows_flat {N:NN} {y:Ty} {g:Nat}:∀ (l:List y.den) (o:Nat),(∀ i,(h:i<l.length)->∃ es,es.length=y.size/\rowAt w g (o+i*y.size) es/\RelD w N y l[i] es) ->
  ∃ cs:List Value,cs.length=l.length*y.size/\rowAt w g o cs/\∀ i,(h:i<l.length)->RelD w N y l[i] ((cs.drop (i*y.size)).take y.size)
 | [],o,_=>⟨[],by simp,λi hi=>absurd hi (by simp),λi hi=>absurd hi (by simp)⟩
 | d::l,o,h=>by
  obtain ⟨es,e1,e2,e3⟩:=h 0 (by simp)
  obtain ⟨cs,c1,c2,c3⟩:=rows_flat l (o+y.size) λi hi=>by
   obtain ⟨fs,f1,f2,f3⟩:=h (i+1) (by simpa using hi);refine ⟨fs,f1,?_,by simpa using f3⟩;rw [Nat.succ_mul] at f2;rw [show o+y.size+i*y.size=o+(i*y.size+y.size) by omega];exact f2
  refine ⟨es++cs,?_,?_,?_⟩
  ·simp only [xe,List.length_cons,e1,c1,Nat.succ_mul];omega
  ·intro i hi;simp only [List.getElem_append];split
   ·have:=e2 i (by assumption);simpa using this
   ·rename_i hn;simp only [xe] at hi
    have:=c2 (i-es.length) (by omega)
    rw [show o+y.size+(i-es.length)=o+i by omega] at this;exact this
  ·intro i hi
   cases i with
   | zero=>simp only [Nat.zero_mul,List.drop_zero,List.getElem_cons_zero];rw [List.take_append_of_le_length (by omega),List.take_of_length_le (by omega)];exact e3
   | succ i =>
    simp only [List.getElem_cons_succ];rw [Nat.succ_mul,List.drop_append,List.drop_of_length_le (by omega),List.nil_append,show i*y.size+y.size-es.length=i*y.size by omega];exact c3 i (by simpa using hi)
structure Src (P:Program) (w:World) (N:NN) (y:Ty) (xs:List y.den) (size:Nat) (x:Value) (news:List Value):Prop where
 len:∀ w',(Builtin.lenOf x).run P w'=.ok xs.length w'
 first:∀ w',Agr (λ_ _=>False) w w'->(Builtin.firstCells size xs.length x).run P w'=.ok news.toArray w'
 size:news.length=xs.length*y.size
 rel:∀ i,(h:i<xs.length)->RelD w N y xs[i] ((news.drop (i*y.size)).take y.size)
theorem src_slice {N:NN} {y:Ty} {xs:List y.den} {x:Value} (h:SlRow w N y xs x):∃ news,Src P w N y xs y.size x news:=by
 obtain ⟨a,c,rfl,_,hr⟩:=h
 cases xs with
 | nil =>
  refine ⟨[],⟨λw'=>by simp [Builtin.lenOf],λw' _=>?_,by simp,λi hi=>absurd hi (by simp)⟩⟩
  cases a <;> simp [Builtin.firstCells,loadCells,loadCellsFrom]
 | cons d l =>
  obtain ⟨g,o,rfl,hg,_,hrow⟩:=hr (by simp);obtain ⟨cs,c1,c2,c3⟩:=rows_flat (d::l) o hrow;refine ⟨cs,⟨λw'=>by simp [Builtin.lenOf],λw' hw=>?_,c1,c3⟩⟩
  have:=run_cells (P:=P) (hw.row (λ_ _ _ x=>x) c2)
  rw [c1] at this;simpa [Builtin.firstCells] using this
theorem src_string {N:NN} (l:List UInt8):∃ news,Src P w N .u8 l 1 (.string ⟨l.toArray⟩) news:=by
 refine ⟨l.map λb=>.int .u8 (b.toNat:Int),⟨λw'=>by simp [Builtin.lenOf,ByteArray.size],λw' _=>?_,by simp [Ty.size],λi hi=>?_⟩⟩
 ·simp only [Builtin.firstCells,Sem.run_pure,ByteArray.extract_mk,List.drop_zero,Nat.sub_zero,List.take_length];refine congrArg (λz=>Result.ok z w') ?_;apply Array.ext';simp
 ·simp only [Ty.size,Nat.mul_one,RelD];rw [<- List.map_drop,<- List.map_take];have hdr:(l.drop i).take 1=[l[i]]:=by rw [List.drop_eq_getElem_cons hi];rfl
  rw [hdr];rfl
theorem itemsOrStr_ok (hp:Hp F μ S.H S.nx w) {t:Ty} {x:AV} {v:Value} {K:List t.den->Option α} (hx:zA w (Not F μ S.H) μ S.H x v) (h:evEff.itemsOrStr S.H t x K=some r) :
  ∃ l,K l=some r/\∃ news,Src P w (Not F μ S.H) t l t.size v news:=by
 unfold evEff.itemsOrStr at h;split at h
 ·simp only [zA] at hx;subst hx;exact ⟨_,h,src_string _⟩
 ·obtain ⟨l,hK,hrow⟩:=tW hp hx h;exact ⟨l,hK,src_slice hrow⟩
def inPlace (P:Program) (w:World) (base:Option Addr) (off:Nat) (news:List Value) (n c:Nat):Result Value :=
 match base with
 | none=>.ok (.slice none n c) w
 | some a=>((storeCells (a.add off) news).run P w).andThen λ_ w'=>.ok (.slice (some a) n c) w'
theorem tY:∀ (t:Ty) (x:t.den),(w8 t x).all okCell=true
 | .int _,_=>rfl | .u8,_=>rfl | .bool,_=>rfl | .str,_=>rfl | .sl _,_=>rfl | .unit,_=>rfl
 | .pair a b,p=>by simp only [w8,List.all_append,tY a,tY b,yW]
 | .ln t,x=>by simp only [w8];exact tY t x
 | .rg t,x=>by simp only [w8];exact tY t x
 | .pt _,_=>rfl | .mp _ _ _,_=>rfl
 | .mx u,p=>by simp only [w8];exact tY u p.2
theorem sP:∀ (t:Ty) (x:t.den),(x5 t x).all okCell=true
 | .int _,_=>rfl | .u8,_=>rfl | .bool,_=>rfl | .str,_=>rfl | .sl _,_=>rfl | .unit,_=>rfl
 | .pair a b,p=>by simp only [x5,List.all_append,sP a,sP b,yW]
 | .ln t,x=>by simp only [x5];exact sP t x
 | .rg t,x=>by simp only [x5];exact sP t x
 | .pt _,_=>rfl | .mp _ _ _,_=>rfl
 | .mx u,p=>by simp only [x5];exact tY u p.2
theorem uL {N:NN} {t t2 ty e:TypeId} {y:Ty} {xs:List y.den} {x:Value} {news:List Value} {i:TypeInfo} {z:Value} (hu:P.underlying t=some (.slice e)) {d2:TypeDesc} (h2:P.underlying t2=some d2) (h2':d2=.string\/∃ e',d2=.slice e')
  (hi:P.info? e=some i) (hz:i.zero=some z) (hsz:i.size=y.size) (hb1:1<=i.bytes) (src:Src P w N y xs y.size x news) (base:Option Addr) (sLen sCap:Nat) (olds:List Value)
  (hold:∀ w',Agr (λ_ _=>False) w w'->(Builtin.firstCells y.size sLen (.slice base sLen sCap)).run P w'=.ok olds.toArray w') (hroom:(sLen+xs.length)*i.bytes<=140737488355328) :
  (Builtin.append_ #[t,t2] ty #[.slice base sLen sCap,x]).run P w =
   if sLen+xs.length<=sCap then inPlace P w base (sLen*y.size) news (sLen+xs.length) sCap
   else .ok (.slice (some ⟨w.heap.size,0,none⟩) (sLen+xs.length) (grownCap w (sLen+xs.length) sCap e))
    (w.drew.alloc (.cells (olds.toArray++news.toArray++Builtin.zeroCells z.cells (grownCap w (sLen+xs.length) sCap e-(sLen+xs.length))) e)):=by
 have hlen:=src.len w;by_cases hc:sLen+xs.length<=sCap
 ·rw [if_pos hc];unfold inPlace
  cases base with
  | none=>rcases h2' with rfl | ⟨e',rfl⟩ <;> simp [Builtin.append_,run_underlying hu,run_underlying h2,yi hi,hlen,hc,hsz,src.first w (Agr.refl w)]
  | some a=>rcases h2' with rfl | ⟨e',rfl⟩ <;> simp [Builtin.append_,run_underlying hu,run_underlying h2,yi hi,hlen,hc,hsz,src.first w (Agr.refl w)]
 ·rw [if_neg hc];have hfit:=growslice_fits (bytes:=i.bytes) (need:=sLen+xs.length) (old:=sCap) (by omega) hroom;have h48:¬ (281474976710656<Builtin.nextslicecap (sLen+xs.length) sCap*i.bytes):=by omega
  have hb0:¬ i.bytes=0:=by omega
  have hagr:Agr (λ_ _=>False) w w.drew:=⟨λ_ _ _ _ h=>h⟩;have ho:=hold w.drew hagr;have hf:=src.first w.drew hagr;rcases h2' with rfl | ⟨e',rfl⟩
  ·simp [Builtin.append_,run_underlying hu,run_underlying h2,yi hi,typeInfo,zeroValue,hi,hz,hlen,hc,hsz,h48,hb0,Question.forced,ho,hf,newRow,grownCap];congr 2;apply Array.ext';simp []
  ·simp [Builtin.append_,run_underlying hu,run_underlying h2,yi hi,typeInfo,zeroValue,hi,hz,hlen,hc,hsz,h48,hb0,Question.forced,ho,hf,newRow,grownCap];congr 2;apply Array.ext';simp []
theorem vk (hp:Hp F μ S.H S.nx w) {t t2 _ty e:TypeId} {y:Ty} {xs l0:List y.den} {sO xO:Operand} {news:List Value} {op:Op} {i:TypeInfo} {z:Value} (hu:P.underlying t=some (.slice e)) {d2:TypeDesc} (h2:P.underlying t2=some d2) (h2':d2=.string\/∃ e',d2=.slice e')
    (hi:P.info? e=some i) (hz:i.zero=some z) (hzs:z.cells.size=y.size) (hsz:i.size=y.size) (hb1:1<=i.bytes) (src:Src P w (Not F μ S.H) y xs y.size (ρ xO) news)
    {b nx':Nat} {kl:List Nat} (hb:(b=S.nx/\kl=[]/\nx'=S.nx+1/\ρ sO=.slice none 0 0/\l0=[]) \/
      (S.H b≠.dead/\kl=[b]/\nx'=S.nx/\((μ b=none/\ρ sO=.slice none 0 0/\l0=[])\/∃ g c,μ b=some g/\ρ sO=.slice (some ⟨g,0,none⟩) l0.length c/\l0.length<=c/\room w g (c*y.size) /\
        ∀ i,(h:i<l0.length)->∃ es,es.length=y.size/\rowAt w g (i*y.size) es/\RelD w (Not F μ S.H) y l0[i] es)))
    (hmk:decide (y≠.u8)=true->S.H b≠.dead->unm (S.H b)=true)
    (hroom:(l0.length+xs.length)*i.bytes<=140737488355328)
    (hop:∀ o:Oper,o.op=op->(execOp ρ o).run P w=((Builtin.append_ #[t,t2] o.type #[ρ sO,ρ xO]).run P w).andThen λv w'=>.ok (.value v) w')
    (hK:K (.wh b) ⟨yL kl S.E,zp (zv kl S.H) b (.data y (l0++xs)),nx',S.kl++kl⟩=some r) (hfn:∀ w',Fine P ρ op w w'):EffOK P F μ S w ρ op K r:=by
  have hbn:b<nx':=by
    rcases hb with ⟨rfl,_,rfl,_⟩ | ⟨hl,_,rfl,_⟩
    . omega
    . rcases Nat.lt_or_ge b S.nx with h | h
      . exact h
      . exact absurd (hp.dead b h) hl
  have mk:∀ (g':Option Nat) (w':World),w'.os=w.os->w'.tape=w.tape->w'.output=w.output->w.heap.size<=w'.heap.size->(∀ g,g<w.heap.size->(S.H b≠.dead->μ b≠some g)->w'.heap[g]?=w.heap[g]?) ->
      (∀ g,g'=some g->(S.H b≠.dead/\μ b=some g)\/(w.heap.size<=g/\g<w'.heap.size))->(decide (y≠.u8)=true->∀ g,g'=some g->NoMark w' g)->(∀ g,g'=some g->Wfm w' g)->Turned F μ S.H S.nx w kl b g' (.data y (l0++xs)) nx' w':=λg' w' e1 e2 e3 e4 e5 e6 e7 e8 =>
    { hp:=hp,os:=e1,tape:=e2,output:=e3,size:=e4,keep:=e5,at_:=e6,lt:=hbn,live:=by simp
      mono:=by rcases hb with ⟨_,_,rfl,_⟩ | ⟨_,_,rfl,_⟩ <;> omega
      kind:=λ_=>Pin.zero rfl
      mark:=e7
      wfm:=e8
      self:=λhk hl=>by
        rcases hb with ⟨rfl,_,_,_⟩ | ⟨_,rfl,_,_⟩
        . exact absurd (hp.dead _ (Nat.le_refl _)) hl
        . simp [zS] at hk }
  have fin:∀ (g':Option Nat) (w':World) (T:Turned F μ S.H S.nx w kl b g' (.data y (l0++xs)) nx' w') (val:Value),
      (∀ ty,(Builtin.append_ #[t,t2] ty #[ρ sO,ρ xO]).run P w=.ok val w') ->
      za w' (Not F (xD μ b g') (zp (zv kl S.H) b (.data y (l0++xs)))) (xD μ b g') (zp (zv kl S.H) b (.data y (l0++xs))) b (.data y (l0++xs)) ->
      ((∃ g c,g'=some g/\val=.slice (some ⟨g,0,none⟩) (l0++xs).length c/\(l0++xs).length<=c/\room w' g (c*y.size))\/(g'=none/\l0++xs=[]/\val=.slice none 0 0))->EffOK P F μ S w ρ op K r:=by
    intro g' w' T val hrun hrel hval;refine ⟨_,_,xD μ b g',w',kl,hK,rfl,rfl,T.hp' hrel,T.pl,val,λo ho=>.inl ?_,?_⟩
    . rw [hop o ho,hrun];rfl
    . simp only [zA];refine ⟨⟨y,l0++xs,zf _ _ _,?_⟩,hfn w'⟩;rw [zN];exact hval
  have hxl:news.length=xs.length*y.size:=src.size
  have grow:∀ (base:Option Addr) (sCap:Nat) (olds:List Value),ρ sO=.slice base l0.length sCap->olds.length=l0.length*y.size ->
      (∀ w',Agr (λ_ _=>False) w w'->(Builtin.firstCells y.size l0.length (.slice base l0.length sCap)).run P w'=.ok olds.toArray w') ->
      (∀ i,(h:i<l0.length)->RelD w (Not F μ S.H) y l0[i] ((olds.drop (i*y.size)).take y.size))->¬ l0.length+xs.length<=sCap->EffOK P F μ S w ρ op K r:=by
    intro base sCap olds hs ho hold hrel hc;let cap:=grownCap w (l0.length+xs.length) sCap e;have hcap:l0.length+xs.length<=cap:=grownCap_ge w _ _ e;let cells:Array Value:=olds.toArray++news.toArray++Builtin.zeroCells z.cells (cap-(l0.length+xs.length))
    have hcs:cells.size=cap*y.size:=by
      simp only [cells,Array.size_append,List.size_toArray,size_zeroCells,ho,hxl,hzs];rw [Nat.sub_mul,Nat.add_mul]
      have:=uf y.size hcap
      rw [Nat.add_mul] at this;omega
    have hg:Grew w (.cells cells e) (w.drew.alloc (.cells cells e)):=Grew.drew w _
    have T:=mk (some w.heap.size) (w.drew.alloc (.cells cells e)) rfl rfl rfl (by rw [hg.size];omega) (λg hgl _=>hg.old hgl) (λg hgg=>by cases hgg;exact .inr ⟨Nat.le_refl _,by rw [hg.size];omega⟩) (λ_ g hgg c e m hc=>by
      cases hgg;rw [hg.new] at hc
      cases hc
      simp) (λg hgg c e m hc=>by
      cases hgg;rw [hg.new] at hc
      cases hc
      exact Nat.le_refl _)
    have hroom':=hg.room (.inl rfl);rw [hcs] at hroom';refine fin _ _ T _ (λty=>by rw [hs,uL hu h2 h2' hi hz hsz hb1 src base l0.length sCap olds hold hroom,if_neg hc]) ?_ (.inl ⟨w.heap.size,cap,rfl,by simp [cap],by simpa using hcap,hroom'⟩);simp only [za];refine .inr ⟨w.heap.size,zN _ _ _,λk hk=>hroom' k (Nat.lt_of_lt_of_le hk (uf _ (by simpa using hcap))),rows_new hg.row λj hj=>?_⟩;simp only [xe] at hj;have hle:j*y.size+y.size<=(l0.length+xs.length)*y.size:=by rw [<- Nat.succ_mul];exact uf _ hj
    have hle2:=uf y.size hcap;refine ⟨by rw [Array.length_toList,hcs];omega,?_⟩;have hcl:cells.toList=olds++(news++(Builtin.zeroCells z.cells (cap-(l0.length+xs.length))).toList):=by simp [cells]
    rw [hcl];by_cases hj0:j<l0.length
    . have h3:j*y.size+y.size<=l0.length*y.size:=by rw [<- Nat.succ_mul];exact uf _ hj0
      rw [List.getElem_append_left hj0,List.drop_append_of_le_length (by omega),List.take_append_of_le_length (by simp<;>omega)];exact (hrel j hj0).keep T.keepN T.notN
    . have h3:(j-l0.length)*y.size+y.size<=xs.length*y.size:=by rw [<- Nat.succ_mul];exact uf _ (by omega)
      have h4:j*y.size=l0.length*y.size+(j-l0.length)*y.size:=by rw [<- Nat.add_mul];congr 1;omega
      rw [List.getElem_append_right (by omega),List.drop_append,List.drop_of_length_le (by omega),List.nil_append,show j*y.size-olds.length=(j-l0.length)*y.size by omega,
        List.drop_append_of_le_length (by omega),List.take_append_of_le_length (by simp<;>omega)]
      exact (src.rel (j-l0.length) (by omega)).keep T.keepN T.notN
  have nil:ρ sO=.slice none 0 0->l0=[]->(S.H b≠.dead->μ b=none)->EffOK P F μ S w ρ op K r:=by
    intro hs hl0 hbm;by_cases hx0:xs.length=0
    . have hxs:xs=[]:=List.length_eq_zero_iff.1 hx0;have T:=mk none w rfl rfl rfl (Nat.le_refl _) (λ_ _ _=>rfl) (λg hg=>by cases hg) (λ_ g hg=>by cases hg) (λg hg=>by cases hg);refine fin none w T (.slice none 0 0) (λty=>?_) (by simp only [za];exact .inl ⟨zN _ _ _,by simp [hl0,hxs]⟩) (.inr ⟨rfl,by simp [hl0,hxs],rfl⟩)
      have:=uL (ty:=ty) hu h2 h2' hi hz hsz hb1 src none 0 0 [] (λw' _=>by simp [Builtin.firstCells]) (by simpa [hl0] using hroom)
      rw [hs,this,if_pos (by omega)];simp [inPlace,hx0]
    . have hl00:l0.length=0:=by simp [hl0]
      refine grow none 0 [] (by rw [hs,hl00]) (by rw [hl00];simp) (λw' _=>by rw [hl00];simp [Builtin.firstCells]) (λi hi=>by omega) (by omega)
  rcases hb with ⟨rfl,rfl,rfl,hs,hl0⟩ | ⟨hl,rfl,rfl,⟨hm,hs,hl0⟩ | ⟨g,c,hm,hs,hlc,hrm,hrows⟩⟩
  . exact nil hs hl0 λh=>absurd (hp.dead _ (Nat.le_refl _)) h
  . exact nil hs hl0 λ_=>hm
  . obtain ⟨olds,o1,o2,o3⟩:=rows_flat l0 0 (by simpa using hrows)
    have hold:∀ w',Agr (λ_ _=>False) w w'->(Builtin.firstCells y.size l0.length (.slice (some ⟨g,0,none⟩) l0.length c)).run P w'=.ok olds.toArray w':=λw' hw=>by
      have:=run_cells (P:=P) (hw.row (λ_ _ _ x=>x) o2)
      rw [o1] at this;simpa [Builtin.firstCells] using this
    by_cases hc:l0.length+xs.length<=c
    .
      have hnb:∀ v∈news,v.oneCell'=true:=by
        intro v hv;obtain ⟨j,hj⟩:=List.getElem?_of_mem hv;obtain ⟨hjl,hjv⟩:=List.getElem?_eq_some_iff.1 hj
        have hpos:0<y.size:=by
          rcases Nat.eq_zero_or_pos y.size with h0 | h0
          . rw [hxl,h0] at hjl;simp at hjl
          . exact h0
        have hq:j/y.size<xs.length:=by rw [Nat.div_lt_iff_lt_mul hpos];omega
        have hrel:=ya (μ:=μ) (H:=S.H) (src.rel (j/y.size) hq);have hok:(x5 y xs[j/y.size]).all okCell=true:=sP _ _;refine vX hrel hok v ?_;have hmod:=Nat.mod_lt j hpos;have hdm:=Nat.div_add_mod j y.size
        have:((news.drop (j/y.size*y.size)).take y.size)[j % y.size]?=some v:=by
          rw [List.getElem?_take_of_lt hmod,List.getElem?_drop,Nat.mul_comm,hdm];exact hj
        exact List.mem_of_getElem? this
      have hmul:(l0.length+xs.length)*y.size<=c*y.size:=uf _ hc;rw [Nat.add_mul] at hmul;obtain ⟨w',hrun,hS⟩:=wj (P:=P) news w g (l0.length*y.size) 0 hnb (λk hk=>by rw [Nat.add_zero];exact hrm _ (by omega));rw [Nat.add_zero] at hS;have T:=mk (some g) w' hS.os hS.tape hS.output (Nat.le_of_eq hS.size.symm) (λk _ hne=>hS.heap k λe=>hne hl (by rw [e];exact hm)) (λk hk=>by cases hk;exact .inl ⟨hl,hm⟩) (λhu k hk=>by cases hk;exact hS.mark (hp.mark b g (hmk hu hl) hm)) (λk hk=>by cases hk;exact hS.wfm (hp.wfm b g hl hm));refine fin (some g) w' T (.slice (some ⟨g,0,none⟩) (l0++xs).length c) (λty=>?_) ?_ (.inl ⟨g,c,rfl,rfl,by simpa using hc,hS.room hrm⟩)
      . rw [hs,uL hu h2 h2' hi hz hsz hb1 src (some ⟨g,0,none⟩) l0.length c olds hold hroom,if_pos hc];simp [inPlace,xb,hrun]
      . simp only [za];refine .inr ⟨g,zN _ _ _,λk hk=>hS.room hrm k (by simp only [xe,Nat.add_mul] at hk;omega),λj hj=>?_⟩;simp only [xe] at hj;by_cases hj0:j<l0.length
        . obtain ⟨es,e1,e2,e3⟩:=hrows j hj0;have h3:j*y.size+y.size<=l0.length*y.size:=by rw [<- Nat.succ_mul];exact uf _ hj0
          refine ⟨es,e1,hS.row e2 (.inl (by omega)),?_⟩;rw [List.getElem_append_left hj0];exact e3.keep T.keepN T.notN
        . have h4:j*y.size=l0.length*y.size+(j-l0.length)*y.size:=by rw [<- Nat.add_mul];congr 1;omega
          have h3:(j-l0.length)*y.size+y.size<=xs.length*y.size:=by rw [<- Nat.succ_mul];exact uf _ (by omega)
          refine ⟨(news.drop ((j-l0.length)*y.size)).take y.size,by simp;omega,?_,?_⟩
          . rw [h4];exact rowAt_sub hS.rowNew _ _
          . rw [List.getElem_append_right (by omega)];exact (src.rel (j-l0.length) (by omega)).keep T.keepN T.notN
    . exact grow (some ⟨g,0,none⟩) c olds hs o1 hold o3 hc
theorem zero_row (z:Array Value) (n i:Nat) (hi:i<n):((Builtin.zeroCells z n).toList.drop (i*z.size)).take z.size=z.toList:=made_row z n i hi
theorem eff_clear (hp:Hp F μ S.H S.nx w) (hρ:∀ x,RelG w (Not F μ S.H) μ S.H ρ (ρA x) (ρ x)) {C:zW} {args:Array Operand} {ts:Array TypeId} (h:evEff P C (.call ⟨.builtin .clear,args,ts⟩) ρA S K=some r) :
  EffOK P F μ S w ρ (.call ⟨.builtin .clear,args,ts⟩) K r:=by
 simp only [evEff] at h;split at h
 ·rename_i x t ha ht;have ha':args=#[x]:=by apply Array.ext';simpa using ha
  have ht':ts=#[t]:=by apply Array.ext';simpa using ht
  subst ha';subst ht';split at h
  ·rename_i e y he;have hu:=sQ he;obtain ⟨h1,h2⟩:=zB h;simp only [yR] at h1;obtain ⟨i,hi,hsz⟩:=szOK_info h1.1;obtain ⟨i',z,cs,hi',hz,h3,hr⟩:=tJ (w:=w) (μ:=μ) (N:=Not F μ S.H) (H:=S.H) h2;rw [hi] at hi';cases hi';obtain ⟨d,rest,es,us,h4,h5,h6,h7⟩:=uS hr h3
   cases rest with
   | cons _ _=>simp at h4
   | nil =>
    simp only [zC] at h7;subst h7;rw [List.append_nil] at h5;have hx:=(hρ x).rel
    cases hv:ρA x <;> simp only [hv,reduceCtorEq] at h4 hx;rename_i b lo n;simp only [zA] at hx;obtain ⟨t',l,hB,hle,hx⟩:=hx;simp only [hB] at h4;split at h4
    ·rename_i hty;subst hty;simp only at h4;have hzv:∀ w',(zeroValue e).run P w'=.ok z w':=λw'=>by simp [zeroValue,typeInfo,hi,hz]
     have hzs:z.cells.size=t'.size:=by have:=h6.length;rw [<- h5] at this;simpa using this
     have hlive:S.H b≠.dead:=by rw [hB];simp
     by_cases hn:n=0
     ·subst hn
      have hid:zp S.H b (.data t' (l.take lo++List.replicate 0 d++l.drop (lo+0)))=S.H:=by
       funext k;by_cases hk:k=b
       ·subst hk;rw [zf,hB];simp
       ·rw [zX hk]
      rw [hid] at h4;refine ⟨_,_,μ,w,[],h4,rfl,by simp,hp,Pl.keep hp (Chg.refl w),.tuple #[],λo ho=>.inl ?_,by simp [zA,zC],by trivial⟩;rcases hx with ⟨g,c,o1,hg,hvv,_⟩ | ⟨_,_,hvv⟩
      ·simp [execOp,ho,resolve,invoke,builtin,Builtin.clear_,run_underlying hu,hvv]
      ·simp [execOp,ho,resolve,invoke,builtin,Builtin.clear_,run_underlying hu,hvv]
     ·rcases hx with ⟨g,c,o1,hg,hvv,hc,hroom,hoo⟩ | ⟨_,rfl,hvv⟩
      ·have ho1:o1=lo*t'.size:=by rcases hoo with h | ⟨h,_⟩ <;> omega
       subst ho1;have hBl:=hp.blk b;simp only [hB,za] at hBl;rcases hBl with ⟨hm,_⟩ | ⟨g',hg',_,hrows⟩
       ·rw [hg] at hm;cases hm
       rw [hg] at hg';cases hg';have hlen:(Builtin.zeroCells z.cells n).toList.length=n*t'.size:=by simp [size_zeroCells,hzs]
       have hmul:(lo+n)*t'.size<=c*t'.size:=uf _ (by omega);rw [Nat.add_mul] at hmul;have hone:∀ v∈z.cells.toList,v.oneCell'=true:=vX (μ:=μ) (H:=S.H) (cs:=x5 t' d) (by rw [h5];exact ya h6) (sP _ _)
       have hone':∀ v∈(Builtin.zeroCells z.cells n).toList,v.oneCell'=true:=λv hv=>by
        simp only [Builtin.zeroCells,Array.toList_map,List.mem_map,Array.toList_range,List.mem_range] at hv;obtain ⟨k,hk,rfl⟩:=hv
        have hp0:0<z.cells.size:=by
         rcases Nat.eq_zero_or_pos z.cells.size with h0 | h0
         ·rw [h0] at hk;simp at hk
         ·exact h0
        have hlt:=Nat.mod_lt k hp0;rw [getElem!_pos z.cells _ hlt];exact hone _ (Array.getElem_mem_toList hlt)
       obtain ⟨w',hrun,hS⟩:=wj (P:=P) (Builtin.zeroCells z.cells n).toList w g (lo*t'.size) 0 hone' (λk hk=>by rw [Nat.add_zero];exact hroom _ (by omega));rw [Nat.add_zero] at hS;have hnl:(l.take lo++List.replicate n d++l.drop (lo+n)).length=l.length:=by simp;omega
       have T:=Turned.store (B:=.data t' (l.take lo++List.replicate n d++l.drop (lo+n))) hp hlive hg hS (by simp) (by rw [hB];exact ⟨rfl,hnl⟩);refine ⟨_,_,xD μ b (some g),w',[],h4,rfl,by simp,T.hp' ?_,T.pl,.tuple #[],λo ho=>.inl ?_,by simp [zA,zC],by trivial⟩
       ·simp only [za];refine .inr ⟨g,zN _ _ _,λk hk=>hS.room hroom k (by rw [hnl] at hk;exact Nat.lt_of_lt_of_le hk (uf _ hc)),λk hk=>?_⟩;rw [hnl] at hk;by_cases hk1:k<lo
        ·obtain ⟨es',e1,e2,e3⟩:=hrows k hk;have hm:(k+1)*t'.size<=lo*t'.size:=uf _ hk1;rw [Nat.succ_mul] at hm;refine ⟨es',e1,hS.row e2 (.inl (by omega)),?_⟩
         have hge:(l.take lo++List.replicate n d++l.drop (lo+n))[k]'(by rw [hnl];exact hk)=l[k]:=by
          rw [List.getElem_append_left (by simp<;>omega),List.getElem_append_left (by simp<;>omega),List.getElem_take]
         rw [hge];exact e3.keep T.keepN T.notN
        ·by_cases hk2:k<lo+n
         ·refine ⟨z.cells.toList,by simp [hzs],?_,?_⟩
          ·have hsub:=rowAt_sub hS.rowNew ((k-lo)*t'.size) t'.size;rw [<- hzs,zero_row z.cells n (k-lo) (by omega),hzs] at hsub;rw [<- Nat.add_mul,show lo+(k-lo)=k by omega] at hsub;exact hsub
          ·have hge:(l.take lo++List.replicate n d++l.drop (lo+n))[k]'(by rw [hnl];exact hk)=d:=by
            rw [List.getElem_append_left (by simp<;>omega),List.getElem_append_right (by simp<;>omega),List.getElem_replicate]
           rw [hge,h5];exact h6.keep T.keepN T.notN
         ·obtain ⟨es',e1,e2,e3⟩:=hrows k hk;have hm:(lo+n)*t'.size<=k*t'.size:=uf _ (by omega);rw [Nat.add_mul] at hm;refine ⟨es',e1,hS.row e2 (.inr (by omega)),?_⟩
          have hge:(l.take lo++List.replicate n d++l.drop (lo+n))[k]'(by rw [hnl];exact hk)=l[k]:=by
           rw [List.getElem_append_right (by simp<;>omega),List.getElem_drop];congr 1;simp;omega
          rw [hge];exact e3.keep T.keepN T.notN
       ·obtain ⟨m,rfl⟩:∃ m,n=m+1:=⟨n-1,by omega⟩;simp [execOp,ho,resolve,invoke,builtin,Builtin.clear_,run_underlying hu,hvv,hzv,hrun]
      ·simp at hle;omega
    ·cases h4
  ·cases h
 ·cases h
end
end Go.Ev
namespace Go.Ev
open Go
section
variable {P:Program} {α:Type} {r:α}
theorem tS {x:AV} {K:Int->Option α} (h:vo x K=some r):∃ n,K n=some r:=by
 cases x <;> simp only [vo,reduceCtorEq] at h <;> exact ⟨_,h⟩
theorem boundOf_cps {x:Option AV} {d:Int} {K:Int->Option α} (h:x6 x d K=some r):∃ n,K n=some r:=by
 cases x with
 | none=>exact ⟨d,h⟩
 | some x=>exact tS h
theorem cellsK_cps {x:AV} {K:List AV->Option α} (h:wE x K=some r):∃ cs,K cs=some r:=by
 cases x <;> simp only [wE,reduceCtorEq] at h <;> first | exact ⟨_,h⟩ | exact ⟨_,(zB h).2⟩
theorem zeroCells_cps {t:TypeId} {K:List AV->Option α} (h:zeroCells P t K=some r):∃ cs,K cs=some r:=by
 unfold zeroCells at h
 cases hi:P.info? t with
 | none=>simp [hi] at h
 | some i =>
  simp only [hi] at h
  cases hz:i.zero with
  | none=>simp [hz] at h
  | some z=>simp only [hz] at h;exact cellsK_cps h
theorem fillAV_cps {fs:List Field}:∀ {ps:List (Nat×AV)} {cs:List AV} {K:List AV->Option α},fillAV P fs cs ps K=some r->∃ cs',K cs'=some r
 | [],cs,K,h=>⟨cs,h⟩
 | (i,x)::ps,cs,K,h=>by
  simp only [fillAV] at h
  cases hf:fs[i]? with
  | none=>simp [hf] at h
  | some f =>
   simp only [hf] at h;obtain ⟨ws,h1⟩:=cellsK_cps h;exact fillAV_cps (zB h1).2
theorem vf {cs:List AV} {o n:Nat} {ag:Bool} {K:AV->Option α} (h:wt cs o n ag K=some r):∃ v,K v=some r:=by
 unfold wt at h
 cases ag with
 | true=>exact ⟨_,(zB h).2⟩
 | false =>
  simp only [zK] at h
  cases hx:cs.drop o with
  | nil=>simp [hx] at h
  | cons x rest=>simp only [hx] at h;exact ⟨x,h⟩
theorem loadAV_cps {H:Nat->Blk} {t:TypeId} {x:AV} {K:AV->Option α} (h:loadAV P t x H K=some r):∃ v,K v=some r:=by
 unfold loadAV at h
 cases hu:P.underlying t with
 | none=>simp [hu] at h
 | some d =>
  simp only [hu] at h
  cases x <;> simp only [reduceCtorEq] at h
  case ptr b o=>cases hb:H b <;> simp only [hb,reduceCtorEq] at h;exact vf h
  case ep b t' ix f=>cases hb:H b <;> simp only [hb,reduceCtorEq] at h;exact vf (zB h).2
  case fp t' l ix f=>exact vf h
theorem vI {x y:AV} {K:Bool->Option α} (h:xS x y K=some r):∃ q,K q=some r:=by
 cases x <;> cases y <;> simp only [xS,reduceCtorEq] at h <;> first | exact ⟨_,h⟩ | exact ⟨_,(zB h).2⟩
theorem eqFS_cps {fs:List Field}:∀ {i:Nat} {xs ys:List AV} {K:Bool->Option α},tD P i fs xs ys K=some r->∃ q,K q=some r:=by
 induction fs with
 | nil=>intro i xs ys K h;cases xs <;> cases ys <;> simp only [tD,reduceCtorEq] at h;exact ⟨_,h⟩
 | cons f fs ih =>
  intro i xs ys K h
  cases xs with
  | nil=>cases fs <;> simp [tD] at h
  | cons x xs =>
   cases ys with
   | nil=>cases fs <;> cases xs <;> simp [tD] at h
   | cons y ys =>
    have gen:cond (f.name != "_"&&Nat.beq f.offset i&&vH P f.type x) (xS x y λr=>tD P (i+1) fs xs ys λq=>K (r&&q)) none=some r->∃ q,K q=some r:=λhg=>by
     obtain ⟨q,hq⟩:=vI (zB hg).2;obtain ⟨q',hq'⟩:=ih hq;exact ⟨_,hq'⟩
    cases fs with
    | cons f' fs=>exact gen (by cases xs <;> cases ys <;> simpa only [tD] using h)
    | nil =>
     cases xs with
     | cons x' xs=>exact gen (by cases ys <;> simpa only [tD] using h)
     | nil =>
      cases ys with
      | cons y' ys=>exact gen (by simpa only [tD] using h)
      | nil=>simp only [tD] at h;exact vI (zB h).2
theorem eqFS2_cps:∀ {fs:List Field} {i:Nat} {xs ys:List AV} {K:Bool->Option α},eqFS2 P i fs xs ys K=some r->∃ q,K q=some r
 | [],i,xs,ys,K,h=>by
  cases xs <;> cases ys <;> simp only [eqFS2,reduceCtorEq] at h;exact ⟨_,h⟩
 | f::fs,i,xs,ys,K,h=>by
  simp only [eqFS2] at h;split at h
  ·obtain ⟨q,hq⟩:=eqFS_cps (zB h).2;obtain ⟨q',hq'⟩:=eqFS2_cps hq;exact ⟨_,hq'⟩
  ·split at h
   ·obtain ⟨q,hq⟩:=vI (zB h).2;obtain ⟨q',hq'⟩:=eqFS2_cps hq;exact ⟨_,hq'⟩
   ·cases h
theorem eqAgg_cps {t:TypeId} {xs ys:List AV} {K:Bool->Option α} (h:eqAgg P t xs ys K=some r):∃ q,K q=some r:=by
 unfold eqAgg at h;have h2:=(zB h).2;split at h2
 ·rename_i fs _
  cases hb:Nat.beq fs.size xs.length
  ·rw [hb,zK] at h2;exact eqFS2_cps h2
  ·rw [hb,zI] at h2;exact eqFS_cps h2
 ·split at h2
  ·obtain ⟨q,hq⟩:=vI (zB h2).2;obtain ⟨q',hq'⟩:=vI hq;exact ⟨_,hq'⟩
  ·cases h2
 ·cases h2
theorem nilEq_cps {e:Bool} {K:Bool->Option α} (h:nilEq e K=some r):∃ q,K q=some r:=by
 unfold nilEq at h
 cases e
 ·exact ⟨_,h⟩
 ·exact ⟨_,(agr_some h).1⟩
theorem fillAr_cps {sz:Nat}:∀ {ps:List (Nat×AV)} {cs:List AV} {K:List AV->Option α},fillAr sz cs ps K=some r->∃ cs',K cs'=some r
 | [],cs,K,h=>⟨cs,h⟩
 | (i,x)::ps,cs,K,h=>by
  simp only [fillAr] at h;obtain ⟨ws,h1⟩:=cellsK_cps h;exact fillAr_cps (zB h1).2
theorem evBin_cps {op:BinOp} {t:TypeId} {x y:AV} {K:AV->Option α} (h:evBin P op t x y K=some r):∃ v,K v=some r:=by
 unfold evBin at h;split at h
 ·have h2:=(zB h).2
  cases op <;> simp only [intBin,reduceCtorEq] at h2 <;> exact ⟨_,h2⟩
 ·cases op <;> simp only [u8Bin,reduceCtorEq] at h <;> exact ⟨_,h⟩
 ·cases op <;> simp only [strBin,reduceCtorEq] at h <;> exact ⟨_,h⟩
 ·cases op <;> simp only [reduceCtorEq] at h <;> (obtain ⟨q,hq⟩:=eqAgg_cps h;exact ⟨_,hq⟩)
 ·have h2:=(zB h).2
  cases op <;> simp only [reduceCtorEq] at h2 <;> (obtain ⟨q,hq⟩:=vI h2;exact ⟨_,hq⟩)
theorem evBinS_cps {op:BinOp} {t:TypeId} {x y:AV} {K:Bool->AV->Option α} (h:evVal.evBinS P op t x y K=some r):∃ s v,K s v=some r:=by
 unfold evVal.evBinS at h;split at h
 ·exact ⟨_,_,(zB h).2⟩
 ·exact ⟨_,_,(zB h).2⟩
 ·exact ⟨_,_,h⟩
 ·exact ⟨_,_,h⟩
 ·exact ⟨_,_,h⟩
 ·exact ⟨_,_,h⟩
 ·exact ⟨_,_,h⟩
 ·exact ⟨_,_,h⟩
 ·obtain ⟨q,hq⟩:=nilEq_cps (zB h).2;exact ⟨_,_,hq⟩
 ·obtain ⟨q,hq⟩:=nilEq_cps (zB h).2;exact ⟨_,_,hq⟩
 ·split at h
  ·exact ⟨_,_,h⟩
  ·obtain ⟨v,hv⟩:=evBin_cps h;exact ⟨_,v,hv⟩
 ·split at h
  ·exact ⟨_,_,h⟩
  ·obtain ⟨v,hv⟩:=evBin_cps h;exact ⟨_,v,hv⟩
 ·obtain ⟨v,hv⟩:=evBin_cps h;exact ⟨_,v,hv⟩
theorem evUn_cps {op:UnOp} {x:AV} {K:AV->Option α} (h:evUn op x K=some r):∃ v,K v=some r:=by
 unfold evUn at h;split at h
 ·exact ⟨_,h⟩
 ·exact ⟨_,h⟩
 ·exact ⟨_,h⟩
 ·cases h
theorem uD {H:Nat->Blk} {t:Ty} {x:AV} {K:List t.den->Option α} (h:uu H t x K=some r):∃ l,K l=some r:=by
 unfold uu at h;split at h
 ·split at h
  ·exact ⟨_,h⟩
  ·split at h
   ·exact ⟨_,h⟩
   ·cases t <;> simp only [itemsMx,reduceCtorEq] at h;split at h
    ·exact ⟨_,(zB h).2⟩
    ·cases h
 ·exact ⟨_,h⟩
 ·split at h
  ·split at h
   ·exact ⟨_,h⟩
   ·cases h
  ·cases h
 ·split at h
  ·split at h
   ·exact ⟨_,h⟩
   ·cases h
  ·cases h
 ·cases h
theorem lenOf_cps {H:Nat->Blk} {x:AV} {K:Nat->Option α} (h:lenOf H x K=some r):∃ n,K n=some r:=by
 unfold lenOf at h;split at h
 ·exact ⟨_,h⟩
 ·exact ⟨_,h⟩
 ·split at h
  ·exact ⟨_,h⟩
  ·cases h
 ·exact ⟨_,h⟩
 ·cases h
theorem evVal_cps {op:Op} {ρ:Operand->AV} {H:Nat->Blk} {K:Bool->AV->Option α} (h:evVal P op ρ H K=some r):∃ s v,K s v=some r:=by
 cases op <;> simp only [evVal,reduceCtorEq] at h
 case move=>exact ⟨_,_,h⟩
 case makeInterface=>exact ⟨_,_,(zB h).2⟩
 case assign=>exact ⟨_,_,h⟩
 case pick c a b =>
  cases hcv:ρ c <;> simp only [hcv,reduceCtorEq] at h
  case kb x=>cases x <;> exact ⟨_,_,h⟩
  case b cv =>
   split at h
   ·split at h
    ·exact ⟨_,_,h⟩
    ·exact ⟨_,_,h⟩
    ·cases h
   ·split at h
    ·exact ⟨_,_,h⟩
    ·exact ⟨_,_,h⟩
    ·cases h
   ·cases h
 case build t parts =>
  split at h
  ·obtain ⟨z,hz⟩:=zeroCells_cps (zB h).2;obtain ⟨c,hc⟩:=fillAV_cps hz;exact ⟨_,_,hc⟩
  ·obtain ⟨z,hz⟩:=zeroCells_cps (zB h).2;obtain ⟨c,hc⟩:=fillAr_cps hz;exact ⟨_,_,hc⟩
  ·cases h
 case load t x=>obtain ⟨v,hv⟩:=loadAV_cps h;exact ⟨_,v,hv⟩
 case nilCheck x=>split at h <;> first | exact ⟨_,_,h⟩ | exact ⟨_,_,(zB h).2⟩ | cases h
 case binOp=>exact evBinS_cps h
 case unOp=>obtain ⟨v,hv⟩:=evUn_cps h;exact ⟨_,v,hv⟩
 case convert =>
  split at h
  ·exact ⟨_,_,h⟩
  ·exact ⟨_,_,h⟩
  ·cases h
  ·exact ⟨_,_,h⟩
  ·exact ⟨_,_,h⟩
  ·exact ⟨_,_,h⟩
  ·exact ⟨_,_,h⟩
  ·split at h
   ·obtain ⟨l,hl⟩:=uD h;exact ⟨_,_,hl⟩
   ·cases h
  ·cases h
 case makeFunc fn first caps =>
  cases fn <;> simp only [reduceCtorEq] at h;exact ⟨_,_,(zB h).2⟩
 case fieldAddr =>
  split at h
  ·split at h <;> first | exact ⟨_,_,h⟩ | cases h
  ·cases h
 case field =>
  split at h
  ·split at h
   ·split at h
    ·obtain ⟨v,hv⟩:=vf h;exact ⟨_,v,hv⟩
    ·cases h
   ·cases h
  ·cases h
 case slice t x lo hi mx =>
  have bnd:∀ {v1 v2:Option AV} {d1 d2:Int} {K':Int->Int->Option α},(x6 v1 d1 λa=>x6 v2 d2 λz=>K' a z)=some r->∃ a z,K' a z=some r:=λhh=>by
   obtain ⟨a,ha⟩:=boundOf_cps hh;obtain ⟨z,hz⟩:=boundOf_cps ha;exact ⟨a,z,hz⟩
  cases mx with
  | some m=>simp at h
  | none =>
   simp only at h;split at h
   ·split at h
    ·obtain ⟨a,z,hz⟩:=bnd h;exact ⟨_,_,hz⟩
    ·cases h
   ·split at h
    ·obtain ⟨a,z,hz⟩:=bnd (zB h).2;exact ⟨_,_,hz⟩
    ·split at h
     ·obtain ⟨a,z,hz⟩:=bnd (zB h).2;exact ⟨_,_,hz⟩
     ·cases h
    ·split at h
     ·obtain ⟨a,z,hz⟩:=bnd (zB h).2;exact ⟨_,_,hz⟩
     ·cases h
    ·cases h
   ·cases h
 case indexAddr =>
  split at h
  ·obtain ⟨i,hi⟩:=tS h;split at hi
   ·exact ⟨_,_,(zB hi).2⟩
   ·split at hi
    ·exact ⟨_,_,(zB hi).2⟩
    ·cases hi
   ·split at hi
    ·exact ⟨_,_,(zB hi).2⟩
    ·cases hi
   ·cases hi
  ·obtain ⟨i,hi⟩:=tS h;have hi:=(zB hi).2;split at hi
   ·exact ⟨_,_,(wT hi).2.2⟩
   ·exact ⟨_,_,(wT hi).2.2⟩
   ·exact ⟨_,_,(wT hi).2.2⟩
   ·cases hi
  ·cases h
 case index =>
  split at h
  ·obtain ⟨i,hi⟩:=tS h;exact ⟨_,_,hi⟩
  ·split at h
   ·obtain ⟨i,hi⟩:=tS h;obtain ⟨v,hv⟩:=vf (wT hi).2.2;exact ⟨_,v,hv⟩
   ·cases h
  ·cases h
 case extract =>
  split at h
  ·split at h
   ·exact ⟨_,_,h⟩
   ·cases h
  ·cases h
 case call c =>
  obtain ⟨callee,args,argTypes⟩:=c
  cases callee <;> first | (cases h;done) | skip
  rename_i b
  cases b <;> first | (cases h;done) | skip
  case len =>
   simp only at h;split at h
   ·split at h
    ·split at h
     ·exact ⟨_,_,h⟩
     ·cases h
    ·obtain ⟨n,hn⟩:=lenOf_cps h;exact ⟨_,_,hn⟩
    ·cases h
   ·cases h
  case min =>
   simp only at h;split at h
   ·unfold least at h;split at h
    ·exact ⟨_,_,(zB h).2⟩
    ·cases h
   ·cases h
  case max =>
   simp only at h;split at h
   ·unfold most at h;split at h
    ·exact ⟨_,_,(zB h).2⟩
    ·cases h
   ·cases h
end
end Go.Ev
namespace Go.Ev
open Go Go.MapKept
section
variable {P:Program} {T:Tb} {F:Frm T} {μ:Nat->Option Nat} {S:St} {w:World} {α:Type} {r:α} {ρ:Operand->Value} {ρA:Operand->AV} {K:AV->St->Option α}
structure MapT (P:Program) (t k e:TypeId) (kt vt:Ty):Prop where
 und:P.underlying t=some (.map k e)
 key:(P.underlying k=some .string/\kt=.str)\/∃ i,P.underlying k=some (.int i)/\kt=.int i
theorem mapTy_ok {t k e:TypeId} {kt vt:Ty} (h:mapTy P t=some (k,e,kt,vt)):MapT P t k e kt vt:=by
 unfold mapTy at h;split at h
 ·rename_i k' e' hu;split at h
  ·rename_i y hk hy;simp only [y5,Prod.mk.injEq] at h;obtain ⟨rfl,rfl,rfl,rfl⟩:=h;exact ⟨hu,.inl ⟨hk,rfl⟩⟩
  ·cases h
  ·rename_i i y hne hk hy;simp only [y5,Prod.mk.injEq] at h;obtain ⟨rfl,rfl,rfl,rfl⟩:=h;exact ⟨hu,.inr ⟨i,hk,rfl⟩⟩
  ·cases h
 ·cases h
def wD:(t:Ty)->t.den->Value
 | .str,x=>.string ⟨List.toArray x⟩
 | .int k,n=>.int k n
 | _,_=>undef
def keyTy:Ty->Bool
 | .str=>true
 | .int _=>true
 | _=>false
theorem MapT.kt {t k e:TypeId} {kt vt:Ty} (h:MapT P t k e kt vt):keyTy kt=true:=by
 rcases h.key with ⟨_,rfl⟩ | ⟨i,_,rfl⟩ <;> rfl
theorem relK {N:NN} {kt:Ty} (hk:keyTy kt=true) {x:kt.den} {v:Value} (h:RelD w N kt x [v]):v=wD kt x:=by
 cases kt <;> simp only [keyTy,Bool.false_eq_true] at hk
 ·simp only [RelD] at h;simpa [wD] using h
 ·simp only [RelD] at h;simpa [wD] using h
theorem relK' {N:NN} {kt:Ty} (hk:keyTy kt=true) (x:kt.den):RelD w N kt x [wD kt x]:=by
 cases kt <;> simp only [keyTy,Bool.false_eq_true] at hk
 ·simp [RelD,wD]
 ·simp [RelD,wD]
theorem uC {kt:Ty} (hk:keyTy kt=true) (x y:kt.den):yw kt x y=true<->wD kt x=wD kt y:=by
 cases kt <;> simp only [keyTy,Bool.false_eq_true] at hk
 ·simp [yw,wD]
 ·simp [yw,wD]
theorem keyK_ok {N:NN} {H:Nat->Blk} {kt:Ty} {x:AV} {v:Value} {K:kt.den->Option α} (hx:zA w N μ H x v) (h:keyK kt x K=some r):∃ k,K k=some r/\v=wD kt k:=by
 unfold keyK at h;split at h
 ·simp only [zA] at hx;exact ⟨_,h,hx⟩
 ·rename_i k k' n Kc;obtain ⟨h1,h2⟩:=zB h
  have:=of_decide_eq_true h1
  subst this;simp only [zA] at hx;exact ⟨n,h2,hx⟩
 ·cases h
theorem MapT.isKey {t k e:TypeId} {kt vt:Ty} (h:MapT P t k e kt vt):∃ d,P.underlying k=some d/\∀ x,IsKey d (wD kt x):=by
 rcases h.key with ⟨h1,rfl⟩ | ⟨i,h1,rfl⟩
 ·exact ⟨_,h1,λx=>by simp [IsKey,wD]⟩
 ·exact ⟨_,h1,λx=>by simp [IsKey,wD]⟩
theorem find_ok {N:NN} {kt vt:Ty} {ag:Bool} (hk:keyTy kt=true) {d:TypeDesc} (hd:∀ x,IsKey d (wD kt x)) (k:kt.den):∀ (l:List (kt.den×vt.den)) (es:List MapEntry) (n:Nat),RelM w N kt vt ag l es ->
  (Instr.findNow d (wD kt k) es n=some none/\zO kt l k=none/\(∀ x∈es,x.key≠wD kt k)) \/
  (∃ (j:Nat) (x:vt.den) (e:MapEntry),Instr.findNow d (wD kt k) es n=some (some (n+j,e.val))/\es[j]?=some e/\e.key=wD kt k/\zO kt l k=some x/\∃ cs,RelD w N vt x cs/\IsVal ag cs e.val)
 | [],es,n,h=>by
  have:es=[]:=List.length_eq_zero_iff.1 h.1;subst this;exact .inl ⟨rfl,rfl,by simp⟩
 | p::l,[],n,h=>by have:=h.1;simp at this
 | p::l,e::es,n,h=>by
  obtain ⟨h1,cs,h2,h3⟩:=h.2 0 (by simp) (by simp);simp only [List.getElem_cons_zero] at h1 h2 h3;have he:=relK hk h1
  have hl:RelM w N kt vt ag l es:=⟨by have:=h.1;simpa using this,λi a b=>by
   have:=h.2 (i+1) (by simpa using a) (by simpa using b)
   simpa using this⟩
  obtain ⟨q,hq,hqi⟩:=sameNow_of_keys (hd k) (by rw [he];exact hd p.1:IsKey d e.key);by_cases hkk:wD kt p.1=wD kt k
  ·have hqt:q=true:=hqi.2 (by rw [he,hkk]);subst hqt;refine .inr ⟨0,p.2,e,by simp [Instr.findNow,hq],rfl,he.trans hkk,?_,cs,h2,h3⟩;simp only [zO,(uC hk _ _).2 hkk,zI]
  ·have hqf:q=false:=by
    cases q with
    | false=>rfl
    | true=>exact absurd (by rw [<- he];exact (hqi.1 rfl).symm) hkk
   subst hqf
   have hkf:yw kt p.1 k=false:=by
    cases h:yw kt p.1 k with
    | false=>rfl
    | true=>exact absurd ((uC hk _ _).1 h) hkk
   rcases find_ok hk hd k l es (n+1) hl with ⟨g1,g2,g3⟩ | ⟨j,x,e',g1,g2,g3,g4,g5⟩
   ·refine .inl ⟨by simp only [Instr.findNow,hq,g1],by simp only [zO,hkf,zK,g2],λx hx=>?_⟩;rcases List.mem_cons.1 hx with rfl | hx
    ·rw [he];exact hkk
    ·exact g3 x hx
   ·refine .inr ⟨j+1,x,e',by simp only [Instr.findNow,hq,g1];rw [show n+1+j=n+(j+1) by omega],by simpa using g2,g3,by simp only [zO,hkf,zK,g4],g5⟩
theorem mapAt_ok (hp:Hp F μ S.H S.nx w) {kt vt:Ty} {ag:Bool} {x:AV} {v:Value} {K:Nat->List (kt.den×vt.den)->Option α} (hx:zA w (Not F μ S.H) μ S.H x v) (h:mapAt kt vt ag S.H x K=some r) :
  ∃ b l g es c,K b l=some r/\S.H b=.mapd kt vt ag l/\μ b=some g/\v=.map (some g)/\w.heap[g]?=some (.map es c)/\Stamped es c/\RelM w (Not F μ S.H) kt vt ag l es.toList:=by
 unfold mapAt at h;split at h
 ·rename_i b;split at h
  ·rename_i kt' vt' ag' l hb;split at h
   ·rename_i h1;split at h
    ·rename_i h2;subst h1;subst h2;obtain ⟨h3,h4⟩:=zB h
     have:=eq_of_beq h3
     subst this;simp only [zA] at hx;obtain ⟨_,g,hg,rfl⟩:=hx;have hB:=hp.blk b;simp only [hb,za] at hB;rcases hB with hB | ⟨g',es,c,hg',h5,h6,h7⟩
     ·rw [hg] at hB;cases hB
     rw [hg] at hg'
     cases hg';exact ⟨b,l,g,es,c,h4,hb,hg,rfl,h5,h6,h7⟩
    ·cases h
   ·cases h
  ·cases h
 ·cases h
theorem mapRd_ok (hp:Hp F μ S.H S.nx w) {kt vt:Ty} {ag:Bool} {x:AV} {v:Value} {K:List (kt.den×vt.den)->Option α} (hx:zA w (Not F μ S.H) μ S.H x v) (h:mapRd kt vt ag S.H x K=some r) :
  ∃ l g es c,K l=some r/\v=.map (some g)/\w.heap[g]?=some (.map es c)/\Stamped es c/\RelM w (Not F μ S.H) kt vt ag l es.toList:=by
 unfold mapRd at h;split at h
 ·rename_i kt' vt' ag' l;split at h
  ·rename_i h1;split at h
   ·rename_i h2;subst h1;subst h2;obtain ⟨h3,h4⟩:=zB h
    have:=eq_of_beq h3
    subst this;simp only [zA,RelD] at hx;obtain ⟨⟨a,he,g,es,c,rfl,_,_,g4,g5,g6,g7⟩,_⟩:=hx
    cases he;exact ⟨l,g,es,c,h4,rfl,g4,g5,g6,g7⟩
   ·cases h
  ·cases h
 ·obtain ⟨_,l,g,es,c,h1,_,_,h4,h5,h6,h7⟩:=mapAt_ok hp hx h;exact ⟨l,g,es,c,h1,h4,h5,h6,h7⟩
theorem zeroAg_val {e:TypeId} {i:TypeInfo} {z:Value} (hi:P.info? e=some i) (hz:i.zero=some z):IsVal (xl P e) z.cells.toList z:=by
 unfold xl;simp only [hi,hz]
 cases z <;> first | (refine .inr ⟨rfl,rfl,?_⟩;rfl) | (refine .inl ⟨rfl,?_⟩;simp [Value.cells])
theorem valK_ok {N:NN} {H:Nat->Blk} {vt:Ty} {ag:Bool} {x:vt.den} {cs:List Value} {v:Value} {K:AV->Option α} (h1:RelD w N vt x cs) (h2:IsVal ag cs v) (h:valK ag (x5 vt x) K=some r):∃ y,K y=some r/\zA w N μ H y v:=by
 have he:=ya (μ:=μ) (H:=H) h1;unfold valK at h;rcases h2 with ⟨rfl,rfl⟩ | ⟨rfl,_,rfl⟩
 ·exact ⟨_,h,by simp only [zA];exact ⟨cs,rfl,he⟩⟩
 ·simp only [zK] at h;split at h
  ·rename_i y hy;rw [hy] at he;simp only [zC] at he;obtain ⟨v',vr,e1,e2,e3⟩:=he
   cases e1;exact ⟨y,h,e2⟩
  ·cases h
theorem agK_ok {N:NN} {H:Nat->Blk} {ag:Bool} {x:AV} {v:Value} {K:List AV->Option α} (hx:zA w N μ H x v) (h:agK ag x K=some r):∃ cs vs,K cs=some r/\zC w N μ H cs vs/\IsVal ag vs v:=by
 unfold agK at h
 cases ag with
 | true =>
  simp only [zI] at h;split at h
  ·rename_i cs;simp only [zA] at hx;obtain ⟨vs,rfl,h1⟩:=hx;exact ⟨cs,vs,h,h1,.inl ⟨rfl,rfl⟩⟩
  ·cases h
 | false =>
  simp only [zK] at h;split at h
  ·cases h
  ·rename_i hna;unfold wE at h
   have one:∀ y:AV,y=x->notAgg v=true->K [y]=some r->∃ cs vs,K cs=some r/\zC w N μ H cs vs/\IsVal false vs v:=λy hy hv hK=>⟨[y],[v],hK,by
    subst hy;simp only [zC]
    exact ⟨v,[],rfl,hx,rfl⟩,.inr ⟨rfl,hv,rfl⟩⟩
   cases x <;> simp only [reduceCtorEq] at h
   case agg cs=>exact absurd rfl (hna cs)
   case fz t x=>exact one _ rfl (by simp only [zA] at hx;exact hx.2) h
   case c u =>
    obtain ⟨h1,h2⟩:=zB h;simp only [zA] at hx;exact one _ rfl (by rw [hx];exact h1) h2
   case fn f cs=>exact one _ rfl (by simp only [zA] at hx;obtain ⟨vs,rfl,_⟩:=hx;rfl) h
   case sl t l=>exact one _ rfl (by simp only [zA,RelD] at hx;obtain ⟨a,c,hv,_⟩:=hx;simp at hv;subst hv;rfl) h
   case fp t l i f=>exact one _ rfl (by simp only [zA] at hx;obtain ⟨_,g,o,_,_,rfl,_⟩:=hx;rfl) h
   case ptr b o=>exact one _ rfl (by simp only [zA] at hx;obtain ⟨_,g,_,rfl⟩:=hx;rfl) h
   case mp b=>exact one _ rfl (by simp only [zA] at hx;obtain ⟨_,g,_,rfl⟩:=hx;rfl) h
   case ifc t x=>exact one _ rfl (by simp only [zA] at hx;obtain ⟨_,rfl,_⟩:=hx;rfl) h
   case mptr c b o=>exact one _ rfl (by simp only [zA] at hx;obtain ⟨_,⟨_,g,_,rfl⟩ | ⟨_,rfl⟩⟩:=hx <;> rfl) h
   case ep b t i f=>exact one _ rfl (by simp only [zA] at hx;obtain ⟨_,g,_,_,_,rfl⟩:=hx;rfl) h
   case wh b=>exact one _ rfl (by simp only [zA] at hx;obtain ⟨t,l,_,⟨g,c,_,rfl,_⟩ | ⟨_,_,rfl⟩⟩:=hx <;> rfl) h
   case win b lo n=>exact one _ rfl (by simp only [zA] at hx;obtain ⟨t,l,_,_,⟨g,c,o,_,rfl,_⟩ | ⟨_,_,rfl⟩⟩:=hx <;> rfl) h
   all_goals exact one _ rfl (by simp only [zA] at hx;rw [hx];rfl) h
theorem Turned.map (hp:Hp F μ S.H S.nx w) {b g c:Nat} {kt vt:Ty} {ag:Bool} {l l':List (kt.den×vt.den)} {es es':Array MapEntry} {c':Nat} (hb:S.H b=.mapd kt vt ag l) (hm:μ b=some g) (_hh:w.heap[g]?=some (.map es c)) :
    Turned F μ S.H S.nx w [] b (some g) (.mapd kt vt ag l') S.nx { w with heap:=w.heap.setIfInBounds g (.map es' c') } :=
  have hl:S.H b≠.dead:=by rw [hb];simp
  { hp:=hp,os:=rfl,tape:=rfl,output:=rfl,size:=by simp,live:=by simp,mono:=Nat.le_refl _
    keep:=λk hk hne=>by
      have:g≠k:=λe=>hne hl (by rw [hm,e])
      simp [this]
    at_:=λk hk=>by cases hk;exact .inl ⟨hl,hm⟩
    lt:=by
      rcases Nat.lt_or_ge b S.nx with h | h
      . exact h
      . exact absurd (hp.dead b h) hl
    kind:=λ_ _=>⟨by rw [hb];rfl,hm.symm⟩
    mark:=λh=>by cases h
    wfm:=λg' hg' c e m hc=>by
      cases hg';have hgl:=hp.lt b g hl hm;simp [hgl] at hc
    self:=λ_ _=>⟨by rw [zN,hm],by simp [hb,zf]⟩ }
theorem eff_set (hp:Hp F μ S.H S.nx w) {b g c:Nat} {kt vt:Ty} {ag:Bool} {l l':List (kt.den×vt.den)} {es es':Array MapEntry} {c':Nat} (hb:S.H b=.mapd kt vt ag l) (hm:μ b=some g) (hh:w.heap[g]?=some (.map es c))
  (hs:Stamped es' c') (hr:RelM w (Not F μ S.H) kt vt ag l' es'.toList) {op:Op} {val:Value} {v:AV} (hv:∀ w' N' μ' H',zA w' N' μ' H' v val) (hfn:∀ w',Fine P ρ op w w')
  (hrun:∀ o:Oper,o.op=op->(execOp ρ o).run P w=.ok (.value val) { w with heap:=w.heap.setIfInBounds g (.map es' c') }\/((execOp ρ o).run P w=.ok .skip { w with heap:=w.heap.setIfInBounds g (.map es' c') }/\val=undef))
  (hK:K v ⟨S.E,zp S.H b (.mapd kt vt ag l'),S.nx,S.kl⟩=some r):EffOK P F μ S w ρ op K r:=by
 have Tn:=Turned.map (l':=l') (es':=es') (c':=c') hp hb hm hh;have hgl:g<w.heap.size:=hp.lt b g (by rw [hb];simp) hm;refine ⟨_,_,xD μ b (some g),_,[],hK,rfl,by simp,Tn.hp' ?_,Tn.pl,val,hrun,hv _ _ _ _,hfn _⟩;simp only [za];exact .inr ⟨g,es',c',zN _ _ _,by simp [hgl],hs,hr.keep Tn.keepN Tn.notN⟩
theorem mapSet_none {kt vt:Ty}:∀ (l:List (kt.den×vt.den)) (k:kt.den) (x:vt.den),zO kt l k=none->yA kt l k x=l++[(k,x)]
 | [],k,x,_=>rfl
 | p::l,k,x,h=>by
  simp only [zO] at h
  cases hk:yw kt p.1 k with
  | true=>rw [hk] at h;cases h
  | false =>
   rw [hk] at h;simp only [yA,hk,zK,List.cons_append,mapSet_none l k x h]
theorem RelM.push {N:NN} {kt vt:Ty} {ag:Bool} {l:List (kt.den×vt.den)} {es:List MapEntry} (h:RelM w N kt vt ag l es) {k:kt.den} {x:vt.den} {e:MapEntry} {cs:List Value} (h1:RelD w N kt k [e.key]) (h2:RelD w N vt x cs) (h3:IsVal ag cs e.val) :
  RelM w N kt vt ag (l++[(k,x)]) (es++[e]) :=
 ⟨by simp [h.1],λi a b=>by
  by_cases hi:i<l.length
  ·have hi':i<es.length:=by rw [h.1];exact hi
   rw [List.getElem_append_left hi,List.getElem_append_left hi'];exact h.2 i hi hi'
  ·have hil:i=l.length:=by simp at a;omega
   have hie:i=es.length:=by rw [h.1];exact hil
   rw [List.getElem_append_right (by omega),List.getElem_append_right (by omega)];simp only [List.getElem_singleton]
   exact ⟨h1,cs,h2,h3⟩⟩
theorem RelM.set {N:NN} {kt vt:Ty} {ag:Bool} (hk:keyTy kt=true) {k:kt.den} {x:vt.den} {v:Value} {cs:List Value} (h2:RelD w N vt x cs) (h3:IsVal ag cs v):∀ {l:List (kt.den×vt.den)} {es:List MapEntry} {j:Nat} {e:MapEntry},RelM w N kt vt ag l es->es[j]?=some e->e.key=wD kt k->es.Pairwise (λx y=>x.key≠y.key) ->
  RelM w N kt vt ag (yA kt l k x) (es.modify j λe=>{ e with key:=wD kt k,val:=v })
 | [],es,j,e,h,hj,_,_=>by
  have:es=[]:=List.length_eq_zero_iff.1 h.1;subst this;simp at hj
 | p::l,[],j,e,h,hj,_,_=>by simp at hj
 | p::l,e0::es,j,e,h,hj,he,hd=>by
  obtain ⟨q1,cs1,q2,q3⟩:=h.2 0 (by simp) (by simp);simp only [List.getElem_cons_zero] at q1 q2 q3;have he0:=relK hk q1
  have hl:RelM w N kt vt ag l es:=⟨by have:=h.1;simpa using this,λi a b=>by
   have:=h.2 (i+1) (by simpa using a) (by simpa using b)
   simpa using this⟩
  have hd':=List.pairwise_cons.1 hd
  cases j with
  | zero =>
   simp only [List.getElem?_cons_zero,y5] at hj;subst hj;have hkk:yw kt p.1 k=true:=(uC hk _ _).2 (he0.symm.trans he);simp only [yA,hkk,zI,List.modify_zero_cons];refine ⟨by simp [hl.1],λi a b=>?_⟩
   cases i with
   | zero=>simp only [List.getElem_cons_zero];exact ⟨relK' hk k,cs,h2,h3⟩
   | succ i=>simpa using hl.2 i (by simpa using a) (by simpa using b)
  | succ j =>
   simp only [List.getElem?_cons_succ] at hj;have hne:¬ wD kt p.1=wD kt k:=λe1=>hd'.1 e (List.mem_of_getElem? hj) (by rw [he0,e1,he])
   have hkk:yw kt p.1 k=false:=by
    cases h:yw kt p.1 k with
    | false=>rfl
    | true=>exact absurd ((uC hk _ _).1 h) hne
   have ih:=RelM.set hk (k:=k) h2 h3 hl hj he hd'.2;simp only [yA,hkk,zK,List.modify_succ_cons];refine ⟨by simp [ih.1],λi a b=>?_⟩
   cases i with
   | zero=>simp only [List.getElem_cons_zero];exact ⟨q1,cs1,q2,q3⟩
   | succ i=>simpa using ih.2 i (by simpa using a) (by simpa using b)
theorem eff_makeMap (hp:Hp F μ S.H S.nx w) {t:TypeId} {n:Option Operand} (h:vu P (.makeMap t n) ρA S K=some r):EffOK P F μ S w ρ (.makeMap t n) K r:=by
 cases n with
 | some _=>simp [vu] at h
 | none =>
  simp only [vu] at h;split at h
  ·rename_i k e kt vt hm;have hg:Grew w (.map #[] 0) (w.alloc (.map #[] 0)):=Grew.alloc w _;have Tn:=hg.turned hp (.mapd kt vt (xl P e) []) (by simp) (λh=>by cases h) (λc e m h=>by cases h);refine ⟨_,_,xD μ S.nx (some w.heap.size),w.alloc (.map #[] 0),[],h,rfl,by simp,Tn.hp' ?_,Tn.pl,.map (some w.heap.size),λo ho=>.inl ?_,?_,trivial⟩
   ·simp only [za];exact .inr ⟨w.heap.size,#[],0,zN _ _ _,(heap_alloc w _).1,stamped_empty 0,rfl,λi a _=>by simp at a⟩
   ·simp [execOp,ho,Instr.makeMap,Result.andThen]
   ·simp only [zA];exact ⟨by rw [zf];simp,_,zN _ _ _,rfl⟩
  ·cases h
theorem eff_lookup (hp:Hp F μ S.H S.nx w) (hρ:∀ x,RelG w (Not F μ S.H) μ S.H ρ (ρA x) (ρ x)) {t:TypeId} {m k:Operand} {two:Bool} (h:vu P (.lookup t m k two) ρA S K=some r):EffOK P F μ S w ρ (.lookup t m k two) K r:=by
 simp only [vu] at h;split at h
 ·rename_i kk e kt vt0 hm;have M:=mapTy_ok hm;generalize mapVt vt0 (ρA m)=vt at h;obtain ⟨l,g,es,c,h,hmv,hh,hs,hR⟩:=mapRd_ok hp (hρ m).rel h;obtain ⟨key,h,hkv⟩:=keyK_ok (hρ k).rel h;obtain ⟨i,z,cs,hi,hz,h,hcs⟩:=tJ (w:=w) (μ:=μ) (N:=Not F μ S.H) (H:=S.H) h;obtain ⟨d,rest,es1,us,h,h5,h6,h7⟩:=uS hcs h
  cases rest with
  | cons _ _=>simp at h
  | nil =>
   simp only [zC] at h7;subst h7;rw [List.append_nil] at h5;obtain ⟨dd,hd1,hd2⟩:=M.isKey;have hzv:(zeroValue e).run P w=.ok z w:=by simp [zeroValue,typeInfo,hi,hz]
   have hck:∀ em,(Instr.checkKey em 10000 kk (ρ k)).run P w=.ok () w:=λem=>by rw [hkv];exact run_checkKey hd1 (hd2 key) em 9999
   have fin:∀ (f:Option (Nat×Value)) (q:Option vt.den) (x:vt.den) (vs:List Value) (v:Value),Instr.findNow dd (ρ k) es.toList 0=some f->zO kt l key=q->q.getD d=x->RelD w (Not F μ S.H) vt x vs->IsVal (xl P e) vs v ->
     (match f with
      | some (_,v')=>v'=v/\q.isSome=true
      | none=>v=z/\q.isSome=false)->EffOK P F μ S w ρ (.lookup t m k two) K r:=by
    intro f q x vs v hf hq hx hx1 hx2 hfq;simp only [hq,hx] at h;obtain ⟨y,hK,hy⟩:=valK_ok (μ:=μ) (H:=S.H) hx1 hx2 h;refine ⟨_,_,μ,w,[],hK,rfl,by simp,hp,Pl.keep hp (Chg.refl w),(if two then .tuple #[v,.bool q.isSome] else v),λo ho=>.inl ?_,?_,trivial⟩
    ·have hfk:=run_findKey (P:=P) (w:=w) (l:=es.toList) hd1 hf
     cases f with
     | some p =>
      obtain ⟨p1,p2⟩:=p;obtain ⟨rfl,hq2⟩:=hfq;simp [execOp,ho,Instr.lookup,run_underlying M.und,hmv,MapKept.run_getObj_map hh,hck,hfk,Result.andThen,hq2]
     | none =>
      obtain ⟨rfl,hq2⟩:=hfq;simp [execOp,ho,Instr.lookup,run_underlying M.und,hmv,MapKept.run_getObj_map hh,hck,hfk,Result.andThen,hzv,hq2]
    ·cases two with
     | true =>
      simp only [if_true,zI,zA,zC];exact ⟨_,rfl,_,_,rfl,hy,_,_,rfl,rfl,rfl⟩
     | false=>simpa using hy
   rcases find_ok (d:=dd) M.kt hd2 key l es.toList 0 hR with ⟨g1,g2,_⟩ | ⟨j,x,e',g1,g2,g3,g4,cs',g5,g6⟩
   ·exact fin none none d es1 z (by rw [hkv];exact g1) g2 rfl h6 (by rw [<- h5];exact zeroAg_val hi hz) ⟨rfl,rfl⟩
   ·exact fin (some (0+j,e'.val)) (some x) x cs' e'.val (by rw [hkv];exact g1) g4 rfl g5 g6 ⟨rfl,rfl⟩
 ·cases h
theorem eff_mapUpdate (hp:Hp F μ S.H S.nx w) (hρ:∀ x,RelG w (Not F μ S.H) μ S.H ρ (ρA x) (ρ x)) {t:TypeId} {m k x:Operand} (h:vu P (.mapUpdate t m k x) ρA S K=some r):EffOK P F μ S w ρ (.mapUpdate t m k x) K r:=by
 simp only [vu] at h;split at h
 ·rename_i kk e kt vt hm;have M:=mapTy_ok hm;refine tv hp hρ h λS ρA hp hρ h=>?_
  obtain ⟨b,l,g,es,c,h,hb,hg,hmv,hh,hs,hR⟩:=mapAt_ok hp (hρ m).rel h;obtain ⟨key,h,hkv⟩:=keyK_ok (hρ k).rel h;obtain ⟨cs,vs,h,hcs,hv⟩:=agK_ok (hρ x).rel h;obtain ⟨d,rest,es1,us,h,h5,h6,h7⟩:=uS hcs h
  cases rest with
  | cons _ _=>simp at h
  | nil =>
   simp only [zC] at h7;subst h7;rw [List.append_nil] at h5;subst h5;obtain ⟨dd,hd1,hd2⟩:=M.isKey;have hck:∀ em,(Instr.checkKey em 10000 kk (wD kt key)).run P w=.ok () w:=λem=>run_checkKey hd1 (hd2 key) em 9999
   rcases find_ok (d:=dd) M.kt hd2 key l es.toList 0 hR with ⟨g1,g2,g3⟩ | ⟨j,x',e',g1,g2,g3,g4,_⟩
   ·have hfk:=run_findKey (P:=P) (w:=w) hd1 g1;rw [mapSet_none _ _ _ g2] at h;refine eff_set (es':=es.push { key:=wD kt key,val:=ρ x,born:=c }) (c':=c+1) hp hb hg hh (stamped_push hs (by simpa using g3)) (by rw [Array.toList_push];exact hR.push (relK' M.kt key) h6 hv) (val:=undef) (λ_ _ _ _=>by simp [zA]) (λ_=>trivial) (λo ho=>.inr ⟨?_,rfl⟩) h;simp [execOp,ho,Instr.mapUpdate,run_underlying M.und,hmv,MapKept.run_getObj_map hh,hck,hfk,MapKept.run_setObj_map _ hh,Result.andThen,hkv]
   ·have hj:es[j]?=some e':=by simpa using g2
    have hfk:=run_findKey (P:=P) (w:=w) hd1 g1;have hkey:∀ e0,es[j]?=some e0->({ e0 with key:=wD kt key,val:=ρ x }:MapEntry).key=e0.key:=λe0 he0=>by rw [hj] at he0;cases he0;exact g3.symm
    have hst:Stamped (es.modify j λe=>{ e with key:=wD kt key,val:=ρ x }) c:=stamped_modify hs _ _ (λ_ _=>rfl) (λe' _ he'=>hkey e' he')
    have hrel:RelM w (Not F μ S.H) kt vt (xl P e) (yA kt l key d) (es.modify j λe=>{ e with key:=wD kt key,val:=ρ x }).toList:=by
     rw [Array.toList_modify];exact RelM.set M.kt h6 hv hR g2 g3 ((stamped_iff es c).1 hs).2.2
    refine eff_set hp hb hg hh hst hrel (val:=undef) (λ_ _ _ _=>by simp [zA]) (λ_=>trivial) (λo ho=>.inr ⟨?_,rfl⟩) h;simp [execOp,ho,Instr.mapUpdate,run_underlying M.und,hmv,MapKept.run_getObj_map hh,hck,hfk,hj,g3,hkv,run_keyThatStays (hd2 key),MapKept.run_setObj_map _ hh,Result.andThen]
 ·cases h
theorem eff_lenMap (hp:Hp F μ S.H S.nx w) (hρ:∀ x,RelG w (Not F μ S.H) μ S.H ρ (ρA x) (ρ x)) {args:Array Operand} {ts:Array TypeId} (h:vu P (.call ⟨.builtin .len,args,ts⟩) ρA S K=some r):EffOK P F μ S w ρ (.call ⟨.builtin .len,args,ts⟩) K r:=by
 simp only [vu] at h;split at h
 ·rename_i m t ha ht;have ha':args=#[m]:=by apply Array.ext';simpa using ha
  have ht':ts=#[t]:=by apply Array.ext';simpa using ht
  subst ha';subst ht';split at h
  ·rename_i kk e kt vt0 hm;have M:=mapTy_ok hm;generalize mapVt vt0 (ρA m)=vt at h;obtain ⟨l,g,es,c,h,hmv,hh,hs,hR⟩:=mapRd_ok hp (hρ m).rel h;refine ⟨_,_,μ,w,[],h,rfl,by simp,hp,Pl.keep hp (Chg.refl w),.int .i64 (l.length:Int),λo ho=>.inl ?_,by simp [zA],trivial⟩;have hl:es.size=l.length:=by have:=hR.1;simpa using this
   simp [execOp,ho,resolve,invoke,builtin,Builtin.len_,run_underlying M.und,hmv,MapKept.run_getObj_map hh,Result.andThen,hl,goInt]
  ·cases h
 ·cases h
theorem RelM.del {N:NN} {kt vt:Ty} {ag:Bool} (hk:keyTy kt=true) {k:kt.den}:∀ {l:List (kt.den×vt.den)} {es:List MapEntry} {j:Nat} {e:MapEntry},RelM w N kt vt ag l es->es[j]?=some e->e.key=wD kt k->es.Pairwise (λx y=>x.key≠y.key) ->
  RelM w N kt vt ag (yk kt l k) (es.eraseIdx j)
 | [],es,j,e,h,hj,_,_=>by
  have:es=[]:=List.length_eq_zero_iff.1 h.1;subst this;simp at hj
 | p::l,[],j,e,h,hj,_,_=>by simp at hj
 | p::l,e0::es,j,e,h,hj,he,hd=>by
  obtain ⟨q1,cs1,q2,q3⟩:=h.2 0 (by simp) (by simp);simp only [List.getElem_cons_zero] at q1 q2 q3;have he0:=relK hk q1
  have hl:RelM w N kt vt ag l es:=⟨by have:=h.1;simpa using this,λi a b=>by
   have:=h.2 (i+1) (by simpa using a) (by simpa using b)
   simpa using this⟩
  have hd':=List.pairwise_cons.1 hd
  cases j with
  | zero =>
   simp only [List.getElem?_cons_zero,y5] at hj;subst hj;have hkk:yw kt p.1 k=true:=(uC hk _ _).2 (he0.symm.trans he);simpa only [yk,hkk,zI,List.eraseIdx_zero,List.tail_cons] using hl
  | succ j =>
   simp only [List.getElem?_cons_succ] at hj;have hne:¬ wD kt p.1=wD kt k:=λe1=>hd'.1 e (List.mem_of_getElem? hj) (by rw [he0,e1,he])
   have hkk:yw kt p.1 k=false:=by
    cases h:yw kt p.1 k with
    | false=>rfl
    | true=>exact absurd ((uC hk _ _).1 h) hne
   have ih:=RelM.del hk (k:=k) hl hj he hd'.2;simp only [yk,hkk,zK,List.eraseIdx_cons_succ];refine ⟨by simp [ih.1],λi a b=>?_⟩
   cases i with
   | zero=>simp only [List.getElem_cons_zero];exact ⟨q1,cs1,q2,q3⟩
   | succ i=>simpa using ih.2 i (by simpa using a) (by simpa using b)
theorem mapDel_none {kt vt:Ty}:∀ (l:List (kt.den×vt.den)) (k:kt.den),zO kt l k=none->yk kt l k=l
 | [],k,_=>rfl
 | p::l,k,h=>by
  simp only [zO] at h
  cases hk:yw kt p.1 k with
  | true=>rw [hk] at h;cases h
  | false =>
   rw [hk] at h;simp only [yk,hk,zK,mapDel_none l k h]
theorem eff_delete (hp:Hp F μ S.H S.nx w) (hρ:∀ x,RelG w (Not F μ S.H) μ S.H ρ (ρA x) (ρ x)) {args:Array Operand} {ts:Array TypeId} (h:vu P (.call ⟨.builtin .delete,args,ts⟩) ρA S K=some r):EffOK P F μ S w ρ (.call ⟨.builtin .delete,args,ts⟩) K r:=by
 simp only [vu] at h;split at h
 ·rename_i m k t tr ha ht;have ha':args=#[m,k]:=by apply Array.ext';simpa using ha
  have ht':ts[0]?=some t:=by rw [<- Array.getElem?_toList,ht];rfl
  subst ha';split at h
  ·rename_i kk e kt vt hm;have M:=mapTy_ok hm;obtain ⟨b,l,g,es,c,h,hb,hg,hmv,hh,hs,hR⟩:=mapAt_ok hp (hρ m).rel h;obtain ⟨key,h,hkv⟩:=keyK_ok (hρ k).rel h;obtain ⟨dd,hd1,hd2⟩:=M.isKey;have hck:∀ em,(Instr.checkKey em 10000 kk (ρ k)).run P w=.ok () w:=λem=>by rw [hkv];exact run_checkKey hd1 (hd2 key) em 9999
   rcases find_ok (d:=dd) M.kt hd2 key l es.toList 0 hR with ⟨g1,g2,g3⟩ | ⟨j,x',e',g1,g2,g3,g4,_⟩
   ·have hfk:=run_findKey (P:=P) (w:=w) hd1 (by rw [hkv];exact g1:Instr.findNow dd (ρ k) es.toList 0=some none);rw [mapDel_none _ _ g2] at h;refine eff_set (es':=es) (c':=c) hp hb hg hh hs hR (val:=.tuple #[]) (λ_ _ _ _=>by simp [zA,zC]) (λ_=>trivial) (λo ho=>.inl ?_) h;simp [execOp,ho,resolve,invoke,builtin,Builtin.delete_,ht',run_underlying M.und,hmv,MapKept.run_getObj_map hh,hck,hfk,MapKept.run_setObj_map _ hh,Result.andThen]
   ·have hj:es[j]?=some e':=by simpa using g2
    have hjl:j<es.size:=(Array.getElem?_eq_some_iff.1 hj).1;have hfk:=run_findKey (P:=P) (w:=w) hd1 (by rw [hkv];exact g1:Instr.findNow dd (ρ k) es.toList 0=some (some (0+j,e'.val)))
    have hrel:RelM w (Not F μ S.H) kt vt (xl P e) (yk kt l key) (es.eraseIdxIfInBounds j).toList:=by
     have he:(es.eraseIdxIfInBounds j).toList=es.toList.eraseIdx j:=by simp [Array.eraseIdxIfInBounds,hjl]
     rw [he];exact RelM.del M.kt hR g2 g3 ((stamped_iff es c).1 hs).2.2
    refine eff_set hp hb hg hh (stamped_erase hs j) hrel (val:=.tuple #[]) (λ_ _ _ _=>by simp [zA,zC]) (λ_=>trivial) (λo ho=>.inl ?_) h;simp [execOp,ho,resolve,invoke,builtin,Builtin.delete_,ht',run_underlying M.und,hmv,MapKept.run_getObj_map hh,hck,hfk,MapKept.run_setObj_map _ hh,Result.andThen]
  ·cases h
 ·cases h
end
end Go.Ev
namespace Go.Ev
open Go
def vG (P:Program) (name:String):Option Nat:=P.globals.findIdx? (·.name == name)
def utf8At (g3 g4:Nat) (w:World):Prop :=
 (∀ c,c<256->w.cell? ⟨g3,c,none⟩=some (.int .u8 (Lib.firstT c))) /\
 (∀ i,i<16->w.cell? ⟨g4,2*i,none⟩=some (.int .u8 (Lib.accLo i))/\w.cell? ⟨g4,2*i+1,none⟩=some (.int .u8 (Lib.accHi i)))
def maxAt (g:Nat) (w:World):Prop:=∃ m,w.cell? ⟨g,0,none⟩=some (.int .i64 m)
def zJ (P:Program):Tb where
 tab:=λw=>(∀ g3 g4,vG P "unicode/utf8.first"=some g3->vG P "unicode/utf8.acceptRanges"=some g4->utf8At g3 g4 w)/\∀ g,vG P "internal/bytealg.MaxLen"=some g->maxAt g w
 out:=λg=>(∃ g3 g4,vG P "unicode/utf8.first"=some g3/\vG P "unicode/utf8.acceptRanges"=some g4/\(g=g3\/g=g4))\/vG P "internal/bytealg.MaxLen"=some g
 stays:=λw w' h ⟨ht,hm⟩=>⟨λg3 g4 h3 h4=>by
  obtain ⟨t1,t2⟩:=ht g3 g4 h3 h4;have e3:=h g3 (.inl ⟨g3,g4,h3,h4,.inl rfl⟩);have e4:=h g4 (.inl ⟨g3,g4,h3,h4,.inr rfl⟩);exact ⟨λc hc=>by rw [cell?_of_heap e3];exact t1 c hc,λi hi=>⟨by rw [cell?_of_heap e4];exact (t2 i hi).1,by rw [cell?_of_heap e4];exact (t2 i hi).2⟩⟩,λg hg=>by
  obtain ⟨m,h1⟩:=hm g hg
  exact ⟨m,by rw [cell?_of_heap (h g (.inr hg))];exact h1⟩⟩
 lt:=λw g ⟨ht,hm⟩ hg=>by
  rcases hg with ⟨g3,g4,h3,h4,hg⟩ | hg
  ·obtain ⟨t1,t2⟩:=ht g3 g4 h3 h4;rcases hg with rfl | rfl
   ·exact World.block_lt_of_cell? w _ (t1 0 (by omega))
   ·exact World.block_lt_of_cell? w _ (t2 0 (by omega)).1
  ·obtain ⟨m,h1⟩:=hm g hg;exact World.block_lt_of_cell? w _ h1
end Go.Ev
namespace Go.Ev
open Go
section
variable {P:Program} {F:Frm (zJ P)} {μ μ':Nat->Option Nat} {S S':St} {w w':World} {a a':Act} {done:List Nat} {α:Type} {r:α} {M:FuncId->Bool}
structure Rg {T:Tb} (F:Frm T) (μ:Nat->Option Nat) (done:List Nat) (S:St) (a:Act) (w:World):Prop where
 hp:Hp F μ S.H S.nx w
 e:RelE w (Not F μ S.H) μ S.H S.E a.tmps
 tags:∀ t j b x,S.E t=.gd j b x->j∈done
theorem getD_set {tmps:Array Value} {d t:Nat} {v:Value} (hd:d<tmps.size):(tmps.setIfInBounds d v).getD t undef=if t=d then v else tmps.getD t undef:=by
 rw [Array.getD_eq_getD_getElem?,Array.getD_eq_getD_getElem?,Array.getElem?_setIfInBounds];by_cases h:t=d
 ·subst h;simp [hd]
 ·have:¬ d=t:=λe=>h e.symm
  simp [h,this]
theorem noGd_ne (v:AV):∀ j b y,yr v≠.gd j b y:=by cases v <;> simp [yr]
theorem noGd_rel {N:NN} {H:Nat->Blk} {v:AV} {val:Value} (h:zA w N μ H v val):zA w N μ H (yr v) val:=by
 cases v <;> first | exact h | simp [yr,zA]
theorem RelE.slot {N:NN} {H:Nat->Blk} {E:Nat->AV} {tmps:Array Value} {t:Nat} (h:RelE w N μ H E tmps) (hn:∀ j b y,E t≠.gd j b y):zA w N μ H (E t) (tmps.getD t undef):=by
 have:=h t
 cases hE:E t <;> simp only [hE] at this <;> first | exact this | exact absurd hE (hn _ _ _)
theorem RelE.put {N:NN} {H:Nat->Blk} {E:Nat->AV} {tmps:Array Value} (h:RelE w N μ H E tmps) (tags:∀ t j b x,E t=.gd j b x->j∈done) {d:Nat} (hd:d<tmps.size) (hnd:d∉done) {v:AV} {val:Value}
  (hv:match v with
   | .gd j b x=>(j∈done)/\((tmps.getD j undef=.bool b/\zA w N μ H x val)\/(tmps.getD j undef≠.bool b/\val=undef))
   | x=>zA w N μ H x val):RelE w N μ H (upd E d v) (tmps.setIfInBounds d val):=by
 intro t;by_cases ht:t=d
 ·subst ht;rw [wc];have g:(tmps.setIfInBounds t val).getD t undef=val:=by rw [getD_set hd];simp
  cases v <;> simp only at hv ⊢ <;> rw [g]
  case gd j b x =>
   obtain ⟨hj,hv⟩:=hv;have hjt:j≠t:=λe=>hnd (e ▸ hj)
   have g2:(tmps.setIfInBounds t val).getD j undef=tmps.getD j undef:=by rw [getD_set hd];simp [hjt]
   rw [g2];exact hv
  all_goals exact hv
 ·rw [xc ht];have g:(tmps.setIfInBounds d val).getD t undef=tmps.getD t undef:=by rw [getD_set hd];simp [ht]
  have h1:=h t
  cases hE:E t <;> simp only [hE] at h1 ⊢ <;> rw [g]
  case gd j b x =>
   have hj:=tags t j b x hE;have hjd:j≠d:=λe=>hnd (e ▸ hj)
   have g2:(tmps.setIfInBounds d val).getD j undef=tmps.getD j undef:=by rw [getD_set hd];simp [hjd]
   rw [g2];exact h1
  all_goals exact h1
def sR (o:Oper):List Nat:=o.dst.toList
theorem Rg.put (h:Rg F μ done S a w) {dst:Option Nat} (hd:∀ d,dst=some d->d<a.tmps.size/\d∉done) {v:AV} {val:Value}
  (hv:match v with
   | .gd j b x=>(j∈done)/\((a.tmps.getD j undef=.bool b/\zA w (Not F μ S.H) μ S.H x val)\/(a.tmps.getD j undef≠.bool b/\val=undef))
   | x=>zA w (Not F μ S.H) μ S.H x val):Rg F μ (dst.toList++done) (S.put dst v) (a.put dst val) w:=by
 cases dst with
 | none=>exact ⟨h.hp,h.e,λt j b x hE=>by simpa using h.tags t j b x hE⟩
 | some d =>
  obtain ⟨h1,h2⟩:=hd d rfl;refine ⟨h.hp,h.e.put h.tags h1 h2 hv,λt j b x hE=>?_⟩;simp only [St.put] at hE;by_cases ht:t=d
  ·subst ht;rw [wc] at hE;subst hE;simp only at hv;simp [hv.1]
  ·rw [xc ht] at hE;simp [h.tags t j b x hE]
theorem Rg.put' (h:Rg F μ done S a w) {dst:Option Nat} (hd:∀ d,dst=some d->d<a.tmps.size/\d∉done) {v:AV} {val:Value} (hv:zA w (Not F μ S.H) μ S.H v val) :
  Rg F μ (dst.toList++done) (S.put dst (yr v)) (a.put dst val) w:=by
 refine h.put hd ?_
 have:=noGd_rel hv
 cases hg:yr v <;> simp only [hg] at this ⊢ <;> first | exact this | exact absurd hg (noGd_ne v _ _ _)
theorem wanted_iff {o:Oper} {ops:Array Oper} {g j:Nat} {b:Bool} (ho:o.guard=some (g,b)) (hj:slotOf ops g=some j):Region.wanted o (yielded ops a.tmps)=true<->a.tmps.getD j undef=.bool b:=by
 unfold slotOf at hj;simp only [Region.wanted,ho,yielded,hj,zE,Array.getD_eq_getD_getElem?]
 cases hv:a.tmps[j]? with
 | none=>simp [undef]
 | some v=>cases v <;> simp
theorem unG_ok {N:NN} {H:Nat->Blk} {E:Nat->AV} (hE:RelE w N μ H E a.tmps) {j:Nat} {b:Bool} (hj:a.tmps.getD j undef=.bool b) (x:Operand):RelG w N μ H a.eval (unG j b (opd E x)) (a.eval x):=by
 have h:=opd_ok hE x
 cases hx:opd E x <;> rw [hx] at h <;> simp only [unG] <;> try exact h
 rename_i j' b' y;by_cases hc:j'=j/\b'=b
 ·obtain ⟨rfl,rfl⟩:=hc;simp only [Nat.beq_refl,BEq.rfl,yW,zI];exact RelG_of (by cases y <;> rfl) (noGd_rel (h hj))
 ·have:(Nat.beq j' j&&b' == b)=false:=by
   rw [Bool.and_eq_false_iff];by_cases h1:j'=j
   ·right;simp;exact λh2=>hc ⟨h1,h2⟩
   ·left;exact Bool.eq_false_iff.2 λh=>h1 (xi h)
  simp only [this,zK];exact h
structure Post {T:Tb} (F:Frm T) (μ:Nat->Option Nat) (S:St) (w:World) (a:Act) (done:List Nat) (S':St) (w':World) (a':Act):Prop where
 step:∃ μ' kl,S'.kl=S.kl++kl/\Pl F μ S.H S.nx w kl μ' S'.H S'.nx w'/\Rg F μ' done S' a' w'
 size:a'.tmps.size=a.tmps.size
 defers:a'.defers=a.defers
theorem Act.put_size (a:Act) (d:Option Nat) (v:Value):(a.put d v).tmps.size=a.tmps.size:=by cases d <;> simp [Act.put]
theorem Act.put_defers' (a:Act) (d:Option Nat) (v:Value):(a.put d v).defers=a.defers:=by cases d <;> simp [Act.put]
theorem yf {side:Bool} {x:Option α} (h:need side x=some r):side=true/\x=some r:=zB h
def EndR (e:Ending) (v:AV) (val:Value):Prop :=
 match v with
 | .pan _=>e=.panicked [{ v:=val,recovered:=false }]
 | _=>e=.returned val
theorem EndR.ret {e:Ending} {v:AV} {val:Value} (h:wk v=true):EndR e v val<->e=.returned val:=by
 cases v <;> first | rfl | (simp [wk] at h)
structure PPost {T:Tb} (F:Frm T) (μ:Nat->Option Nat) (H:Nat->Blk) (nx:Nat) (kl0:List Nat) (w:World) (a:Act) (x:AV) (S':St) (w':World) (a':Act) (val:Value):Prop where
 step:∃ μ' kl,S'.kl=kl0++kl/\Pl F μ H nx w kl μ' S'.H S'.nx w'/\Hp F μ' S'.H S'.nx w'/\zA w' (Not F μ' S'.H) μ' S'.H x val
 defers:a'.defers=a.defers
def xw (P:Program) (C:zW) (M:FuncId->Bool):Prop:=∀ (f:FuncId) (args:List AV) (S:St) (α:Type) (K:AV->St->Option α) (r:α),C f args S K=some r ->
 ∀ (F:Frm (zJ P)) μ w vals,Hp F μ S.H S.nx w->zC w (Not F μ S.H) μ S.H args vals ->
  ((∀ w1,(callFunc f vals.toArray).run P w1=.ok (.enter f vals.toArray) w1) /\
  Calls P f vals.toArray w (λe w'=>∃ v S' μ' kl val,EndR e v val/\K v S'=some r/\S'.E=yL kl S.E/\S'.kl=S.kl++kl/\Hp F μ' S'.H S'.nx w' /\
   Pl F μ S.H S.nx w kl μ' S'.H S'.nx w'/\zA w' (Not F μ' S'.H) μ' S'.H v val/\(M f=true->Keep (λ_=>False) w w'))) \/
  ∃ v val,wk v=true/\K v S=some r/\zA w (Not F μ S.H) μ S.H v val/\∀ w1,(callFunc f vals.toArray).run P w1=.ok (.value val) w1
structure Sure (P:Program) (M:FuncId->Bool) (o:Oper) (a a':Act) (w w':World):Prop where
 fine:Fine P a.eval o.op w w'
 call:∀ f args ts,o.op=.call ⟨.value (.func f),args,ts⟩->M f=true->Keep (λ_=>False) w w'
 put:∃ val,a'=a.put o.dst val
theorem Fine.refl {ρ:Operand->Value} {op:Op} (w:World):Fine P ρ op w w:=.new (Keep.refl w)
theorem Sure.skip {M:FuncId->Bool} {o:Oper} {a:Act} {v:Value} (w:World):Sure P M o a (a.put o.dst v) w w:=⟨.refl w,λ_ _ _ _ _=>Keep.refl w,v,rfl⟩
theorem cond_gd {q:Bool} {y x:AV} {j:Nat} {b:Bool} (h:cond q .bad y=.gd j b x):y=.gd j b x:=by cases q <;> simp_all
theorem tags_kill {E:Nat->AV} {kl:List Nat} (tags:∀ t j b x,E t=.gd j b x->j∈done):∀ t j b x,yL kl E t=.gd j b x->j∈done:=by
 intro t j b x h;rw [killsE_eq] at h
 cases kl with
 | nil=>exact tags t j b x h
 | cons c r =>
  simp only [kv] at h
  cases hE:E t <;> rw [hE] at h <;> simp only [zj,reduceCtorEq] at h
  all_goals (have:=cond_gd h;cases this)
theorem Pl.refl (hp:Hp F μ S.H S.nx w):Pl F μ S.H S.nx w [] μ S.H S.nx w:=Pl.keep hp (Chg.refl w)
theorem run_val {X:Nat->Nat->Prop} {o:Oper} {ρA:Operand->AV} {K:St->Option α} (hr:Rg F μ done S a w) (hρ:∀ x,RelG w (Not F μ S.H) μ S.H a.eval (ρA x) (a.eval x))
  (hd:∀ d,o.dst=some d->d<a.tmps.size/\d∉done) (hX:FreeOp P X a.eval o.op) (h:(evVal P o.op ρA S.H λside v=>need side (K (S.put o.dst (yr v))))=some r) :
  ∃ v val,K (S.put o.dst v)=some r/\Rg F μ (sR o++done) (S.put o.dst v) (a.put o.dst val) w/\∀ w',Agr X w w'->(execOp a.eval o).run P w'=.ok (.value val) w':=by
 obtain ⟨side,v,hK,hs⟩:=evVal_ok (X:=X) hr.hp hρ (λ_=>rfl) hX h;obtain ⟨h1,h2⟩:=yf hK;obtain ⟨val,hv,hy⟩:=hs h1;exact ⟨_,val,h2,hr.put' hd hv,hy o rfl⟩
theorem eff_run {o:Oper} {K:St->Option α} {next:Act->World->Prop} {Q:Exit->Act->World->Prop} (hr:Rg F μ done S a w)
  (hd:∀ d,o.dst=some d->d<a.tmps.size/\d∉done) (h:EffOK P F μ S w a.eval o.op (λv S'=>K (S'.put o.dst (yr v))) r)
  (hncall:∀ f args ts,o.op≠.call ⟨.value (.func f),args,ts⟩)
  (hn:∀ S' w' a',K S'=some r->Post F μ S w a (sR o++done) S' w' a'->Sure P M o a a' w w'->next a' w'):o.wp P a w next Q:=by
 obtain ⟨v,S',μ',w',kl,hK,hE,hkl,hp',hpl,val,hrun,hv,hfine⟩:=h;have hsure:Sure P M o a (a.put o.dst val) w w':=⟨hfine,λf args ts he=>absurd he (hncall f args ts),val,rfl⟩;have hrg:Rg F μ' done S' a w':=⟨hp',by rw [hE];exact hr.e.kill hpl.tr,by rw [hE];exact tags_kill hr.tags⟩
 have post:Post F μ S w a (sR o++done) (S'.put o.dst (yr v)) w' (a.put o.dst val):=by
  refine ⟨⟨μ',kl,?_,?_,hrg.put' hd hv⟩,Act.put_size _ _ _,Act.put_defers' _ _ _⟩
  ·cases o.dst <;> exact hkl
  ·cases o.dst <;> exact hpl
 unfold Oper.wp;rcases hrun o rfl with h1 | ⟨h1,rfl⟩
 ·rw [h1];exact hn _ _ _ hK post hsure
 ·rw [h1];exact hn _ _ _ hK post hsure
theorem noInt_ok {ts:List TypeId} (h:evEff.noInt P ts=true):∃ t d,ts=[t]/\P.underlying t=some d/\(d=.string\/∃ e,d=.slice e):=by
 unfold evEff.noInt at h;split at h
 ·rename_i t
  cases hu:P.underlying t with
  | none=>simp [hu] at h
  | some d =>
   simp only [hu] at h
   cases d <;> simp only [Bool.false_eq_true] at h
   ·exact ⟨t,_,rfl,hu,.inl rfl⟩
   ·exact ⟨t,_,rfl,hu,.inr ⟨_,rfl⟩⟩
 ·cases h
theorem convD_ok {t' t:Ty} {l:List t'.den} {K:List t.den->Option α} (h:convD t' l t K=some r) :
  ∃ l2:List t.den,K l2=some r/\t.size=t'.size/\l2.length=l.length/\(unm (.data t l2)=true->unm (.data t' l)=true) /\
   ∀ (w:World) (N:NN) i (h1:i<l.length) (h2:i<l2.length) es,RelD w N t' l[i] es->RelD w N t l2[i] es:=by
 have plain:∀ {t:Ty} {K:List t.den->Option α},(if h:t'=t then K (h ▸ l) else if h:t'=.mx t then need (List.all (h ▸ l:List (Ty.mx t).den) λp=>p.1) (K (List.map (λp=>p.2) (h ▸ l:List (Ty.mx t).den))) else none)=some r ->
   ∃ l2:List t.den,K l2=some r/\t.size=t'.size/\l2.length=l.length/\(unm (.data t l2)=true->unm (.data t' l)=true) /\
   ∀ (w:World) (N:NN) i (h1:i<l.length) (h2:i<l2.length) es,RelD w N t' l[i] es->RelD w N t l2[i] es:=by
  intro t K h;split at h
  ·rename_i e;subst e;exact ⟨l,h,rfl,rfl,λh=>h,λ_ _ _ _ _ _ h=>h⟩
  ·split at h
   ·rename_i e;subst e;obtain ⟨ha,h⟩:=yf h;refine ⟨_,h,rfl,by simp,λ_=>rfl,λw N i h1 h2 es hr=>?_⟩;simp only [RelD] at hr;simp only [List.getElem_map];exact hr.2.2 (List.all_eq_true.1 ha _ (List.getElem_mem h1))
   ·cases h
 cases t
 case mx u =>
  simp only [convD] at h;split at h
  ·rename_i e;subst e;exact ⟨l,h,rfl,rfl,λh=>h,λ_ _ _ _ _ _ h=>h⟩
  ·split at h
   ·rename_i e;subst e;obtain ⟨hc,h⟩:=zB h;simp only [yR,Bool.not_eq_true',decide_eq_false_iff_not] at hc;refine ⟨_,h,rfl,by simp,λ_=>?_,λw N i h1 h2 es hr=>?_⟩
    ·simp [unm,hc.2]
    ·simp only [RelD,List.getElem_map];exact ⟨hc.1,hr.low,λ_=>hr⟩
   split at h
   ·rename_i e;subst e;obtain ⟨hc,h⟩:=zB h;simp only [yR,Bool.not_eq_true',decide_eq_false_iff_not] at hc;refine ⟨_,h,by simp only [Ty.size];exact (y3 u).symm,by simp,λ_=>?_,λw N i h1 h2 es hr=>?_⟩
    ·have hne:u.inn≠.u8:=λe=>by
      cases u <;> first | exact hc.2 rfl | (simp [Ty.inn] at e;done) | (exact absurd hc.1 (by simp [clT]))
     simp [unm,hne]
    ·simp only [RelD,List.getElem_map];exact ⟨hc.1,hr.innLow hc.1,λh=>by cases h⟩
   ·cases h
 all_goals exact plain h
theorem eff_append (hp:Hp F μ S.H S.nx w) {ρ:Operand->Value} {ρA:Operand->AV} {K:AV->St->Option α} (hρ:∀ x,RelG w (Not F μ S.H) μ S.H ρ (ρA x) (ρ x)) {C:zW} {args:Array Operand} {argTypes:Array TypeId}
  (h:evEff P C (.call ⟨.builtin .append,args,argTypes⟩) ρA S K=some r):EffOK P F μ S w ρ (.call ⟨.builtin .append,args,argTypes⟩) K r:=by
 simp only [evEff] at h;split at h
 ·rename_i sO xO t ts ha ht;have ha':args=#[sO,xO]:=by apply Array.ext';simpa using ha
  cases he:tE P t with
  | none=>simp [he] at h
  | some q =>
   obtain ⟨e,y0⟩:=q;simp only [he] at h;have hu:=sQ he;generalize mxOf S.H y0 (ρA xO)=y at h;obtain ⟨h1,h2⟩:=zB h;simp only [yR] at h1;obtain ⟨⟨⟨hs,hni⟩,hb1⟩,hz⟩:=h1;obtain ⟨t2,d2,hts,hu2,hd2⟩:=noInt_ok hni;subst hts;have ht':argTypes=#[t,t2]:=by apply Array.ext';simpa using ht
   subst ha';subst ht';obtain ⟨i,hi,hsz⟩:=szOK_info hs;have hby:P.bytesOf e=i.bytes:=by simp [Program.bytesOf,hi]
   rw [hby] at hb1;have hb1':1<=i.bytes:=Nat.le_of_ble_eq_true hb1
   obtain ⟨z,hzz,hzs⟩:∃ z,i.zero=some z/\z.cells.size=y.size:=by
    unfold zeroSz at hz;simp only [hi] at hz
    cases hzz:i.zero with
    | none=>simp [hzz] at hz
    | some z=>simp only [hzz] at hz;exact ⟨z,rfl,xi hz⟩
   obtain ⟨xs,h3,news,src⟩:=itemsOrStr_ok (P:=P) hp (hρ xO).rel h2
   have hop:∀ o:Oper,o.op=.call ⟨.builtin .append,#[sO,xO],#[t,t2]⟩->(execOp ρ o).run P w=((Builtin.append_ #[t,t2] o.type #[ρ sO,ρ xO]).run P w).andThen λv w'=>.ok (.value v) w':=λo ho=>by
    simp [execOp,ho,resolve,invoke,builtin]
   have hsO:=(hρ sO).rel
   cases hsv:ρA sO <;> simp only [hsv,reduceCtorEq] at h3 hsO
   case c u =>
    simp only [zA] at hsO;split at h3
    all_goals first
     | (cases h3;done)
     | (rename_i heq;cases heq;done)
     | skip
    all_goals
     rename_i heq
     cases heq;obtain ⟨h4,hK⟩:=yf h3;have h4':xs.length*i.bytes<=140737488355328:=by simpa [zH,hby] using h4
     refine vk (b:=S.nx) (kl:=[]) (nx':=S.nx+1) (l0:=[]) (_ty:=t) hp hu hu2 hd2 hi hzz hzs hsz hb1' src (.inl ⟨rfl,rfl,rfl,hsO,rfl⟩) (λ_ h=>absurd (hp.dead _ (Nat.le_refl _)) h) (by simpa using h4') hop ?_ λ_=>trivial
     simpa [yL,zv] using hK
   case wh b =>
    simp only [zA] at hsO;obtain ⟨t',l,hb,hv⟩:=hsO;simp only [hb] at h3;obtain ⟨l2,h3,hs2,hl2,hm2,hr2⟩:=convD_ok h3;obtain ⟨h4,hK⟩:=yf h3;have h4':(l2.length+xs.length)*i.bytes<=140737488355328:=by simpa [zH,hby] using h4
    refine vk (b:=b) (kl:=[b]) (nx':=S.nx) (l0:=l2) (_ty:=t) hp hu hu2 hd2 hi hzz hzs hsz hb1' src (.inr ⟨by simp [hb],rfl,rfl,?_⟩) (λh _=>by rw [hb];exact hm2 h) h4' hop hK λ_=>trivial
    rcases hv with ⟨g,c,hg,hv,hc,hrm⟩ | ⟨hg,hl0,hv⟩
    ·have hB:=hp.blk b;simp only [hb,za] at hB;rcases hB with ⟨hn,_⟩ | ⟨g',hg',_,hrows⟩
     ·rw [hg] at hn;cases hn
     ·rw [hg] at hg';cases hg';rw [<- hs2] at hrm hrows;refine .inr ⟨g,c,hg,by rw [hl2];exact hv,by rw [hl2];exact hc,hrm,λj hj=>?_⟩;obtain ⟨es,e1,e2,e3⟩:=hrows j (by rw [<- hl2];exact hj);exact ⟨es,e1,e2,hr2 w _ j _ hj es e3⟩
    ·exact .inl ⟨hg,hv,List.length_eq_zero_iff.1 (by rw [hl2,hl0];rfl)⟩
   case win b lo n =>
    simp only [zA] at hsO;obtain ⟨t',l,hb,hle,hv⟩:=hsO;simp only [hb] at h3;split at h3
    ·rename_i hty;subst hty;obtain ⟨h4,hK⟩:=yf h3;simp only [yR] at h4;have hlo:lo=0:=xi h4.2;subst hlo;have hln:(l.take n).length=n:=by simp;omega
     have h4':((l.take n).length+xs.length)*i.bytes<=140737488355328:=by rw [hln];simpa [zH,hby] using h4.1
     refine vk (b:=b) (kl:=[b]) (nx':=S.nx) (l0:=l.take n) (_ty:=t) hp hu hu2 hd2 hi hzz hzs hsz hb1' src (.inr ⟨by simp [hb],rfl,rfl,?_⟩) (λh _=>by rw [hb];exact h) h4' hop hK λ_=>trivial
     rcases hv with ⟨g,c,o,hg,hv,hc,hrm,ho⟩ | ⟨hg,hl0,hv⟩
     ·have ho0:o=0:=by rcases ho with rfl | ⟨_,ho⟩ <;> omega
      have hB:=hp.blk b;simp only [hb,za] at hB;rcases hB with ⟨hn,_⟩ | ⟨g',hg',_,hrows⟩
      ·rw [hg] at hn;cases hn
      ·rw [hg] at hg';cases hg';refine .inr ⟨g,c,hg,by rw [hln,hv,ho0];rfl,by omega,hrm,λj hj=>?_⟩;rw [hln] at hj;obtain ⟨es,e1,e2,e3⟩:=hrows j (by omega);exact ⟨es,e1,e2,by simpa using e3⟩
     ·subst hl0;exact .inl ⟨hg,hv,by simp⟩
    ·cases h3
 ·cases h
theorem eff_slice3v (hp:Hp F μ S.H S.nx w) {ρ:Operand->Value} {ρA:Operand->AV} {K:AV->St->Option α} (hρ:∀ x,RelG w (Not F μ S.H) μ S.H ρ (ρA x) (ρ x)) {t e:TypeId} {x hi mx:Operand} {lo:Option Operand} (hu:P.underlying t=some (.slice e))
  (h:slice3 P e ρA (some x) lo hi mx (λv=>K v S)=some r):EffOK P F μ S w ρ (.slice t x lo (some hi) (some mx)) K r:=by
 unfold slice3 at h;have hx:=(hρ x).rel;simp only [Option.map_some] at h
 cases hv:ρA x <;> simp only [hv,reduceCtorEq] at h hx;rename_i ty l;obtain ⟨hsz,h⟩:=zB h;obtain ⟨a,h,ba⟩:=xU hρ h;obtain ⟨k1,z,hz,h⟩:=xo (hρ hi).rel h;obtain ⟨k2,m,hm,h⟩:=xo (hρ mx).rel h;obtain ⟨hs,h⟩:=yf h;simp only [yR,xX] at hs;obtain ⟨⟨⟨s0,s1⟩,s2⟩,s3⟩:=hs;simp only [zA,RelD] at hx;obtain ⟨ad,c,hvv,hc,hrow⟩:=hx;simp only [List.cons.injEq,and_true] at hvv;have hlen:((l.drop a.toNat).take (z.toNat-a.toNat)).length=z.toNat-a.toNat:=by clear hrow;simp;omega
 have l1:z.toNat-a.toNat<=m.toNat-a.toNat:=by clear hrow;omega
 have l2:0<z.toNat-a.toNat->0<l.length/\¬ m.toNat=a.toNat:=by clear hrow;omega
 have l3:∀ i,i<z.toNat-a.toNat->a.toNat+i<l.length:=by clear hrow;intro i hi;omega
 have l4:m<=(c:Int):=by clear hrow;omega
 have l5:0<z.toNat-a.toNat->a.toNat+(z.toNat-a.toNat)<=l.length:=by clear hrow;omega
 refine ⟨_,_,μ,w,[],h,rfl,by simp,hp,Pl.keep hp (Chg.refl w),.slice (if m.toNat=a.toNat then ad else ad.map (·.add (a.toNat*ty.size))) (z.toNat-a.toNat) (m.toNat-a.toNat),λo ho=>.inl ?_,?_,trivial⟩
 ·simp [execOp,ho,hvv,hz,hm,tx hu hsz ba s0 s1 s2 l4]
 ·simp only [zA,RelD];refine ⟨if m.toNat=a.toNat then ad else ad.map (·.add (a.toNat*ty.size)),m.toNat-a.toNat,by rw [hlen],by rw [hlen];exact l1,λhp0=>?_⟩;rw [hlen] at hp0;obtain ⟨g,o,rfl,hn,hg,hu',hr⟩:=hrow (l2 hp0).1;have hne:¬ m.toNat=a.toNat:=(l2 hp0).2;refine ⟨g,o+a.toNat*ty.size,by simp [hne,xb],hn,hg,by rw [hlen];exact hu'.sub (l5 hp0),λi hi=>?_⟩;rw [hlen] at hi;obtain ⟨es,e1,e2,e3⟩:=hr (a.toNat+i) (l3 i hi);refine ⟨es,e1,?_,?_⟩
  ·rw [Nat.add_assoc,<- Nat.add_mul];exact e2
  ·have:((l.drop a.toNat).take (z.toNat-a.toNat))[i]'(by rw [hlen];exact hi)=l[a.toNat+i]'(l3 i hi):=by simp
   rw [this];exact e3
theorem eff_slice3w (hp:Hp F μ S.H S.nx w) {ρ:Operand->Value} {ρA:Operand->AV} {K:AV->St->Option α} (hρ:∀ x,RelG w (Not F μ S.H) μ S.H ρ (ρA x) (ρ x)) {t e:TypeId} {x hi mx:Operand} (hu:P.underlying t=some (.slice e)) {b:Nat} (hxv:ρA x=.wh b)
    (h:slice3w P e ρA b hi mx S K=some r):EffOK P F μ S w ρ (.slice t x none (some hi) (some mx)) K r:=by
  unfold slice3w at h;split at h
  . rename_i y l hb;obtain ⟨hsz,h⟩:=zB h;obtain ⟨k1,z,hz,h⟩:=xo (hρ hi).rel h;obtain ⟨k2,m,hm,h⟩:=xo (hρ mx).rel h;obtain ⟨hs,h⟩:=yf h;simp only [yR,xX] at hs;obtain ⟨⟨s0,s1⟩,s2⟩:=hs;have hx:=(hρ x).rel;rw [hxv] at hx;simp only [zA] at hx;obtain ⟨t',l',hb',hvv⟩:=hx;rw [hb] at hb'
    cases hb';have hB:=hp.blk b;simp only [hb,za] at hB;have hl:S.H b≠.dead:=by simp [hb]
    have hbn:b<S.nx:=by
      rcases Nat.lt_or_ge b S.nx with h | h
      . exact h
      . exact absurd (hp.dead b h) hl
    have hlen:(l.take z.toNat).length=z.toNat:=by clear hvv hB;simp;omega
    have hle:z.toNat<=m.toNat:=by clear hvv hB;omega
    have T:Turned F μ S.H S.nx w [b] b (μ b) (.data y (l.take z.toNat)) S.nx w :=
      { hp:=hp,os:=rfl,tape:=rfl,output:=rfl,size:=Nat.le_refl _,keep:=λ_ _ _=>rfl,at_:=λg hg=>.inl ⟨hl,hg⟩,mono:=Nat.le_refl _,lt:=hbn,live:=by simp
        kind:=λ_=>Pin.zero rfl
        mark:=λhu g hg=>hp.mark b g (by rw [hb];exact hu) hg
        wfm:=λg hg=>hp.wfm b g hl hg
        self:=λhk _=>by simp [zS] at hk }
    refine ⟨_,_,xD μ b (μ b),w,[b],h,rfl,rfl,T.hp' ?_,T.pl,.slice (match μ b with | some g=>some ⟨g,0,none⟩ | none=>none) z.toNat m.toNat,λo ho=>.inl ?_,?_,trivial⟩
    . simp only [za];rcases hB with ⟨hn,h0⟩ | ⟨g,hg,hrm,hrows⟩
      . exact .inl ⟨by rw [zN];exact hn,by rw [h0];simp⟩
      . refine .inr ⟨g,by rw [zN];exact hg,λk hk=>hrm k (Nat.lt_of_lt_of_le hk (uf _ (by rw [hlen];clear hvv hrows;omega))),λj hj=>?_⟩;rw [hlen] at hj;obtain ⟨es,e1,e2,e3⟩:=hrows j (by clear hvv hrows;omega);refine ⟨es,e1,e2,?_⟩;have:(l.take z.toNat)[j]'(by rw [hlen];exact hj)=l[j]'(by clear hvv hrows;omega):=by simp
        rw [this];exact e3.keep T.keepN T.notN
    . rcases hvv with ⟨g,c,hg,hv,hc,hrm⟩ | ⟨hg,hl0,hv⟩
      . have l4:m<=(c:Int):=by clear hB hrm;omega
        simp [execOp,ho,hv,hz,hm,tx hu hsz (.inl ⟨rfl,rfl⟩) (by omega) s0 s1 l4,hg,xb]
      . subst hl0;have m0:m=0:=by simp at s2;omega
        have z0:z=0:=by omega
        subst m0 z0;simp [execOp,ho,hv,hz,hm,tx hu hsz (.inl ⟨rfl,rfl⟩) (by omega) (by omega) (by omega) (show (0:Int)<=((0:Nat):Int) by simp),hg]
    . simp only [zA];refine ⟨y,l.take z.toNat,zf _ _ _,?_⟩;rw [zN,hlen];rcases hvv with ⟨g,c,hg,hv,hc,hrm⟩ | ⟨hg,hl0,hv⟩
      . refine .inl ⟨g,m.toNat,hg,by rw [hg],hle,λk hk=>hrm k (Nat.lt_of_lt_of_le hk (uf _ (by clear hB hrm;omega)))⟩
      . subst hl0;have m0:m=0:=by simp at s2;omega
        have z0:z=0:=by omega
        subst m0 z0;exact .inr ⟨hg,by simp,by rw [hg];rfl⟩
  . cases h
theorem eff_slice3 (hp:Hp F μ S.H S.nx w) {ρ:Operand->Value} {ρA:Operand->AV} {K:AV->St->Option α} (hρ:∀ x,RelG w (Not F μ S.H) μ S.H ρ (ρA x) (ρ x)) {C:zW} {t:TypeId} {x:Operand} {lo hi mx:Option Operand} (h:evEff P C (.slice t x lo hi mx) ρA S K=some r) :
  EffOK P F μ S w ρ (.slice t x lo hi mx) K r:=by
 cases hi with
 | none=>simp [evEff] at h
 | some hi =>
  cases mx with
  | none=>simp [evEff] at h
  | some mx =>
   simp only [evEff] at h;split at h
   ·rename_i e b hu hv;split at h
    ·exact eff_slice3w hp hρ hu hv h
    ·exact tv hp hρ h λS ρA hp hρ h=>eff_slice3v hp hρ hu h
   ·rename_i e y l hu hv;exact eff_slice3v hp hρ hu h
   ·cases h
theorem run_eff {C:zW} (hC:xw P C M) {o:Oper} {ρA:Operand->AV} {K:St->Option α} {Kp:AV->St->Option α} {next:Act->World->Prop} {Q:Exit->Act->World->Prop} (hr:Rg F μ done S a w) (hρ:∀ x,RelG w (Not F μ S.H) μ S.H a.eval (ρA x) (a.eval x))
  (hd:∀ d,o.dst=some d->d<a.tmps.size/\d∉done) (h:(evEff P C o.op ρA S (outK (mayPan o.op) o.dst K Kp))=some r)
  (hq:∀ x S' w' val,Kp x S'=some r->PPost F μ S.H S.nx S.kl w a x S' w' a val->Q (.panic [{ v:=val,recovered:=false }]) a w')
  (hf:∀ f,∀ g cs,ρA (.func f)=.fn g cs->g=f)
  (hn:∀ S' w' a',K S'=some r->Post F μ S w a (sR o++done) S' w' a'->Sure P M o a a' w w'->next a' w'):o.wp P a w next Q:=by
 have key:EffOK P F μ S w a.eval o.op (λv S'=>K (S'.put o.dst (yr v))) r->(∀ f args ts,o.op≠.call ⟨.value (.func f),args,ts⟩)->o.wp P a w next Q:=λhe hne=>eff_run hr hd he hne hn
 cases hop:o.op <;> rw [hop] at h key <;> try (simp only [evEff,reduceCtorEq] at h;done)
 case panic x =>
  simp only [evEff] at h;have hx:=(hρ x).rel
  cases hxv:ρA x <;> simp only [hxv,reduceCtorEq] at h hx;rename_i t y;have h:Kp (.ifc t y) S=some r:=h;have hx':=hx;simp only [zA] at hx;obtain ⟨val,hv,_⟩:=hx
  have hrun:(execOp a.eval o).run P w=.halt (.panic (.iface t val)) w:=by
   simp only [execOp,hop,hv];rfl
  unfold Oper.wp;rw [hrun];refine hq _ _ _ _ h ⟨⟨μ,[],by simp,Pl.refl hr.hp,hr.hp,?_⟩,rfl⟩;rw [<- hv];exact hx'
 case alloc=>exact key (eff_alloc hr.hp h) (by simp)
 case box=>exact key (eff_box hr.hp hρ h) (by simp)
 case buildSlice=>exact key (eff_buildSlice hr.hp hρ h) (by simp)
 case makeSlice=>exact key (eff_makeSlice hr.hp hρ h) (by simp)
 case store=>exact key (eff_store hr.hp hρ h) (by simp)
 case convert=>exact key (eff_toBytes hr.hp hρ h) (by simp)
 case slice=>exact key (eff_slice3 hr.hp hρ h) (by simp)
 case range=>exact key (eff_range hr.hp hρ h) (by simp)
 case next=>exact key (eff_next hr.hp hρ h) (by simp)
 case makeMap=>exact key (eff_makeMap hr.hp h) (by simp)
 case lookup=>exact key (eff_lookup hr.hp hρ h) (by simp)
 case mapUpdate=>exact key (eff_mapUpdate hr.hp hρ h) (by simp)
 case call c =>
  obtain ⟨callee,args,argTypes⟩:=c
  cases callee with
  | invoke=>simp [evEff] at h
  | builtin b=>cases b <;> first | (simp [evEff] at h;done) | exact key (eff_append hr.hp hρ h) (by simp) | exact key (eff_clear hr.hp hρ h) (by simp) | exact key (eff_delete hr.hp hρ h) (by simp) | exact key (eff_lenMap hr.hp hρ h) (by simp)
  | value f =>
   simp only [evEff] at h;have hfr:=(hρ f).rel
   cases hfv:ρA f <;> simp only [hfv,reduceCtorEq] at h hfr;rename_i g caps;simp only [zA] at hfr;obtain ⟨cv,hfe,hcaps⟩:=hfr;have hargs:zC w (Not F μ S.H) μ S.H (args.toList.map ρA++caps) (args.toList.map a.eval++cv):=x7 (RelVs_map hρ _) hcaps;rcases hC g _ S α _ r h F μ w _ hr.hp hargs with ⟨hcf,hcalls⟩ | ⟨v,val,hnp,hK,hvr,hcf⟩
   case inr =>
    have hrun:(execOp a.eval o).run P w=.ok (.value val) w:=by
     have e1:args.map a.eval++cv.toArray=(args.toList.map a.eval++cv).toArray:=by apply Array.ext';simp
     simp [execOp,hop,resolve,Deferred.ofValue,hfe,invoke,e1,hcf]
    have hK:K (S.put o.dst (yr v))=some r:=by
     cases v <;> first | exact hK | (simp [wk] at hnp)
    unfold Oper.wp;rw [hrun];refine hn _ _ _ hK ⟨⟨μ,[],?_,?_,hr.put' hd hvr⟩,Act.put_size _ _ _,Act.put_defers' _ _ _⟩ ⟨by rw [hop];trivial,λ_ _ _ _ _=>Keep.refl w,_,rfl⟩
    ·cases o.dst <;> simp [St.put]
    ·have:=Pl.refl hr.hp
     cases o.dst <;> exact this
   have hrun:(execOp a.eval o).run P w=.ok (.enter g (args.toList.map a.eval++cv).toArray) w:=by
    have e1:args.map a.eval++cv.toArray=(args.toList.map a.eval++cv).toArray:=by apply Array.ext';simp
    simp [execOp,hop,resolve,Deferred.ofValue,hfe,invoke,e1,hcf]
   unfold Oper.wp;rw [hrun];refine hcalls.mono λe w' he=>?_
   obtain ⟨v,S',μ',kl,val,hend,hK,hE,hkl,hp',hpl,hvr,hmild⟩:=he
   cases hnp:wk v with
   | false =>
    cases v <;> simp only [wk,Bool.true_eq_false] at hnp;rename_i x;have hend:e=.panicked [{ v:=val,recovered:=false }]:=hend;subst hend;simp only [zA] at hvr;exact hq x S' w' val hK ⟨⟨μ',kl,hkl,hpl,hp',hvr⟩,rfl⟩
   | true =>
   obtain rfl:=(EndR.ret hnp).1 hend
   have hK:K (S'.put o.dst (yr v))=some r:=by
    cases v <;> first | exact hK | (simp [wk] at hnp)
   have hrg:Rg F μ' done S' a w':=⟨hp',by rw [hE];exact hr.e.kill hpl.tr,by rw [hE];exact tags_kill hr.tags⟩;refine hn _ _ _ hK ⟨⟨μ',kl,?_,?_,hrg.put' hd hvr⟩,Act.put_size _ _ _,Act.put_defers' _ _ _⟩ ⟨by rw [hop];trivial,λf0 args0 ts0 he hM=>?_,_,rfl⟩
   ·cases o.dst <;> exact hkl
   ·cases o.dst <;> exact hpl
   ·rw [hop] at he;simp only [Op.call.injEq,Call.mk.injEq,Callee.value.injEq] at he;obtain ⟨rfl,_,_⟩:=he;exact hmild (by rw [hf f0 g caps hfv];exact hM)
end
end Go.Ev
namespace Go.Ev
open Go
section
variable {P:Program} {F:Frm (zJ P)} {μ μ':Nat->Option Nat} {S S':St} {w w':World} {a a':Act} {done:List Nat} {α:Type} {r:α} {M:FuncId->Bool}
theorem relUndef {w:World} {N:NN} {μ:Nat->Option Nat} {H:Nat->Blk}:zA w N μ H (.tup []) undef:=⟨[],rfl,rfl⟩
theorem hasN_not {l:List Nat} {j:Nat} (h:zS l j=false):j∉l:=λhm=>by
 rw [zc.2 hm] at h;cases h
def Reads (E:Nat->AV) (ρA:Operand->AV):Prop:=∀ x,ρA x=opd E x\/∃ j b,ρA x=unG j b (opd E x)
def ValStep (P:Program) (X:Nat->Nat->Prop) {T:Tb} (F:Frm T) (μ:Nat->Option Nat) (done:List Nat) (S:St) (a:Act) (w:World) (ops:Array Oper) (o:Oper) {α:Type} (K:St->Option α) (r:α):Prop :=
 ∃ v val,K (S.put o.dst v)=some r/\Rg F μ (sR o++done) (S.put o.dst v) (a.put o.dst val) w /\
  ((Region.wanted o (yielded ops a.tmps)=true/\∀ w',Agr X w w'->(execOp a.eval o).run P w'=.ok (.value val) w')\/(Region.wanted o (yielded ops a.tmps)=false/\val=undef))
theorem y7 {q:Bool} {p:Prop} (h:q=true<->p) (hp:¬ p):q=false:=by
 cases q <;> simp_all
theorem gVal_ok {X:Nat->Nat->Prop} {chk:Check} {ops:Array Oper} {o:Oper} {K:St->Option α} {g j:Nat} {b c:Bool} (hr:Rg F μ done S a w)
  (hd:∀ d,o.dst=some d->d<a.tmps.size/\d∉done) (hchk:∀ ρA,(∀ x,RelG w (Not F μ S.H) μ S.H a.eval (ρA x) (a.eval x))->Reads S.E ρA->chk o.op ρA S.E=true->FreeOp P X a.eval o.op)
  (ho:o.guard=some (g,b)) (hs:slotOf ops g=some j) (hj:j∈done) (hc:a.tmps.getD j undef=.bool b->c=b)
  (h:gVal P chk j b c o S K=some r):ValStep P X F μ done S a w ops o K r:=by
 have hw:=wanted_iff (a:=a) ho hs;unfold gVal at h;obtain ⟨h0,h1⟩:=zB h;by_cases hb:a.tmps.getD j undef=.bool b
 ·have hρ:=unG_ok hr.e hb;obtain ⟨side,v,hK,hs'⟩:=evVal_ok (X:=X) hr.hp hρ (λ_=>rfl) (hchk _ hρ (λ_=>.inr ⟨_,_,rfl⟩) h0) h1;obtain ⟨h2,h3⟩:=yf hK
  have hside:side=true:=by
   have:=hc hb
   subst this
   cases side <;> cases c <;> simp_all
  obtain ⟨val,hv,hy⟩:=hs' hside;refine ⟨_,val,h3,hr.put hd ⟨hj,.inl ⟨hb,noGd_rel hv⟩⟩,.inl ⟨hw.2 hb,hy o rfl⟩⟩
 ·obtain ⟨side,v,hK⟩:=evVal_cps h1;obtain ⟨h2,h3⟩:=yf hK;exact ⟨_,undef,h3,hr.put hd ⟨hj,.inr ⟨hb,rfl⟩⟩,.inr ⟨y7 hw hb,rfl⟩⟩
theorem yY {N:NN} {H:Nat->Blk} {E:Nat->AV} {tmps:Array Value} {t:Nat} (h:RelE w N μ H E tmps):∀ {v:AV},E t=v->(match v with
  | .gd j b x=>(tmps.getD j undef=.bool b/\zA w N μ H x (tmps.getD t undef))\/(tmps.getD j undef≠.bool b/\tmps.getD t undef=undef)
  | x=>zA w N μ H x (tmps.getD t undef)):=by
 intro v hv;subst hv;exact h t
theorem lvOf_true {N:NN} {H:Nat->Blk} {E:Nat->AV} {tmps:Array Value} (h:RelE w N μ H E tmps) {j:Nat} {b l:Bool} (hj:tmps.getD j undef=.bool b) (hl:lvOf (E j) b=some l):l=true:=by
 have hs:=h j
 cases hE:E j <;> rw [hE] at hl hs <;> simp only [lvOf,reduceCtorEq] at hl
 case b x =>
  simp only [zA] at hs;rw [hj] at hs;simp only [Value.bool.injEq] at hs;subst hs
  cases b <;> simpa using hl.symm
 case gd j' w' y =>
  cases y <;> simp only [reduceCtorEq] at hl;simp only [zA] at hs;rcases hs with ⟨_,h2⟩ | ⟨_,h2⟩
  ·rw [hj] at h2;simp only [Value.bool.injEq] at h2;subst h2
   cases b <;> simpa using hl.symm
  ·rw [hj] at h2;simp [undef] at h2
theorem lvIn_true {N:NN} {H:Nat->Blk} {E:Nat->AV} {tmps:Array Value} (h:RelE w N μ H E tmps) {j:Nat} {b l:Bool} (hj:tmps.getD j undef=.bool b) (hl:lvIn E (E j) b=some l):l=true:=by
 unfold lvIn at hl;split at hl
 ·rename_i j' w' y hE;have hs:=yY h hE;simp only at hs;rcases hs with ⟨h1,_⟩ | ⟨_,h2⟩
  ·have t1:∀ x,lvOf (E j) b=some x->x=true:=λx hx=>lvOf_true h hj hx
   have t2:∀ x,lvOf (E j') w'=some x->x=true:=λx hx=>lvOf_true h h1 hx
   cases h3:lvOf (E j) b with
   | none =>
    rw [h3] at hl;exact t2 _ hl
   | some x =>
    have:=t1 x h3
    subst this;rw [h3] at hl
    cases h4:lvOf (E j') w' with
    | none=>rw [h4] at hl;simpa [lvAnd] using hl.symm
    | some y =>
     have:=t2 y h4
     subst this;rw [h4] at hl;simpa [lvAnd] using hl.symm
  ·rw [hj] at h2;simp [undef] at h2
 ·exact lvOf_true h hj hl
theorem gC_eq {w c:Bool} {l:Option Bool} (h:∀ x,l=some x->x=true):gC w c l=c:=by
 cases l with
 | none=>rfl
 | some x =>
  have:=h x rfl
  subst this
  cases w <;> cases c <;> rfl
theorem evOp_val {X:Nat->Nat->Prop} {C:zW} {chk:Check} {ops:Array Oper} {o:Oper} {K:St->Option α} {Kp:AV->St->Option α} (hv:uw P o.op=true) (hr:Rg F μ done S a w)
  (hd:∀ d,o.dst=some d->d<a.tmps.size/\d∉done) (hchk:∀ ρA,(∀ x,RelG w (Not F μ S.H) μ S.H a.eval (ρA x) (a.eval x))->Reads S.E ρA->chk o.op ρA S.E=true->FreeOp P X a.eval o.op)
  (h:evOp P C chk ops done o S K Kp=some r):ValStep P X F μ done S a w ops o K r:=by
 have run:∀ {ρA},(∀ x,RelG w (Not F μ S.H) μ S.H a.eval (ρA x) (a.eval x))->Reads S.E ρA->Region.wanted o (yielded ops a.tmps)=true->evRun P C chk o ρA S K Kp=some r->ValStep P X F μ done S a w ops o K r:=by
  intro ρA hρ hrd hw h;unfold evRun at h;simp only [hv,zI] at h;obtain ⟨h0,h1⟩:=zB h;obtain ⟨v,val,h2,h3,h4⟩:=run_val hr hρ hd (hchk _ hρ hrd h0) h1;exact ⟨v,val,h2,h3,.inl ⟨hw,h4⟩⟩
 unfold evOp at h
 cases hg:o.guard with
 | none =>
  simp only [hg,hv,zI] at h;exact run (opd_ok hr.e) (λ_=>.inl rfl) (by simp [Region.wanted,hg]) h
 | some q =>
  obtain ⟨g,b⟩:=q;simp only [hg] at h
  cases hs:slotOf ops g with
  | none=>simp [hs] at h
  | some j =>
   simp only [hs] at h;have hw:=wanted_iff (a:=a) hg hs
   cases hE:S.E j <;> simp only [hE,reduceCtorEq] at h
   case kb x =>
    have sl:=yY hr.e hE;simp only [zA] at sl;by_cases hx:x=b
    ·subst hx;simp only [BEq.rfl,zI] at h;exact run (unG_ok hr.e sl) (λ_=>.inr ⟨_,_,rfl⟩) (hw.2 sl) h
    ·have hxb:(x == b)=false:=by simpa using hx
     simp only [hxb,zK] at h;refine ⟨.tup [],undef,h,hr.put hd relUndef,.inr ⟨y7 hw ?_,rfl⟩⟩;rw [sl];simpa using hx
   case tup cs =>
    cases cs <;> simp only [reduceCtorEq] at h;have sl:=yY hr.e hE;simp only [zA,zC] at sl;obtain ⟨vs,sl,rfl⟩:=sl;refine ⟨.tup [],undef,h,hr.put hd relUndef,.inr ⟨y7 hw ?_,rfl⟩⟩;rw [sl];simp
   case b c =>
    have sl:=yY hr.e hE;simp only [zA] at sl;obtain ⟨h0,h1⟩:=zB h;simp only [hv,zI] at h1;exact gVal_ok hr hd hchk hg hs (zc.1 h0) (λe=>by rw [sl] at e;simpa using e) h1
   case gd j' w' y =>
    have body:∀ c:Bool,((a.tmps.getD j' undef=.bool w'/\a.tmps.getD j undef=.bool c)\/(a.tmps.getD j' undef≠.bool w'/\a.tmps.getD j undef=undef))->evGd P C chk done o S K Kp j b j' w' c=some r->ValStep P X F μ done S a w ops o K r:=by
     intro c sl h;unfold evGd at h;obtain ⟨h0,h1⟩:=zB h;simp only [hv,zI] at h1
     cases hru:ruled (S.E j') w' with
     | true =>
      simp only [hru,zI] at h1;refine ⟨.tup [],undef,h1,hr.put hd relUndef,.inr ⟨y7 hw ?_,rfl⟩⟩;unfold ruled at hru;split at hru
      ·rename_i x hx;have sl':=yY hr.e hx;simp only [zA] at sl';rcases sl with ⟨e1,_⟩ | ⟨_,e2⟩
       ·rw [sl'] at e1;simp only [Value.bool.injEq] at e1;subst e1;simp at hru
       ·rw [e2];simp [undef]
      ·cases hru
     | false =>
     simp only [hru,zK] at h1;refine gVal_ok hr hd hchk hg hs (zc.1 h0) (λe=>?_) h1;rcases sl with ⟨e1,e2⟩ | ⟨_,e2⟩
     ·rw [gC_eq λx hx=>lvIn_true hr.e e1 hx];rw [e2] at e;simpa using e
     ·rw [e2] at e;simp [undef] at e
    cases y <;> simp only [reduceCtorEq] at h
    case b c =>
     have sl:=yY hr.e hE;simp only [zA] at sl;exact body c sl h
    case kb c =>
     have sl:=yY hr.e hE;simp only [zA] at sl
     cases hcb:c == b with
     | true=>rw [hcb,zI] at h;exact body c sl h
     | false =>
      simp only [hcb,zK] at h;refine ⟨.tup [],undef,h,hr.put hd relUndef,.inr ⟨y7 hw ?_,rfl⟩⟩;rcases sl with ⟨_,e2⟩ | ⟨_,e2⟩
      ·rw [e2];simpa using hcb
      ·rw [e2];simp [undef]
theorem Rg.know (hr:Rg F μ done S a w) {j:Nat} {v:AV} (hv:zA w (Not F μ S.H) μ S.H v (a.tmps.getD j undef)) (hn:yr v=v):Rg F μ done ⟨upd S.E j v,S.H,S.nx,S.kl⟩ a w where
 hp:=hr.hp
 e:=λt=>by
  by_cases ht:t=j
  ·subst ht
   show (match upd S.E t v t with
    | .gd j b x=>_
    | x=>zA w (Not F μ S.H) μ S.H x (a.tmps.getD t undef))
   rw [wc]
   cases v <;> first | exact hv | simp [yr] at hn
  ·show (match upd S.E j v t with
    | .gd j b x=>(a.tmps.getD j undef=.bool b/\zA w (Not F μ S.H) μ S.H x (a.tmps.getD t undef))\/(a.tmps.getD j undef≠.bool b/\a.tmps.getD t undef=undef)
    | x=>zA w (Not F μ S.H) μ S.H x (a.tmps.getD t undef))
   rw [xc ht];exact hr.e t
 tags:=λt j' b x hE=>by
  by_cases ht:t=j
  ·subst ht;simp only [wc] at hE;subst hE;simp [yr] at hn
  ·simp only [xc ht] at hE;exact hr.tags t j' b x hE
theorem Post.of_know {j:Nat} {v:AV} (h:Post F μ ⟨upd S.E j v,S.H,S.nx,S.kl⟩ w a done S' w' a'):Post F μ S w a done S' w' a':=by
 obtain ⟨⟨μ',kl,h1,h2,h3⟩,h4,h5⟩:=h;exact ⟨⟨μ',kl,h1,h2,h3⟩,h4,h5⟩
theorem post_skip (hr:Rg F μ done S a w) {dst:Option Nat} (hd:∀ d,dst=some d->d<a.tmps.size/\d∉done):Post F μ S w a (dst.toList++done) (S.put dst (.tup [])) w (a.put dst undef):=by
 refine ⟨⟨μ,[],by cases dst <;> simp [St.put],?_,hr.put hd relUndef⟩,Act.put_size _ _ _,Act.put_defers' _ _ _⟩
 have:=Pl.refl hr.hp
 cases dst <;> exact this
def wA (P:Program) (ops:Array Oper) (o:Oper) (a:Act) (w:World) (next:Act->World->Prop) (Q:Exit->Act->World->Prop):Prop :=
 if Region.wanted o (yielded ops a.tmps) then o.wp P a w next Q else next (a.put o.dst undef) w
theorem opd_func {E:Nat->AV} (f:FuncId):∀ g cs,opd E (.func f)=.fn g cs->g=f:=by
 intro g cs h;simp only [opd,AV.fn.injEq] at h;exact h.1.symm
theorem sealV_gd {H:Nat->Blk} {ks:List Nat} {v:AV} {j:Nat} {b:Bool} {x:AV} (h:y9 H ks v=.gd j b x):∃ y,v=.gd j b y:=by
 have:=sealV_ng H ks v
 rw [h] at this
 cases this
theorem Rg.sealE (hr:Rg F μ done S a w) (k:Nat) (ks:List Nat):Rg F μ done (S.sealE (k::ks)) a w where
 hp:=seal_hp hr.hp
 e:=λt=>by
  have ht:=hr.e t;by_cases hg:∃ j b x,S.E t=.gd j b x
  ·obtain ⟨j,b,x,hE⟩:=hg;have hk:=(hr.e.kill (seal_pl (F:=F) (μ:=μ) (w:=w) (S:=S) (ks:=k::ks)).tr) t;rw [killsE_eq,hE] at hk
   show match y9 S.H (k::ks) (S.E t) with
    | .gd j b x=>_
    | x=>_
   rw [hE];exact hk
  ·have hx:zA w (Not F μ S.H) μ S.H (S.E t) (a.tmps.getD t undef):=by
    cases hE:S.E t <;> rw [hE] at ht <;> first | exact ht | exact absurd ⟨_,_,_,hE⟩ hg
   have hv:=sealV_ok (ks:=k::ks) hr.hp _ _ hx
   have hng:∀ j b x,y9 S.H (k::ks) (S.E t)≠.gd j b x:=λj b x h=>by
    obtain ⟨y,hy⟩:=sealV_gd h;exact hg ⟨_,_,_,hy⟩
   show match y9 S.H (k::ks) (S.E t) with
    | .gd j b x=>_
    | x=>_
   generalize y9 S.H (k::ks) (S.E t)=y at hv hng
   cases y <;> first | exact hv | exact absurd rfl (hng _ _ _)
 tags:=λt j b x h=>by
  obtain ⟨y,hy⟩:=sealV_gd h;exact hr.tags t j b y hy
theorem Post.of_seal {ks:List Nat} {S':St} {w':World} {a':Act} {done':List Nat} (h:Post F μ (S.sealE ks) w a done' S' w' a'):Post F μ S w a done' S' w' a':=by
 obtain ⟨⟨μ',kl,h1,h2,h3⟩,h4,h5⟩:=h;refine ⟨⟨μ',ks++kl,?_,(seal_pl (S:=S) (ks:=ks)).trans h2,h3⟩,h4,h5⟩;rw [h1];simp only [St.sealE,lAs]
theorem PPost.of_seal {ks:List Nat} {x:AV} {S':St} {w':World} {a':Act} {val:Value} (h:PPost F μ (S.sealE ks).H (S.sealE ks).nx (S.sealE ks).kl w a x S' w' a' val):PPost F μ S.H S.nx S.kl w a x S' w' a' val:=by
 obtain ⟨⟨μ',kl,h1,h2,h3⟩,h4⟩:=h;refine ⟨⟨μ',ks++kl,?_,(seal_pl (S:=S) (ks:=ks)).trans h2,h3⟩,h4⟩;rw [h1];simp only [St.sealE,lAs]
theorem evOp_eff {C:zW} (hC:xw P C M) {chk:Check} {ops:Array Oper} {o:Oper} {K:St->Option α} {Kp:AV->St->Option α} {next:Act->World->Prop} {Q:Exit->Act->World->Prop} (hv:uw P o.op=false) (hr:Rg F μ done S a w)
  (hd:∀ d,o.dst=some d->d<a.tmps.size/\d∉done) (h:evOp P C chk ops done o S K Kp=some r)
  (hq:∀ x S' w' val,Kp x S'=some r->PPost F μ S.H S.nx S.kl w a x S' w' a val->Q (.panic [{ v:=val,recovered:=false }]) a w')
  (hn:∀ S' w' a',K S'=some r->Post F μ S w a (sR o++done) S' w' a'->Sure P M o a a' w w'->next a' w'):wA P ops o a w next Q:=by
 have run:∀ {S0:St} {ρA},Rg F μ done S0 a w->(S0.H=S.H/\S0.nx=S.nx/\S0.kl=S.kl)->(∀ {S' w' a'},Post F μ S0 w a (sR o++done) S' w' a'->Post F μ S w a (sR o++done) S' w' a')->(∀ x,RelG w (Not F μ S0.H) μ S0.H a.eval (ρA x) (a.eval x)) ->
   (∀ f,∀ g cs,ρA (.func f)=.fn g cs->g=f)->Region.wanted o (yielded ops a.tmps)=true->evRun P C chk o ρA S0 K Kp=some r->wA P ops o a w next Q:=by
  intro S0 ρA hr0 hsm hp hρ hf hw h;unfold evRun at h;simp only [hv,zK] at h;unfold wA;rw [if_pos hw];exact run_eff hC hr0 hρ hd h (λx S' w' val h1 h2=>hq x S' w' val h1 (by rw [<- hsm.1,<- hsm.2.1,<- hsm.2.2];exact h2)) hf λS' w' a' h1 h2 h3=>hn S' w' a' h1 (hp h2) h3
 have skip:∀ {S0:St},Rg F μ done S0 a w->(∀ {S' w' a'},Post F μ S0 w a (sR o++done) S' w' a'->Post F μ S w a (sR o++done) S' w' a')->Region.wanted o (yielded ops a.tmps)=false ->
   K (S0.put o.dst (.tup []))=some r->wA P ops o a w next Q:=by
  intro S0 hr0 hp hw h;unfold wA;rw [if_neg (by simp [hw])];exact hn _ _ _ h (hp (post_skip hr0 hd)) (Sure.skip w)
 have unf:∀ {E:Nat->AV} {j:Nat} {b:Bool} (f:FuncId),∀ g cs,unG j b (opd E (.func f))=.fn g cs->g=f:=by
  intro E j b f g cs h;simp only [opd,unG,AV.fn.injEq] at h;exact h.1.symm
 unfold evOp at h
 cases hg:o.guard with
 | none =>
  simp only [hg,hv,zK] at h;split at h
  ·exact run hr ⟨rfl,rfl,rfl⟩ id (opd_ok hr.e) opd_func (by simp [Region.wanted,hg]) h
  ·rename_i k ks _;have hr1:=hr.sealE k ks;unfold evRun at h;simp only [hv,zK] at h;unfold wA;rw [if_pos (by simp [Region.wanted,hg])];exact run_eff hC hr1 (opd_ok hr1.e) hd h (λx S' w' val h1 h2=>hq x S' w' val h1 h2.of_seal) opd_func λS' w' a' h1 h2 h3=>hn S' w' a' h1 h2.of_seal h3
 | some q =>
  obtain ⟨g,b⟩:=q;simp only [hg] at h
  cases hs:slotOf ops g with
  | none=>simp [hs] at h
  | some j =>
   simp only [hs] at h;have hw:=wanted_iff (a:=a) hg hs
   have eff:∀ {S0:St} {c:Bool},Rg F μ done S0 a w->(S0.H=S.H/\S0.nx=S.nx/\S0.kl=S.kl)->(∀ {S' w' a'},Post F μ S0 w a (sR o++done) S' w' a'->Post F μ S w a (sR o++done) S' w' a')->a.tmps.getD j undef=.bool c ->
     (gEff P C chk j b c o S0 K Kp=some r)->wA P ops o a w next Q:=by
    intro S0 c hr0 hsm hp hc h;unfold gEff at h;have same:cond b c (!c)=(c == b):=by cases b <;> cases c <;> rfl
    rw [same] at h;by_cases hcb:c=b
    ·subst hcb;simp only [BEq.rfl,zI] at h;exact run (hr0.know (v:=.kb c) (by simpa [zA] using hc) rfl) hsm (λh=>hp h.of_know) (unG_ok hr0.e hc) unf (hw.2 hc) h
    ·have hxb:(c == b)=false:=by simpa using hcb
     simp only [hxb,zK] at h;have hcn:c=!b:=by cases b <;> cases c <;> simp_all
     exact skip (hr0.know (v:=.kb (!b)) (by rw [hc,hcn];rfl) rfl) (λh=>hp h.of_know) (y7 hw (by rw [hc];simpa using hcb)) h
   cases hE:S.E j <;> simp only [hE,reduceCtorEq] at h
   case kb x =>
    have sl:=yY hr.e hE;simp only [zA] at sl;by_cases hx:x=b
    ·subst hx;simp only [BEq.rfl,zI] at h;exact run hr ⟨rfl,rfl,rfl⟩ id (unG_ok hr.e sl) unf (hw.2 sl) h
    ·have hxb:(x == b)=false:=by simpa using hx
     simp only [hxb,zK] at h;exact skip hr id (y7 hw (by rw [sl];simpa using hx)) h
   case tup cs =>
    cases cs <;> simp only [reduceCtorEq] at h;have sl:=yY hr.e hE;simp only [zA,zC] at sl;obtain ⟨vs,sl,rfl⟩:=sl;exact skip hr id (y7 hw (by rw [sl];simp)) h
   case b c =>
    have sl:=yY hr.e hE;simp only [zA] at sl;obtain ⟨h0,h1⟩:=zB h;simp only [hv,zK] at h1;exact eff hr ⟨rfl,rfl,rfl⟩ id sl h1
   case gd j' w' y =>
    have body:∀ c:Bool,((a.tmps.getD j' undef=.bool w'/\a.tmps.getD j undef=.bool c)\/(a.tmps.getD j' undef≠.bool w'/\a.tmps.getD j undef=undef))->evGd P C chk done o S K Kp j b j' w' c=some r->wA P ops o a w next Q:=by
     intro c sl h;unfold evGd at h;obtain ⟨h0,h1⟩:=zB h;simp only [hv,zK] at h1
     have no:a.tmps.getD j' undef≠.bool w'->Region.wanted o (yielded ops a.tmps)=false:=λhne=>by
      rcases sl with ⟨e1,_⟩ | ⟨_,e2⟩
      ·exact absurd e1 hne
      ·exact y7 hw (by rw [e2];simp [undef])
     have yes:a.tmps.getD j' undef=.bool w'->a.tmps.getD j undef=.bool c:=λhe=>by
      rcases sl with ⟨_,e2⟩ | ⟨e1,_⟩
      ·exact e2
      ·exact absurd he e1
     cases hE':S.E j' <;> simp only [hE',reduceCtorEq] at h1
     case b c' =>
      have sl':=yY hr.e hE';simp only [zA] at sl';have same:cond w' c' (!c')=(c' == w'):=by cases w' <;> cases c' <;> rfl
      rw [same] at h1;by_cases hcb:c'=w'
      ·subst hcb;simp only [BEq.rfl,zI] at h1;have hjc:=yes sl';have r1:=hr.know (j:=j') (v:=.kb c') (by simpa [zA] using sl') rfl;have r2:=r1.know (j:=j) (v:=.b c) (by simpa [zA] using hjc) rfl;exact eff r2 ⟨rfl,rfl,rfl⟩ (λh=>(h.of_know (S:=⟨_,S.H,S.nx,S.kl⟩)).of_know) hjc h1
      ·have hxb:(c' == w')=false:=by simpa using hcb
       simp only [hxb,zK] at h1;have hcn:c'=!w':=by cases w' <;> cases c' <;> simp_all
       have r1:=hr.know (j:=j') (v:=.kb (!w')) (by rw [sl',hcn];rfl) rfl;exact skip r1 (λh=>h.of_know) (no (by rw [sl'];simpa using hcb)) h1
     case kb x =>
      have sl':=yY hr.e hE';simp only [zA] at sl';by_cases hcb:x=w'
      ·subst hcb;simp only [BEq.rfl,zI] at h1;have hjc:=yes sl';have r2:=hr.know (j:=j) (v:=.b c) (by simpa [zA] using hjc) rfl;exact eff r2 ⟨rfl,rfl,rfl⟩ (λh=>h.of_know) hjc h1
      ·have hxb:(x == w')=false:=by simpa using hcb
       simp only [hxb,zK] at h1;exact skip hr id (no (by rw [sl'];simpa using hcb)) h1
    cases y <;> simp only [reduceCtorEq] at h
    case b c =>
     have sl:=yY hr.e hE;simp only [zA] at sl;exact body c sl h
    case kb c =>
     have sl:=yY hr.e hE;simp only [zA] at sl
     cases hcb:c == b with
     | true=>rw [hcb,zI] at h;exact body c sl h
     | false =>
      simp only [hcb,zK] at h;refine skip hr id (y7 hw ?_) h;rcases sl with ⟨_,e2⟩ | ⟨_,e2⟩
      ·rw [e2];simpa using hcb
      ·rw [e2];simp [undef]
theorem fresh_ok {n:Nat} {dst:Option Nat} (h:fresh n done dst=true):∀ d,dst=some d->d<n/\d∉done:=by
 intro d hd;subst hd;simp only [fresh,yR,Bool.not_eq_true'] at h;exact ⟨Nat.le_of_ble_eq_true h.1,hasN_not h.2⟩
end
end Go.Ev
namespace Go.Ev
open Go
section
variable {P:Program} {F:Frm (zJ P)} {μ μ':Nat->Option Nat} {S S':St} {w w':World} {a a':Act} {done:List Nat} {α:Type} {r:α} {M:FuncId->Bool}
theorem Post.of_val (hr:Rg F μ done S a w) {dst:Option Nat} {v:AV} {val:Value} {done':List Nat} (h:Rg F μ done' (S.put dst v) (a.put dst val) w):Post F μ S w a done' (S.put dst v) w (a.put dst val):=by
 refine ⟨⟨μ,[],by cases dst <;> simp [St.put],?_,h⟩,Act.put_size _ _ _,Act.put_defers' _ _ _⟩
 have:=Pl.refl hr.hp
 cases dst <;> exact this
theorem evOp_ok {C:zW} (hC:xw P C M) {chk:Check} {ops:Array Oper} {o:Oper} {K:St->Option α} {Kp:AV->St->Option α} {next:Act->World->Prop} {Q:Exit->Act->World->Prop} (hr:Rg F μ done S a w)
  (hd:∀ d,o.dst=some d->d<a.tmps.size/\d∉done) (h:evOp P C chk ops done o S K Kp=some r)
  (hq:∀ x S' w' a' val,Kp x S'=some r->PPost F μ S.H S.nx S.kl w a x S' w' a' val->Q (.panic [{ v:=val,recovered:=false }]) a' w')
  (hn:∀ S' w' a',K S'=some r->Post F μ S w a (sR o++done) S' w' a'->next a' w'):wA P ops o a w next Q:=by
 cases hv:uw P o.op with
 | false=>exact evOp_eff hC hv hr hd h (λx S' w' val h1 h2=>hq x S' w' a val h1 h2) λS' w' a' h1 h2 _=>hn S' w' a' h1 h2
 | true =>
  obtain ⟨v,val,hK,hrg,hy⟩:=evOp_val (X:=λ_ _=>False) hv hr hd (λ_ _ _ _=>.none) h
  have:=hn _ w _ hK (.of_val hr hrg)
  unfold wA;rcases hy with ⟨h1,h2⟩ | ⟨h1,h2⟩
  ·rw [if_pos h1];unfold Oper.wp;rw [h2 w (Agr.refl w)];exact this
  ·rw [if_neg (by simp [h1]),<- h2];exact this
theorem Post.trans {d1 d2:List Nat} {S1 S2:St} {w1 w2:World} {a1 a2:Act} (h:∃ μ' kl,S1.kl=S.kl++kl/\Pl F μ S.H S.nx w kl μ' S1.H S1.nx w1/\Rg F μ' d1 S1 a1 w1/\Post F μ' S1 w1 a1 d2 S2 w2 a2)
  (hs:a1.tmps.size=a.tmps.size) (hd:a1.defers=a.defers):Post F μ S w a d2 S2 w2 a2:=by
 obtain ⟨μ',kl,h1,h2,_,⟨⟨μ'',kl',g1,g2,g3⟩,g4,g5⟩⟩:=h;exact ⟨⟨μ'',kl++kl',by rw [g1,h1,lAs],h2.trans g2,g3⟩,g4.trans hs,g5.trans hd⟩
theorem Post.refl (hr:Rg F μ done S a w):Post F μ S w a done S w a:=⟨⟨μ,[],by simp,Pl.refl hr.hp,hr⟩,rfl,rfl⟩
theorem PPost.trans {x:AV} {S1 S2:St} {w1 w2:World} {a1 a2:Act} {val:Value} (h:∃ μ' kl,S1.kl=S.kl++kl/\Pl F μ S.H S.nx w kl μ' S1.H S1.nx w1/\PPost F μ' S1.H S1.nx S1.kl w1 a1 x S2 w2 a2 val)
  (hd:a1.defers=a.defers):PPost F μ S.H S.nx S.kl w a x S2 w2 a2 val:=by
 obtain ⟨μ',kl,h1,h2,⟨⟨μ'',kl',g1,g2,g3,g4⟩,g5⟩⟩:=h;exact ⟨⟨μ'',kl++kl',by rw [g1,h1,lAs],h2.trans g2,g3,g4⟩,g5.trans hd⟩
theorem wpOps_turn {ops:Array Oper} {Q:Exit->Act->World->Prop} {k:Nat} {rest:List Nat} {o:Oper} (ho:ops[k]?=some o) (h:wA P ops o a w (wpOps P ops Q rest) Q):wpOps P ops Q (k::rest) a w:=by
 simp only [wpOps,ho];unfold wA at h;split
 ·rename_i hw;rw [if_pos hw] at h;exact .inl h
 ·rename_i hw;rw [if_neg hw] at h;exact h
theorem turns_ok {C:zW} (hC:xw P C M) {n:Nat} {ops:Array Oper} {Q:Exit->Act->World->Prop} {K:St->Option α} {Kp:AV->St->Option α}:∀ (l:List Oper) (k:Nat) (F:Frm (zJ P)) (μ:Nat->Option Nat) (done:List Nat) (S:St) (a:Act) (w:World),(∀ j,l[j]?=ops[k+j]?) ->
  n=a.tmps.size->Rg F μ done S a w->yP P C n ops (vl k l) done [] S K Kp=some r ->
  (∀ x S' w' a' val,Kp x S'=some r->PPost F μ S.H S.nx S.kl w a x S' w' a' val->Q (.panic [{ v:=val,recovered:=false }]) a' w') ->
  (∀ S' w' a' done',K S'=some r->Post F μ S w a done' S' w' a'->Q .normal a' w')->wpOps P ops Q (List.range' k l.length) a w
 | [],k,F,μ,done,S,a,w,_,_,hr,h,_,hn=>hn S w a done h (.refl hr)
 | o::l,k,F,μ,done,S,a,w,hl,hsz,hr,h,hq,hn=>by
  have ho:ops[k]?=some o:=by simpa using (hl 0).symm
  simp only [vl,yP,Turn.watch,sL,zI,keepW,List.append_nil] at h;obtain ⟨h0,h1⟩:=zB h;rw [hsz] at h0;rw [List.length_cons,List.range'_succ];refine wpOps_turn ho (evOp_ok hC hr (fresh_ok h0) h1 hq λS' w' a' hK hp=>?_);obtain ⟨⟨μ',kl,e1,e2,e3⟩,e4,e5⟩:=hp;refine turns_ok hC l (k+1) F μ' (sR o++done) S' a' w' (λj=>?_) (by rw [e4,hsz]) e3 hK (λx S2 w2 a2 val h1 h2=>hq x S2 w2 a2 val h1 (PPost.trans ⟨μ',kl,e1,e2,h2⟩ e5)) λS2 w2 a2 d2 hK2 hp2=>hn S2 w2 a2 d2 hK2 ?_
  ·have:=hl (j+1)
   simpa [Nat.add_assoc,Nat.add_comm 1 j] using this
  ·exact Post.trans ⟨μ',kl,e1,e2,e3,hp2⟩ e4 e5
theorem region_ok {C:zW} (hC:xw P C M) {id:Nat} {ops:Array Oper} {Q:Exit->Act->World->Prop} {K:St->Option α} {Kp:AV->St->Option α} (hr:Rg F μ [] S a w)
  (h:yP P C a.tmps.size ops (vl 0 ops.toList) [] [] S K Kp=some r)
  (hq:∀ x S' w' a' val,Kp x S'=some r->PPost F μ S.H S.nx S.kl w a x S' w' a' val->Q (.panic [{ v:=val,recovered:=false }]) a' w')
  (hn:∀ S' w' a' done',K S'=some r->Post F μ S w a done' S' w' a'->Q .normal a' w'):(Code.region id ops false).wp P Q a w:=by
 refine wp_region ?_
 have:=turns_ok hC (Q:=Q) ops.toList 0 F μ [] S a w (by simp) rfl hr h hq hn
 rw [List.range_eq_range'];simpa using this
end
end Go.Ev
namespace Go.Ev
open Go
section
variable {P:Program} {ops:Array Oper} {Q:Exit->Act->World->Prop}
abbrev Gh:=(Nat->Prop)×(Nat->Nat->Nat->Prop)
def tp (P:Program) (ops:Array Oper) (G:Nat->Gh->World->Gh->World->Prop) (Q:Exit->Act->World->Prop):Nat->Array Bool->Gh->Act->World->Prop
 | 0,listed,_,a,w=>Region.ready .any ops listed=[]/\Q .normal a w
 | n+1,listed,T,a,w=>(Region.ready .any ops listed=[]->Q .normal a w) /\
  ∀ i∈Region.ready .any ops listed,wpOp P ops Q i (λa' w'=>∃ T',G i T w T' w'/\tp P ops G Q n (listed.setIfInBounds i true) T' a' w') a w
theorem wpAny_of_G {G:Nat->Gh->World->Gh->World->Prop}:∀ (n:Nat) (listed:Array Bool) (T:Gh) (a:Act) (w:World),tp P ops G Q n listed T a w->wpAny P .any ops Q n listed a w
 | 0,_,_,_,_,h=>h
 | n+1,_,_,_,_,h=>⟨h.1,λi hi=>wpOp_mono (λa' w' ⟨T',_,hk⟩=>wpAny_of_G n _ T' a' w' hk) (h.2 i hi)⟩
theorem wpAnyG_less {G:Nat->Gh->World->Gh->World->Prop} {T T1:Gh} {w:World} (hG:∀ j T' w',G j T1 w T' w'->G j T w T' w'):∀ {n:Nat} {listed:Array Bool} {a:Act},tp P ops G Q n listed T1 a w->tp P ops G Q n listed T a w
 | 0,_,_,h=>h
 | _+1,_,_,h=>⟨h.1,λi hi=>wpOp_mono (λ_ w' ⟨T',hg,hk⟩=>⟨T',hG i T' w' hg,hk⟩) (h.2 i hi)⟩
def YJ (P:Program) (ops:Array Oper) (J:Gh->World->Prop) (o:Oper) (v:Value) (a:Act):Prop :=
 (Region.wanted o (yielded ops a.tmps)=true/\∀ T w,J T w->(execOp a.eval o).run P w=.ok (.value v) w)\/(Region.wanted o (yielded ops a.tmps)=false/\v=undef)
theorem YJ.of_same {J:Gh->World->Prop} {o:Oper} {v:Value} {a a':Act} (hy:YJ P ops J o v a) (he:execOp a'.eval o=execOp a.eval o)
  (hw:Region.wanted o (yielded ops a'.tmps)=Region.wanted o (yielded ops a.tmps)):YJ P ops J o v a':=by
 unfold YJ at *;rw [he,hw];exact hy
theorem wpOp_putG {J:Gh->World->Prop} {j:Nat} {oi oj:Oper} {v:Value} (hj:ops[j]?=some oj) (hap:oi.apart ops oj=true)
  (hsi:∀ cs b,oi.op≠.select cs b) (hsj:∀ cs b,oj.op≠.select cs b)
  (hQ:∀ c a a' w,a'.defers=a.defers->Q (.panic c) a w->Q (.panic c) a' w) {K:Act->World->Prop} {a:Act} {w:World}
  (hy:YJ P ops J oi v a) (h:wpOp P ops Q j K (a.put oi.dst v) w) :
  wpOp P ops Q j (λa' w'=>YJ P ops J oi v a'/\K (a'.put oi.dst v) w') a w:=by
 obtain ⟨h1,h2,h3⟩:=Oper.apart_spec hap
 have keep:∀ (a:Act),YJ P ops J oi v a->∀ u,YJ P ops J oi v (a.put oj.dst u):=λa hy u =>
  hy.of_same (execOp_put oi hsi a oj.dst u h3) (wanted_put oi a oj.dst u h3)
 have keepD:∀ d,YJ P ops J oi v { a with defers:=d::a.defers }:=λd=>hy.of_same rfl rfl
 unfold wpOp at *;simp only [hj] at *;rw [wanted_put oj a oi.dst v h1] at h;split
 ·rename_i hw;simp only [hw,if_true] at h;rcases h with h | ⟨hasks,hlets⟩
  case inr=>exact .inr ⟨by unfold Oper.asks at *; rw [execOp_put oj hsj a oi.dst v h1] at hasks;exact hasks,hlets⟩
  refine .inl ?_;unfold Oper.wp at *;rw [execOp_put oj hsj a oi.dst v h1] at h;generalize (execOp a.eval oj).run P w=r at *
  cases r with
  | ok n w' =>
   cases n <;> simp only [Oper.upon] at h ⊢
   case value u=>exact ⟨keep a hy u,by rw [<- Act.put_comm a v u h2];exact h⟩
   case skip=>exact ⟨keep a hy _,by rw [<- Act.put_comm a v undef h2];exact h⟩
   case defer d =>
    refine ⟨keep _ (keepD d) _,?_⟩;rw [<- Act.put_comm _ v undef h2,<- Act.put_defers];exact h
   case enter f args =>
    refine Calls.mono h λe w'' he=>?_
    cases e with
    | returned u=>exact ⟨keep a hy u,by rw [<- Act.put_comm a v u h2];exact he⟩
    | panicked c=>exact hQ _ _ _ _ (by cases oi.dst <;> rfl) he
    | outgrown=>exact he
   case row row args=>exact Rows.mono h λu w'' he=>⟨keep a hy u,by rw [<- Act.put_comm a v u h2];exact he⟩
  | halt x w' =>
   cases x <;> simp only [Oper.upon] at h ⊢
   case panic u=>exact hQ _ _ _ _ (by cases oi.dst <;> rfl) h
 ·rename_i hw;simp only [hw] at h;exact ⟨keep a hy _,by rw [<- Act.put_comm a v undef h2];exact h⟩
theorem readyG_mono {i j:Nat} {listed:Array Bool} (hj:j∈Region.ready .any ops listed) (h:j≠i):j∈Region.ready .any ops (listed.setIfInBounds i true):=ready_mono hj h
def Clo (ops:Array Oper) (listed:Array Bool):Prop:=∀ m om,ops[m]?=some om->listed.getD m false=true->∀ e∈om.after,Region.binds .any e=true->listed.getD e.on false=true
theorem Clo.set {listed:Array Bool} (h:Clo ops listed) {j:Nat} {oj:Oper} (hj:ops[j]?=some oj) (hall:∀ e∈oj.after,Region.binds .any e=true->listed.getD e.on false=true):Clo ops (listed.setIfInBounds j true):=λm om hm hl e he hb=>by
 refine getD_set_true ?_;by_cases hjm:j=m
 ·subst hjm;rw [hj] at hm;cases hm;exact hall e he hb
 ·rw [getD_set_ne false hjm] at hl;exact h m om hm hl e he hb
theorem behind_ok {listed:Array Bool} (hclo:Clo ops listed) {x:Nat} (hx:listed.getD x false=false) (hb:∀ e,Region.binds .any e=bnd e):∀ (l:List Oper) (k:Nat) (acc:List Nat),(∀ j,l[j]?=ops[k+j]?) ->
  (∀ m∈acc,listed.getD m false=false/\∀ om,ops[m]?=some om->¬ ∀ e∈om.after,Region.binds .any e=true->listed.getD e.on false=true) ->
  ∀ m∈sS x k l acc,listed.getD m false=false/\∀ om,ops[m]?=some om->¬ ∀ e∈om.after,Region.binds .any e=true->listed.getD e.on false=true
 | [],_,_,_,ha=>ha
 | o::l,k,acc,hl,ha=>by
  have hk:ops[k]?=some o:=by have:=hl 0;simpa using this.symm
  refine behind_ok hclo hx hb l (k+1) _ (λj=>by have:=hl (j+1);simpa [Nat.add_assoc,Nat.add_comm 1 j] using this) ?_
  cases hc:(o.after.toList.any λe=>bnd e&&zS (x::acc) e.on) with
  | false=>exact ha
  | true =>
   obtain ⟨e,he,hbe⟩:=List.any_eq_true.1 hc;simp only [yR] at hbe
   have hon:listed.getD e.on false=false:=by
    rcases List.mem_cons.1 (zc.1 hbe.2) with h | h
    ·rw [h];exact hx
    ·exact (ha _ h).1
   have hno:¬ ∀ e∈o.after,Region.binds .any e=true->listed.getD e.on false=true:=λh=>by
    have:=h e (by simpa using he) (by rw [hb];exact hbe.1)
    rw [hon] at this;cases this
   intro m hm;rcases List.mem_cons.1 hm with rfl | hm
   ·refine ⟨?_,λom ho=>by rw [hk] at ho;cases ho;exact hno⟩
    cases hlm:listed.getD m false with
    | false=>rfl
    | true=>exact absurd (hclo m o hk hlm) hno
   ·exact ha m hm
theorem wpAnyG_first {G:Nat->Gh->World->Gh->World->Prop} {J:Gh->World->Prop} {i:Nat} {oi:Oper} {v:Value} (hi:ops[i]?=some oi) (hsel:∀ (j:Nat) (o:Oper) cs b,ops[j]?=some o->o.op≠.select cs b)
  (hQ:∀ c a a' w,a'.defers=a.defers->Q (.panic c) a w->Q (.panic c) a' w) (hGi:∀ T w,G i T w T w) (hbe:∀ e,Region.binds .any e=bnd e) :
  ∀ (n:Nat) (listed:Array Bool) (T:Gh) (a:Act) (w:World),
   (∀ j oj,ops[j]?=some oj->j≠i->listed.getD j true=false->zS (sS i 0 ops.toList []) j=false->oi.apart ops oj=true/\∀ T w T' w',J T w->G j T w T' w'->J T' w') ->
   Clo ops listed->i∈Region.ready .any ops listed->YJ P ops J oi v a->J T w ->
   tp P ops G Q n (listed.setIfInBounds i true) T (a.put oi.dst v) w->tp P ops G Q (n+1) listed T a w:=by
 have here:∀ {K:Act->World->Prop} {T:Gh} {a:Act} {w:World},YJ P ops J oi v a->J T w->K (a.put oi.dst v) w->wpOp P ops Q i K a w:=by
  intro K T a w hy hJ hk;unfold wpOp;simp only [hi];rcases hy with ⟨hw,hv⟩ | ⟨hw,rfl⟩
  ·simp only [hw,if_true,Oper.wp,hv T w hJ,Oper.upon];exact .inl hk
  ·simp only [hw,Bool.false_eq_true,if_false];exact hk
 intro n;induction n with
 | zero =>
  intro listed T a w _ _ hr hy hJ H;refine ⟨λh=>(by rw [h] at hr;cases hr),λj hj=>?_⟩;by_cases hji:j=i
  ·subst hji;exact here hy hJ ⟨T,hGi T w,H⟩
  ·have:=readyG_mono hj hji
   rw [H.1] at this
   cases this
 | succ n ih =>
  intro listed T a w hfree hclo hr hy hJ H;refine ⟨λh=>(by rw [h] at hr;cases hr),λj hj=>?_⟩;by_cases hji:j=i
  ·subst hji;exact here hy hJ ⟨T,hGi T w,H⟩
  ·have h1:=H.2 j (readyG_mono hj hji);obtain ⟨hjun,oj,hoj,hall⟩:=mem_ready.1 hj
   have hi0:listed.getD i false=false:=by
    have h0:=(mem_ready.1 hr).1;rcases Nat.lt_or_ge i listed.size with h' | h'
    ·simpa [h'] using h0
    ·simp [Array.getElem?_eq_none h']
   have hnot:zS (sS i 0 ops.toList []) j=false:=by
    cases hh:zS (sS i 0 ops.toList []) j with
    | false=>rfl
    | true=>exact absurd hall ((behind_ok hclo hi0 hbe ops.toList 0 [] (by simp) (by simp) j (zc.1 hh)).2 oj hoj)
   obtain ⟨hap,hJj⟩:=hfree j oj hoj hji hjun hnot;have h2:=wpOp_putG hoj hap (λcs b=>hsel i oi cs b hi) (λcs b=>hsel j oj cs b hoj) hQ hy h1
   have hfree':∀ k ok,ops[k]?=some ok->k≠i->(listed.setIfInBounds j true).getD k true=false ->
     zS (sS i 0 ops.toList []) k=false->oi.apart ops ok=true/\∀ T w T' w',J T w->G k T w T' w'->J T' w':=λk ok hk hki hun hno=>by
    refine hfree k ok hk hki ?_ hno;by_cases hjk:j=k
    ·subst hjk;exact hjun
    ·rw [getD_set_ne true hjk] at hun;exact hun
   refine wpOp_mono (λa' w' h3=>?_) h2;obtain ⟨hy',T',hg,hk⟩:=h3;refine ⟨T',hg,ih (listed.setIfInBounds j true) T' a' w' hfree' (hclo.set hoj hall) (readyG_mono hr (Ne.symm hji)) hy' (hJj T w T' w' hJ hg) ?_⟩;rw [Array.setIfInBounds_comm _ _ hji];exact hk
end
end Go.Ev
namespace Go.Ev
open Go
section
variable {P:Program} {F:Frm (zJ P)} {μ μ':Nat->Option Nat} {S S':St} {w w':World} {a a':Act} {done:List Nat} {α:Type} {r:α} {M:FuncId->Bool} {ops:Array Oper} {Q:Exit->Act->World->Prop}
theorem bnd_eq (e:Edge):Region.binds .any e=bnd e:=by
 unfold Region.binds bnd
 cases e.ground <;> rfl
structure Ld (ops:Array Oper) (done:List Nat) (listed:Array Bool):Prop where
 size:listed.size=ops.size
 at_:∀ i,i<ops.size->listed.getD i false=zS done i
 lt:∀ i,i∈done->i<ops.size
variable {listed:Array Bool}
theorem Ld.getT (h:Ld ops done listed) {i:Nat} (hi:i<ops.size) (d:Bool):listed.getD i d=zS done i:=by
 rw [<- h.at_ i hi];have:i<listed.size:=by rw [h.size];exact hi
 simp [this]
theorem Ld.getF (h:Ld ops done listed) (i:Nat):listed.getD i false=zS done i:=by
 rcases Nat.lt_or_ge i ops.size with hi | hi
 ·exact h.at_ i hi
 ·have h1:¬ i<listed.size:=by rw [h.size];omega
  have h2:zS done i=false:=by
   cases hh:zS done i with
   | false=>rfl
   | true=>have:=h.lt i (zc.1 hh);omega
  simp [h1,h2]
theorem Ld.cons (h:Ld ops done listed) {k:Nat} (hk:k<ops.size):Ld ops (k::done) (listed.setIfInBounds k true) where
 size:=by simp [h.size]
 at_:=λi hi=>by
  by_cases hik:k=i
  ·subst hik;have:k<listed.size:=by rw [h.size];exact hk
   simp [this,zS]
  ·rw [getD_set_ne false hik,h.at_ i hi];have:Nat.beq i k=false:=Bool.eq_false_iff.2 λe=>hik (xi e).symm
   simp only [zS,List.any_cons,this,Bool.false_or]
 lt:=λi hi=>by
  rcases List.mem_cons.1 hi with rfl | hi
  ·exact hk
  ·exact h.lt i hi
theorem rdy_iff (h:Ld ops done listed) {o:Oper}:rdy done o=true<->∀ e∈o.after,Region.binds .any e=true->listed.getD e.on false=true:=by
 simp only [rdy,List.all_eq_true,Bool.or_eq_true,Bool.not_eq_true',bnd_eq,h.getF];constructor
 ·intro hh e he hb;exact (hh e (by simpa using he)).resolve_left (by simp [hb])
 ·intro hh e he
  cases hb:bnd e
  ·exact .inl rfl
  ·exact .inr (hh e (by simpa using he) hb)
theorem ready_iff (h:Ld ops done listed) {i:Nat}:i∈Region.ready .any ops listed<->∃ o,ops[i]?=some o/\zS done i=false/\rdy done o=true:=by
 rw [mem_ready];constructor
 ·rintro ⟨h1,o,h2,h3⟩;have hi:i<ops.size:=(Array.getElem?_eq_some_iff.1 h2).1;exact ⟨o,h2,by rw [<- h.getT hi true];exact h1,(rdy_iff h).2 h3⟩
 ·rintro ⟨o,h2,h1,h3⟩;have hi:i<ops.size:=(Array.getElem?_eq_some_iff.1 h2).1;exact ⟨by rw [h.getT hi true];exact h1,o,h2,(rdy_iff h).1 h3⟩
theorem pickV_ok {may:Nat->Oper->Bool}:∀ (l:List Oper) (k:Nat) {i:Nat} {o:Oper},(∀ j,l[j]?=ops[k+j]?)->pickV P may done k l=some (i,o)->ops[i]?=some o/\zS done i=false/\uw P o.op=true/\rdy done o=true
 | [],k,i,o,_,h=>by simp [pickV] at h
 | x::l,k,i,o,hl,h=>by
  simp only [pickV] at h
  cases hc:(!zS done k&&uw P x.op&&rdy done x&&may k x) with
  | true =>
   rw [hc] at h;simp only [zI,y5,Prod.mk.injEq] at h;obtain ⟨rfl,rfl⟩:=h;simp only [yR,Bool.not_eq_true'] at hc;exact ⟨by simpa using (hl 0).symm,hc.1.1.1,hc.1.1.2,hc.1.2⟩
  | false =>
   rw [hc] at h;exact pickV_ok l (k+1) (λj=>by have:=hl (j+1);simpa [Nat.add_assoc,Nat.add_comm 1 j] using this) h
theorem readies_mem:∀ (l:List Oper) (k:Nat) {i:Nat} {o:Oper},(∀ j,l[j]?=ops[k+j]?)->k<=i->ops[i]?=some o->zS done i=false->rdy done o=true->i∈wM done k l
 | [],k,i,o,hl,hki,ho,_,_=>by
  have:=hl (i-k)
  rw [show k+(i-k)=i by omega,ho] at this;simp at this
 | x::l,k,i,o,hl,hki,ho,hd,hr=>by
  have hl':∀ j,l[j]?=ops[(k+1)+j]?:=λj=>by have:=hl (j+1);simpa [Nat.add_assoc,Nat.add_comm 1 j] using this
  simp only [wM];by_cases hik:i=k
  ·subst hik
   have:x=o:=by
    have:=hl 0
    simp only [List.getElem?_cons_zero,Nat.add_zero,ho,y5] at this;exact this
   subst this;simp [hd,hr]
  ·have:=readies_mem l (k+1) hl' (by omega) ho hd hr
   cases (!zS done k&&rdy done x) <;> simp [this]
theorem readies_sub:∀ (l:List Oper) (k:Nat) {i:Nat},(∀ j,l[j]?=ops[k+j]?)->i∈wM done k l->∃ o,ops[i]?=some o/\zS done i=false/\rdy done o=true
 | [],k,i,_,h=>by simp [wM] at h
 | x::l,k,i,hl,h=>by
  have hl':∀ j,l[j]?=ops[(k+1)+j]?:=λj=>by have:=hl (j+1);simpa [Nat.add_assoc,Nat.add_comm 1 j] using this
  simp only [wM] at h
  cases hc:(!zS done k&&rdy done x) with
  | true =>
   rw [hc] at h;simp only [zI,List.mem_cons] at h;rcases h with rfl | h
   ·simp only [yR,Bool.not_eq_true'] at hc;exact ⟨x,by simpa using (hl 0).symm,hc.1,hc.2⟩
   ·exact readies_sub l (k+1) hl' h
  | false =>
   rw [hc] at h;exact readies_sub l (k+1) hl' h
theorem vO (h:Ld ops done listed) {i:Nat}:i∈Region.ready .any ops listed<->i∈wM done 0 ops.toList:=by
 rw [ready_iff h];constructor
 ·rintro ⟨o,h1,h2,h3⟩;exact readies_mem ops.toList 0 (by simp) (Nat.zero_le _) h1 h2 h3
 ·exact λh=>readies_sub ops.toList 0 (by simp) h
theorem others_ok {ds:List Nat} {x:Nat} {ox:Oper} {bh:List Nat}:∀ (l:List Oper) (k:Nat) {wild:List Nat} {av:List Nat},(∀ j,l[j]?=ops[k+j]?)->uO P M ops ds done x ox bh k l=some (wild,av) ->
  ∀ j oj,k<=j->ops[j]?=some oj->zS done j=false->j≠x->zS bh j=false->ox.apart ops oj=true/\match xR P M ds oj with
   | .st d=>d∈av
   | .wild=>j∈wild
   | _=>True
 | [],k,wild,av,hl,_,j,oj,hkj,hoj,_,_,_=>by
  have:=hl (j-k)
  rw [show k+(j-k)=j by omega,hoj] at this;simp at this
 | o::l,k,wild,av,hl,h,j,oj,hkj,hoj,hdj,hjx,hw=>by
  have hl':∀ j,l[j]?=ops[(k+1)+j]?:=λj=>by have:=hl (j+1);simpa [Nat.add_assoc,Nat.add_comm 1 j] using this
  simp only [uO] at h
  cases ho:uO P M ops ds done x ox bh (k+1) l with
  | none=>simp [ho] at h
  | some q =>
   obtain ⟨wild',av'⟩:=q;simp only [ho] at h;by_cases hjk:j=k
   ·subst hjk
    have:o=oj:=by
     have:=hl 0
     simp only [List.getElem?_cons_zero,Nat.add_zero,hoj,y5] at this;exact this
    subst this;have hbe:Nat.beq j x=false:=Bool.eq_false_iff.2 λe=>hjx (xi e)
    simp only [hdj,hbe,hw,Bool.or_false,zK] at h;obtain ⟨h1,h2⟩:=zB h;refine ⟨h1,?_⟩
    cases hk:xR P M ds o <;> simp only [hk,y5,Prod.mk.injEq] at h2 ⊢
    ·simp [<- h2.2]
    ·simp [<- h2.1]
   ·have ih:=others_ok l (k+1) hl' ho j oj (by omega) hoj hdj hjx hw;refine ⟨ih.1,?_⟩;have ih2:=ih.2
    have grow:(∀ d,d∈wild'->d∈wild)/\∀ d,d∈av'->d∈av:=by
     cases hc:(zS done k||Nat.beq k x||zS bh k) with
     | true =>
      simp only [hc,zI,y5,Prod.mk.injEq] at h;obtain ⟨rfl,rfl⟩:=h;exact ⟨λ_=>id,λ_=>id⟩
     | false =>
      simp only [hc,zK] at h;obtain ⟨_,h2⟩:=zB h
      cases hk:xR P M ds o <;> simp only [hk,y5,Prod.mk.injEq] at h2 <;> obtain ⟨rfl,rfl⟩:=h2
      ·exact ⟨λ_=>id,λ_=>id⟩
      ·exact ⟨λ_=>id,λ_=>id⟩
      ·exact ⟨λ_=>id,λ_ h=>List.mem_cons_of_mem _ h⟩
      ·exact ⟨λ_ h=>List.mem_cons_of_mem _ h,λ_=>id⟩
    cases hk:xR P M ds oj <;> simp only [hk] at ih2 ⊢
    ·exact grow.2 _ ih2
    ·exact grow.1 _ ih2
def GK (t0:Array Value) (i:Nat) (k:Kd) (T:Gh) (w:World) (T':Gh) (w':World):Prop :=
 (∀ g,T'.1 g->T.1 g\/w.heap.size<=g)/\(∀ j g k,T.2 j g k->T'.2 j g k)/\(∀ g k,T.2 i g k->∀ v,w.cell? ⟨g,k,none⟩=some v->w'.cell? ⟨g,k,none⟩=some v)/\match k with
  | .val | .new=>Keep (λ_=>False) w w'
  | .st d=>Keep (λg=>∃ o,t0.getD d undef=.pointer (some ⟨g,o,none⟩)) w w'
  | .wild=>Keep T.1 w w'
def GI (P:Program) (M:FuncId->Bool) (ops:Array Oper) (ds:List Nat) (t0:Array Value) (i:Nat) (T:Gh) (w:World) (T':Gh) (w':World):Prop :=
 ∀ o,ops[i]?=some o->GK t0 i (xR P M ds o) T w T' w'
def XK (t0:Array Value) (wild av:List Nat) (T0:Nat->Prop):Nat->Prop:=λg=>(wild≠[]/\T0 g)\/∃ d∈av,∃ o,t0.getD d undef=.pointer (some ⟨g,o,none⟩)
def JK (t0:Array Value) (wild av:List Nat) (T0:Nat->Prop) (WR:Nat->Nat->Prop) (w0:World) (T:Gh) (w:World):Prop :=
 Keep (XK t0 wild av T0) w0 w/\(∀ g,T.1 g->T0 g\/w0.heap.size<=g)/\∀ g k,WR g k->(∀ j∈wild,T.2 j g k)/\∀ v,w0.cell? ⟨g,k,none⟩=some v->w.cell? ⟨g,k,none⟩=some v
theorem JK.step {t0:Array Value} {wild av:List Nat} {T0:Nat->Prop} {WR:Nat->Nat->Prop} {w0:World} {i:Nat} {k:Kd} (hk:match k with
      | .st d=>d∈av
      | .wild=>i∈wild
      | _=>True) (hWR:∀ g k,WR g k->∀ d∈av,∀ o,t0.getD d undef≠.pointer (some ⟨g,o,none⟩)) {T T':Gh} (hj:JK t0 wild av T0 WR w0 T w) (hg:GK t0 i k T w T' w'):JK t0 wild av T0 WR w0 T' w':=by
  obtain ⟨h1,h2,h3⟩:=hj;obtain ⟨g1,g3,g4,g2⟩:=hg;have hsize:w.heap.size<=w'.heap.size:=by cases k <;> exact g2.size
  refine ⟨⟨Nat.le_trans h1.size hsize,λg hg hX=>?_⟩,λg hT=>?_,λg c hw=>⟨λj hj=>g3 j g c ((h3 g c hw).1 j hj),λv hv=>?_⟩⟩
  . rw [<- h1.keep g hg hX];have hgw:g<w.heap.size:=Nat.lt_of_lt_of_le hg h1.size
    cases k with
    | val=>exact g2.keep g hgw (λx=>x)
    | new=>exact g2.keep g hgw (λx=>x)
    | st d=>exact g2.keep g hgw λ⟨o,ho⟩=>hX (.inr ⟨d,hk,o,ho⟩)
    | wild=>exact g2.keep g hgw λhT=>(h2 g hT).elim (λh=>hX (.inl ⟨List.ne_nil_of_mem hk,h⟩)) (λh=>by omega)
  . rcases g1 g hT with h | h
    . exact h2 g h
    . exact .inr (Nat.le_trans h1.size h)
  . have hv':=(h3 g c hw).2 v hv;have hlt:=World.block_lt_of_cell? w _ hv'
    cases k with
    | val=>rw [cell?_of_heap (g2.keep g hlt (λx=>x))];exact hv'
    | new=>rw [cell?_of_heap (g2.keep g hlt (λx=>x))];exact hv'
    | st d=>rw [cell?_of_heap (g2.keep g hlt λ⟨o,ho⟩=>hWR g c hw d hk o ho)];exact hv'
    | wild=>exact g4 g c ((h3 g c hw).1 i hk) v hv'
theorem isNilN_eq {l:List Nat} (h:sL l=true):l=[]:=by cases l <;> first | rfl | cases h
theorem addr_free {wild av:List Nat} {free:Bool} (hr:Rg F μ done S a w) {x:AV} {v:Value} (hc:addrOK S.E free av x=true) (hf:free=true->wild=[]\/isPtr x=true) (hx:zA w (Not F μ S.H) μ S.H x v) :
  (∀ g o,v=.pointer (some ⟨g,o,none⟩)->¬ XK a.tmps wild av (wy μ S.H) g\/∃ b,x=.ptr b o/\S.H b≠.dead/\μ b=some g/\∀ d∈av,∀ o',a.tmps.getD d undef≠.pointer (some ⟨g,o',none⟩)) /\
  (isPtr x=false->∀ g o n c,v=.slice (some ⟨g,o,none⟩) n c->0<n->¬ XK a.tmps wild av (wy μ S.H) g):=by
 have slot:∀ {d b' o' g o},S.E d=.ptr b' o'->a.tmps.getD d undef=.pointer (some ⟨g,o,none⟩)->S.H b'≠.dead/\μ b'=some g:=λ{d b' o' g o} hE ht=>by
  have sl:=yY hr.e hE;simp only [zA] at sl;obtain ⟨h1,g',h2,h3⟩:=sl;rw [ht] at h3;simp only [Value.pointer.injEq,y5,Addr.mk.injEq] at h3;exact ⟨h1,by rw [h3.1];exact h2⟩
 have plain:(av.all λd=>match S.E d with
   | .ptr _ _=>true
   | _=>false)=true->∀ g,¬ wy μ S.H g->¬ XK a.tmps wild av (wy μ S.H) g:=λhall g hn hX=>by
  rcases hX with ⟨_,hT⟩ | ⟨d,hd,o,ht⟩
  ·exact hn hT
  ·have:=List.all_eq_true.1 hall d hd
   cases hE:S.E d <;> simp only [hE,Bool.false_eq_true] at this;obtain ⟨h1,h2⟩:=slot hE ht;exact hn ⟨_,h1,h2⟩
 have off:∀ {b:Nat},(av.all λd=>match S.E d with
   | .ptr b' _=>!Nat.beq b' b
   | _=>false)=true->S.H b≠.dead->∀ g,μ b=some g->∀ d∈av,∀ o',a.tmps.getD d undef≠.pointer (some ⟨g,o',none⟩):=λ{b} hall hl g hg d hd o' ht=>by
  have:=List.all_eq_true.1 hall d hd
  cases hE:S.E d <;> simp only [hE,Bool.false_eq_true] at this;obtain ⟨h1,h2⟩:=slot hE ht
  have:=hr.hp.inj _ _ g h1 hl h2 hg
  subst this;simp at this
 have block:∀ {b:Nat},isPtr x=false->(free&&av.all λd=>match S.E d with
   | .ptr b' _=>!Nat.beq b' b
   | _=>false)=true->S.H b≠.dead->∀ g,μ b=some g->¬ XK a.tmps wild av (wy μ S.H) g:=λ{b} hnp hall hl g hg hX=>by
  simp only [yR] at hall;rcases hX with ⟨hw,_⟩ | ⟨d,hd,o,ht⟩
  ·exact (hf hall.1).elim hw λh=>by rw [hnp] at h;cases h
  ·exact off hall.2 hl g hg d hd o ht
 cases x <;> simp only [addrOK,Bool.false_eq_true] at hc <;> simp only [zA] at hx
 case i=>subst hx;exact ⟨by simp,by simp⟩
 case u=>subst hx;exact ⟨by simp,by simp⟩
 case s=>subst hx;exact ⟨by simp,by simp⟩
 case sl t l =>
  simp only [RelD,List.cons.injEq,and_true] at hx;obtain ⟨b,c,rfl,_,hrow⟩:=hx;refine ⟨by simp,λ_ g o n c' he hn=>?_⟩;simp only [Value.slice.injEq] at he;obtain ⟨rfl,rfl,rfl⟩:=he;obtain ⟨g',o',he',hn',_⟩:=hrow hn;simp only [y5,Addr.mk.injEq] at he';rw [he'.1];exact plain hc _ λht=>hn' (yy (.inr ht))
 case fp t l ix f =>
  obtain ⟨_,g',o',hn',_,rfl,_⟩:=hx;refine ⟨λg o he=>.inl ?_,by simp⟩;simp only [Value.pointer.injEq,y5,Addr.mk.injEq] at he;rw [<- he.1];exact plain hc _ λht=>hn' (yy (.inr ht))
 case ptr b o =>
  obtain ⟨hl,g',hg,rfl⟩:=hx;refine ⟨λg o' he=>.inr ?_,by simp [isPtr]⟩;simp only [Value.pointer.injEq,y5,Addr.mk.injEq] at he;obtain ⟨rfl,rfl,_⟩:=he;simp only [yR] at hc;exact ⟨b,rfl,hl,hg,off hc.2 hl _ hg⟩
 case ep b t ix f =>
  obtain ⟨l,g',hb,_,hg,rfl⟩:=hx;refine ⟨λg o he=>.inl ?_,by simp⟩;simp only [Value.pointer.injEq,y5,Addr.mk.injEq] at he;rw [<- he.1];exact block rfl hc (by simp [hb]) _ hg
 case wh b =>
  obtain ⟨t,l,hb,⟨g',c,hg,rfl,_⟩ | ⟨_,_,rfl⟩⟩:=hx
  ·refine ⟨by simp,λ_ g o n c he _=>?_⟩;simp only [Value.slice.injEq,y5,Addr.mk.injEq] at he;rw [<- he.1.1];exact block rfl hc (by simp [hb]) _ hg
  ·exact ⟨by simp,by simp⟩
 case win b lo n =>
  obtain ⟨t,l,hb,_,⟨g',c,o,hg,rfl,_⟩ | ⟨_,_,rfl⟩⟩:=hx
  ·refine ⟨by simp,λ_ g o n c he _=>?_⟩;simp only [Value.slice.injEq,y5,Addr.mk.injEq] at he;rw [<- he.1.1];exact block rfl hc (by simp [hb]) _ hg
  ·exact ⟨by simp,by simp⟩
def WRof (P:Program) (μ:Nat->Option Nat) (S:St) (av:List Nat) (t0:Array Value) (s:Turn) (g k:Nat):Prop :=
 ∃ e∈s.watch P S.E,S.H e.b≠.dead/\μ e.b=some g/\e.o<=k/\k<e.o+e.n/\∀ d∈av,∀ o',t0.getD d undef≠.pointer (some ⟨g,o',none⟩)
theorem unGs_of {E:Nat->AV} {x:Operand} {v:AV} {b o:Nat} (h:v=opd E x\/∃ j c,v=unG j c (opd E x)) (hv:v=.ptr b o):unGs (opd E x)=.ptr b o:=by
 subst hv;rcases h with h | ⟨j,c,h⟩
 ·rw [<- h];rfl
 ·cases hE:opd E x <;> simp only [hE,unG,reduceCtorEq] at h
  ·simp only [AV.ptr.injEq] at h;obtain ⟨rfl,rfl⟩:=h;rfl
  ·rename_i j' w' y
   cases hb:(Nat.beq j' j&&w' == c) with
   | false=>simp [hb] at h
   | true =>
    simp only [hb,zI] at h
    cases y <;> simp only [yr,reduceCtorEq] at h;simp only [AV.ptr.injEq] at h;obtain ⟨rfl,rfl⟩:=h;rfl
theorem chk_free {s:Turn} (hr:Rg F μ done S a w) {ρA:Operand->AV} (hρ:∀ x,RelG w (Not F μ S.H) μ S.H a.eval (ρA x) (a.eval x)) (hrd:Reads S.E ρA) (hc:s.chk s.o.op ρA S.E=true) :
  FreeOp P (λg k=>XK a.tmps s.wilds s.avoid (wy μ S.H) g/\¬ WRof P μ S s.avoid a.tmps s g k) a.eval s.o.op:=by
 cases hop:s.o.op <;> rw [hop] at hc <;> simp only [FreeOp] <;> simp only [Turn.chk] at hc
 case load t x =>
  intro g o hv k hk ⟨hX,hW⟩
  have hfree:(sL s.wilds||isPtr (ρA x))=true->s.wilds=[]\/isPtr (ρA x)=true:=λh=>by
   rw [Bool.or_eq_true] at h;exact h.imp isNilN_eq id
  rcases (addr_free hr hc hfree (hρ x).rel).1 g o hv with h | ⟨b,h1,h2,h3,h4⟩
  ·exact h hX
  ·by_cases hw:s.wilds=[]
   ·rcases hX with ⟨h5,_⟩ | ⟨d,hd,o',ho'⟩
    ·exact h5 hw
    ·exact h4 d hd o' ho'
   ·refine hW ⟨⟨s.wilds,b,o,loadN P t⟩,?_,h2,h3,?_,?_,h4⟩
    ·have hn:sL s.wilds=false:=by cases hs:s.wilds <;> first | exact absurd hs hw | rfl
     simp only [Turn.watch,hn,zK,hop,unGs_of (hrd x) h1,List.mem_singleton]
    ·rcases hk with rfl | ⟨h,_⟩
     ·exact Nat.le_refl _
     ·exact h
    ·simp only [loadN];by_cases h0:P.cellsOf t=0
     ·rw [h0] at hk ⊢;simp only [Nat.beq_refl,zI];omega
     ·have:Nat.beq (P.cellsOf t) 0=false:=Bool.eq_false_iff.2 λe=>h0 (xi e)
      rw [this,zK];omega
 case convert src dst x =>
  intro g o n c hv hn k ⟨hX,_⟩
  have hnp:isPtr (ρA x)=false:=by
   have hrel:=(hρ x).rel
   cases hx:ρA x <;> first | rfl | skip
   rw [hx] at hrel;simp only [zA] at hrel;obtain ⟨_,g',_,he⟩:=hrel;rw [hv] at he;cases he
  exact (addr_free (wild:=s.wilds) hr hc (λh=>.inl (isNilN_eq h)) (hρ x).rel).2 hnp g o n c hv hn hX
end
end Go.Ev
