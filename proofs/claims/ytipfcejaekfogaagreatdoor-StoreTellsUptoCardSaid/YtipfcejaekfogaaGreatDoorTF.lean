/- Texts that the last one leans on, 6. -/
import Derived.Test.YtipfcejaekfogaaGreatDoorTE
import Derived.Shelf.Unicode.ValidAny
namespace Go.Proofs
open Go.Shelf Go.RowKit Go.Lib
set_option maxRecDepth 100000
def Tryz.lays196_ren:Go.Shelf.Ren:=⟨fun | 196=>121 | 259=>148 | n=>n,fun | 0=>0 | 3=>3 | 4=>4 | 5=>5 | 9=>9 | 12=>12 | 46=>117 | 53=>154 | 119=>188 | 138=>190 | 139=>191 | n=>n,fun | 3=>1 | 4=>2 | n=>n⟩
theorem Tryz.lays196:Go.Proofs.Lays.n196 Tryz.prog Tryz.lays196_ren:={
  mixed:=by kernel_rfl
  f196:=Tryz.func121.trans (congrArg some (by kernel_rfl))
  f259:=Tryz.func148.trans (congrArg some (by kernel_rfl))
  t0:=Tryz.underlying0
  a0:=Tryz.isAgg0
  z0:=Tryz.sizeOf0
  v0:=Tryz.zeroValue0
  t3:=Tryz.underlying3
  a3:=Tryz.isAgg3
  z3:=Tryz.sizeOf3
  v3:=Tryz.zeroValue3
  t4:=Tryz.underlying4
  a4:=Tryz.isAgg4
  z4:=Tryz.sizeOf4
  v4:=Tryz.zeroValue4
  t5:=Tryz.underlying5
  a5:=Tryz.isAgg5
  z5:=Tryz.sizeOf5
  v5:=Tryz.zeroValue5
  t9:=Tryz.underlying9
  a9:=Tryz.isAgg9
  z9:=Tryz.sizeOf9
  v9:=Tryz.zeroValue9
  t12:=Tryz.underlying12
  a12:=Tryz.isAgg12
  z12:=Tryz.sizeOf12
  v12:=Tryz.zeroValue12
  t46:=Tryz.underlying117
  a46:=Tryz.isAgg117
  z46:=Tryz.sizeOf117
  v46:=Tryz.zeroValue117
  t53:=Tryz.underlying154
  a53:=Tryz.isAgg154
  z53:=Tryz.sizeOf154
  v53:=Tryz.zeroValue154
  t119:=Tryz.underlying188
  a119:=Tryz.isAgg188
  z119:=Tryz.sizeOf188
  t138:=Tryz.underlying190
  a138:=Tryz.isAgg190
  z138:=Tryz.sizeOf190
  v138:=Tryz.zeroValue190
  t139:=Tryz.underlying191
  a139:=Tryz.isAgg191
  z139:=Tryz.sizeOf191
  v139:=Tryz.zeroValue191
  g3:=by kernel_rfl
  g4:=by kernel_rfl
  }
theorem Tryz.utf8_ValidString (s:ByteArray) (w:World) (hs:s.size<=9223372036854775807) (hT:Lib.Utf8Tabs 1 2 w) :
  Calls Tryz.prog 121 #[.string s] w λe w'=>e=.returned (.bool (Lib.validD s.data.toList))/\Below w.heap.size w w':=Any.utf8_ValidString Tryz.lays196 s w hs hT
end Go.Proofs
namespace Go.Ev
open Go Go.Proofs
def pValid:Pvs
 | [.s l]=>some (decide (l.length<=9223372036854775807),.b (Lib.validD l))
 | _=>none
theorem pValid_ok {P:Program} {f:FuncId} {g3 g4:Nat} (hen:Enters P f) (h3:vG P "unicode/utf8.first"=some g3) (h4:vG P "unicode/utf8.acceptRanges"=some g4)
  (hc:∀ s w,s.size<=9223372036854775807->Lib.Utf8Tabs g3 g4 w->Calls P f #[.string s] w λe w'=>e=.returned (.bool (Lib.validD s.data.toList))/\RowKit.Below w.heap.size w w'):ZOK P f (zPv pValid):=by
 refine zPv_ok ⟨hen,λargs v h w N μ H vals ht hr=>?_⟩;unfold pValid at h;split at h
 ·rename_i l;simp only [y5,Prod.mk.injEq,xX] at h;obtain ⟨hl,rfl⟩:=h;simp only [zC,zA] at hr;obtain ⟨_,_,rfl,rfl,rfl⟩:=hr;refine (hc ⟨l.toArray⟩ w (by simpa [ByteArray.size] using hl) (ht.1 g3 g4 h3 h4)).mono λe w' ⟨he,bel⟩=>⟨_,he,λw1 N1 μ1 H1=>?_,bel⟩
  simp only [zA]
 ·cases h
end Go.Ev
namespace Go.So
open Go Go.Ev Go.Proofs
theorem zValid121:ZOK Go.Proofs.Tryz.prog 121 (zPv pValid):=pValid_ok Go.Proofs.Tryz.call121 (by kernel_rfl) (by kernel_rfl) Go.Proofs.Tryz.utf8_ValidString
end Go.So
namespace Go.So
open Go Go.Ev
abbrev quo:List UInt8->List UInt8×Int×Int:=Go.Qw.quo
abbrev pQuote:Pvs:=Go.Qw.pQuote
theorem zQuote89:ZOK Go.Proofs.Tryz.prog 89 (zPv pQuote):=Go.Qw.zQuote89
end Go.So
namespace Go.Ev
open Go
mutual
def xa:AV->Bool
 | .sl t _=>!z7 t
 | .fp t _ _ _=>!z7 t
 | .fz t _=>!z7 t
 | .fn _ cs=>calmL cs
 | .agg cs=>calmL cs
 | .tup cs=>calmL cs
 | .ifc _ x=>xa x
 | .pan x=>xa x
 | .lit x _=>xa x
 | _=>true
def calmL:List AV->Bool
 | []=>true
 | x::r=>xa x&&calmL r
end
def calmB:Blk->Bool
 | .vars cs=>calmL cs
 | .data t _=>!z7 t
 | .mapd kt vt _ _=>!z7 kt&&!z7 vt
 | _=>true
structure Calm (R:Nat->Prop) (w w':World) (N N':NN):Prop where
 keep:Keep R w w'
 off:∀ g,g<w.heap.size->R g->N.all g
 all:∀ g,g<w.heap.size->N'.all g->N.all g
 unf:∀ g,g<w.heap.size->N'.unf g->N.unf g
section
variable {R:Nat->Prop} {w w':World} {N N':NN} {μ:Nat->Option Nat} {H:Nat->Blk}
theorem yx (hc:Calm R w w' N N'):∀ {t:Ty} {x:t.den} {vs:List Value},z7 t=false->RelD w N t x vs->RelD w' N' t x vs
 | .int _,_,_,_,hx=>hx
 | .u8,_,_,_,hx=>hx
 | .bool,_,_,_,hx=>hx
 | .str,_,_,_,hx=>hx
 | .unit,_,_,_,hx=>hx
 | .ln t,_,_,hs,_=>by simp [z7] at hs
 | .rg t,_,_,hs,_=>by simp [z7] at hs
 | .mx _,_,_,hs,_=>by simp [z7] at hs
 | .pair a b,p,vs,hs,hx=>by
  simp only [z7,Bool.or_eq_false_iff] at hs;simp only [RelD] at hx ⊢;obtain ⟨xs,ys,h0,h1,h2⟩:=hx;exact ⟨xs,ys,h0,yx hc hs.1 h1,yx hc hs.2 h2⟩
 | .sl t,l,vs,hs,hx=>by
  simp only [z7] at hs;simp only [RelD] at hx ⊢;obtain ⟨a,c,h1,h2,h3⟩:=hx;refine ⟨a,c,h1,h2,λhp=>?_⟩;obtain ⟨g,o,ha,hn,hg,hu,hr⟩:=h3 hp;have hln:∀ M:NN,lnN M t=M.all:=λM=>by cases t <;> first | rfl | simp [z7] at hs
  rw [hln] at hn;have hh:=hc.keep.keep g hg λhr=>hn (hc.off g hg hr)
  refine ⟨g,o,ha,λhn'=>hn (hc.all g hg (by rw [hln] at hn';exact hn')),Nat.lt_of_lt_of_le hg hc.keep.size,λhf k hk=>?_,λi hi=>?_⟩
  ·rw [frozen?_of_heap hh];exact hu (hc.unf g hg hf) k hk
  ·obtain ⟨es,e1,e2,e3⟩:=hr i hi;exact ⟨es,e1,ze hh e2,yx hc hs e3⟩
 | .pt t,x,vs,hs,hx=>by
  simp only [z7] at hs;simp only [RelD] at hx ⊢;obtain ⟨p,rfl,hx | ⟨g,o,y,es,h1,h2,h3,h4,h5,h6,h7,h8,h9⟩⟩:=hx
  ·exact ⟨p,rfl,.inl hx⟩
  have hln:∀ M:NN,lnN M t=M.all:=λM=>by cases t <;> first | rfl | simp [z7] at hs
  rw [hln] at h4;have hh:=hc.keep.keep g h5 λhr=>h4 (hc.off g h5 hr)
  exact ⟨p,rfl,.inr ⟨g,o,y,es,h1,h2,h3,λhn=>h4 (hc.all g h5 (by rw [hln] at hn;exact hn)),Nat.lt_of_lt_of_le h5 hc.keep.size,λhf k hk=>by rw [frozen?_of_heap hh];exact h6 (hc.unf g h5 hf) k hk,h7,ze hh h8,yx hc hs h9⟩⟩
 | .mp k v ag,l,vs,hs,hx=>by
  simp only [z7,Bool.or_eq_false_iff] at hs;simp only [RelD] at hx ⊢;obtain ⟨a,rfl,g,es,c,h1,h2,h3,h4,h5,h6,h7⟩:=hx;have hln:∀ M:NN,lnN M v=M.all:=λM=>by cases v <;> first | rfl | simp [z7] at hs
  rw [hln] at h2;have hh:=hc.keep.keep g h3 λhr=>h2 (hc.off g h3 hr)
  refine ⟨a,rfl,⟨g,es,c,h1,λhn=>h2 (hc.all g h3 (by rw [hln] at hn;exact hn)),Nat.lt_of_lt_of_le h3 hc.keep.size,by rw [hh];exact h4,h5,h6,λi hi hi'=>?_⟩⟩;obtain ⟨r1,cs,r2,r3⟩:=h7 i hi hi';exact ⟨yx hc hs.1 r1,cs,yx hc hs.2 r2,r3⟩
def Spare (R:Nat->Prop) (w:World) (μ:Nat->Option Nat) (H:Nat->Blk):Prop:=∀ b g,H b≠.dead->μ b=some g->g<w.heap.size/\¬ R g
mutual
theorem wY (hc:Calm R w w' N N') (hT:Spare R w μ H):∀ (x:AV) (v:Value),xa x=true->zA w N μ H x v->zA w' N' μ H x v
 | .i _ _,_,_,h=>h | .u _,_,_,h=>h | .b _,_,_,h=>h | .kb _,_,_,h=>h | .s _,_,_,h=>h | .c _,_,_,h=>h
 | .ptr _ _,_,_,h=>h | .mp _,_,_,h=>h | .mptr _ _ _,_,_,h=>h | .ep _ _ _ _,_,_,h=>h
 | .gd _ _ _,_,_,h=>h | .bad,_,_,h=>h
 | .sl t l,v,hm,h=>by
  simp only [xa,Bool.not_eq_true'] at hm;simp only [zA] at h ⊢;exact yx hc (t:=.sl t) hm h
 | .fz t x,v,hm,h=>by
  simp only [xa,Bool.not_eq_true'] at hm;simp only [zA] at h ⊢;exact ⟨yx hc hm h.1,h.2⟩
 | .fp t l ix f,v,hm,h=>by
  simp only [xa,Bool.not_eq_true'] at hm;simp only [zA] at h ⊢;obtain ⟨h1,g,o,h2,h3,h4,es,h5,h6,h7,h8⟩:=h;have hln:∀ M:NN,lnN M t=M.all:=λM=>by cases t <;> first | rfl | simp [z7] at hm
  rw [hln] at h2;have hh:=hc.keep.keep g h3 λhr=>h2 (hc.off g h3 hr)
  exact ⟨h1,g,o,λhn'=>h2 (hc.all g h3 (by rw [hln] at hn';exact hn')),Nat.lt_of_lt_of_le h3 hc.keep.size,h4,es,h5,ze hh h6,h7,yx hc hm h8.1,λhf k hk=>by rw [frozen?_of_heap hh];exact h8.2 (hc.unf g h3 hf) k hk⟩
 | .wh b,v,_,h=>by
  simp only [zA] at h ⊢;obtain ⟨t,l,hb,h⟩:=h;refine ⟨t,l,hb,h.imp (λ⟨g,c,h1,h2,h3,h4⟩=>?_) id⟩;obtain ⟨k1,k2⟩:=hT b g (by rw [hb];simp) h1;exact ⟨g,c,h1,h2,h3,yI (hc.keep.keep g k1 k2) h4⟩
 | .win b lo n,v,_,h=>by
  simp only [zA] at h ⊢;obtain ⟨t,l,hb,hle,h⟩:=h;refine ⟨t,l,hb,hle,h.imp (λ⟨g,c,o,h1,h2,h3,h4,h5⟩=>?_) id⟩;obtain ⟨k1,k2⟩:=hT b g (by rw [hb];simp) h1;exact ⟨g,c,o,h1,h2,h3,yI (hc.keep.keep g k1 k2) h4,h5⟩
 | .fn f cs,v,hm,h=>by
  simp only [xa] at hm;simp only [zA] at h ⊢;obtain ⟨vs,hv,h⟩:=h;exact ⟨vs,hv,uW hc hT cs vs hm h⟩
 | .agg cs,v,hm,h=>by
  simp only [xa] at hm;simp only [zA] at h ⊢;obtain ⟨vs,hv,h⟩:=h;exact ⟨vs,hv,uW hc hT cs vs hm h⟩
 | .tup cs,v,hm,h=>by
  simp only [xa] at hm;simp only [zA] at h ⊢;obtain ⟨vs,hv,h⟩:=h;exact ⟨vs,hv,uW hc hT cs vs hm h⟩
 | .ifc t x,v,hm,h=>by
  simp only [xa] at hm;simp only [zA] at h ⊢;obtain ⟨u,hv,h⟩:=h;exact ⟨u,hv,wY hc hT x u hm h⟩
 | .pan x,v,hm,h=>by
  simp only [xa] at hm;simp only [zA] at h ⊢;exact wY hc hT x v hm h
 | .lit x u,v,hm,h=>by
  simp only [xa] at hm;simp only [zA] at h ⊢;exact ⟨h.1,wY hc hT x v hm h.2⟩
theorem uW (hc:Calm R w w' N N') (hT:Spare R w μ H):∀ (xs:List AV) (vs:List Value),calmL xs=true->zC w N μ H xs vs->zC w' N' μ H xs vs
 | [],vs,_,h=>h
 | x::r,vs,hm,h=>by
  simp only [calmL,yR] at hm;simp only [zC] at h ⊢;obtain ⟨v,vr,rfl,h1,h2⟩:=h;exact ⟨v,vr,rfl,wY hc hT x v hm.1 h1,uW hc hT r vr hm.2 h2⟩
end
theorem Hp_calm {T:Tb} {F F':Frm T} {nx:Nat} (hp:Hp F μ H nx w) (hb:∀ b,calmB (H b)=true) (hc:Calm R w w' (Not F μ H) (Not F' μ H)) (hT:Spare R w μ H)
  (hap:∀ b g,H b≠.dead->μ b=some g->¬ F' g) (hflt:∀ g,F' g->g<w'.heap.size) (htab:∀ g,T.out g->¬ R g):Hp F' μ H nx w' where
 blk:=λb=>by
  have hB:=hp.blk b;have hm:=hb b
  cases hv:H b with
  | dead=>simp [za]
  | vars cs =>
   simp only [hv,za,calmB] at hB hm ⊢;rcases hB with hB | ⟨g,vs,h1,h2,h3,h4⟩
   ·exact .inl hB
   obtain ⟨k1,k2⟩:=hT b g (by rw [hv];simp) h1;have hh:=hc.keep.keep g k1 k2;exact .inr ⟨g,vs,h1,uW hc hT cs vs hm h2,ze hh h3,yI hh h4⟩
  | data t l =>
   simp only [hv,za,calmB,Bool.not_eq_true'] at hB hm ⊢;rcases hB with hB | ⟨g,h1,h2,h3⟩
   ·exact .inl hB
   obtain ⟨k1,k2⟩:=hT b g (by rw [hv];simp) h1;have hh:=hc.keep.keep g k1 k2;refine .inr ⟨g,h1,yI hh h2,λi hi=>?_⟩;obtain ⟨es,e1,e2,e3⟩:=h3 i hi;exact ⟨es,e1,ze hh e2,yx hc hm e3⟩
  | iter s p =>
   simp only [hv,za] at hB ⊢;obtain ⟨g,h1,h2⟩:=hB;obtain ⟨k1,k2⟩:=hT b g (by rw [hv];simp) h1;exact ⟨g,h1,by rw [hc.keep.keep g k1 k2];exact h2⟩
  | mapd kt vt ag l =>
   simp only [hv,za,calmB,yR,Bool.not_eq_true'] at hB hm ⊢;rcases hB with hB | ⟨g,es,c,h1,h2,h3,h4⟩
   ·exact .inl hB
   obtain ⟨k1,k2⟩:=hT b g (by rw [hv];simp) h1;refine .inr ⟨g,es,c,h1,by rw [hc.keep.keep g k1 k2];exact h2,h3,h4.1,λi a b=>?_⟩;obtain ⟨r1,cs,r2,r3⟩:=h4.2 i a b;exact ⟨yx hc hm.1 r1,cs,yx hc hm.2 r2,r3⟩
 lt:=λb g hl hg=>Nat.lt_of_lt_of_le (hp.lt b g hl hg) hc.keep.size
 inj:=hp.inj
 dead:=hp.dead
 apart:=hap
 flt:=hflt
 tab:=T.stays w w' (λg hg=>hc.keep.keep g (T.lt w g hp.tab hg) (htab g hg)) hp.tab
 tapart:=hp.tapart
 mark:=λb g hl hg=>by
  have hd:H b≠.dead:=λh=>by (rw [h] at hl;cases hl)
  obtain ⟨k1,k2⟩:=hT b g hd hg;exact (hp.mark b g hl hg).of_heap (hc.keep.keep g k1 k2)
 wfm:=λb g hl hg=>by
  obtain ⟨k1,k2⟩:=hT b g hl hg;exact (hp.wfm b g hl hg).of_heap (hc.keep.keep g k1 k2)
end
end Go.Ev
namespace Go.Ev
open Go
def lentV:AV->AV
 | .sl t l=>cond (flT t) (.sl (.ln t.inn) (cast (congrArg List t.den_inn.symm) l:List t.inn.den)) .bad
 | .i k n=>.i k n
 | .u x=>.u x
 | .b x=>.b x
 | .kb x=>.kb x
 | .s x=>.s x
 | _=>.bad
section
variable {w w':World} {N N':NN}
theorem uH (hN:∀ g,g<w.heap.size->N'.trk g->N.trk g) (hu:∀ g,g<w.heap.size->N'.unf g->N.unf g):∀ {t:Ty} {x:t.inn.den} {vs:List Value},flT t=true->RelD w N t.inn x vs->RelD w N' t.inn x vs
 | .int _,_,_,_,h=>h
 | .u8,_,_,_,h=>h
 | .bool,_,_,_,h=>h
 | .str,_,_,_,h=>h
 | .unit,_,_,_,h=>h
 | .pt _,_,_,hs,_=>by simp [flT] at hs
 | .mx _,_,_,hs,_=>by simp [flT] at hs
 | .mp _ _ _,_,_,hs,_=>by simp [flT] at hs
 | .ln t,x,vs,hs,h=>uH hN hu (t:=t) hs h
 | .rg t,x,vs,hs,h=>uH hN hu (t:=t) hs h
 | .pair a b,p,vs,hs,h=>by
  simp only [flT,yR] at hs;simp only [Ty.inn,RelD] at h ⊢;obtain ⟨xs,ys,h0,h1,h2⟩:=h;exact ⟨xs,ys,h0,uH hN hu hs.1 h1,uH hN hu hs.2 h2⟩
 | .sl t,l,vs,hs,h=>by
  simp only [flT] at hs;simp only [Ty.inn,RelD] at h ⊢;obtain ⟨a,c,h1,h2,h3⟩:=h;refine ⟨a,c,h1,h2,λhp=>?_⟩;obtain ⟨g,o,ha,hn,hg,hf,hr⟩:=h3 hp;refine ⟨g,o,ha,λhn'=>hn (hN g hg hn'),hg,λhf'=>hf (hu g hg hf'),λi hi=>?_⟩;obtain ⟨es,e1,e2,e3⟩:=hr i hi;exact ⟨es,e1,e2,uH hN hu hs e3⟩
theorem RelV_lent {μ μ':Nat->Option Nat} {H H':Nat->Blk} (hN:∀ g,g<w.heap.size->N'.trk g->N.trk g) (hu:∀ g,g<w.heap.size->N'.unf g->N.unf g) {x:AV} {v:Value} (h:zA w N μ H x v):zA w N' μ' H' (lentV x) v:=by
 cases x <;> first | exact h | (simp only [lentV,zA];done) | skip
 rename_i t l;simp only [lentV]
 cases hs:flT t with
 | false=>simp [zA]
 | true =>
  simp only [zI,zA] at h ⊢
  have:=h.inn
  exact uH (t:=.sl t) hN hu hs this
def bigF {T:Tb} (F:Frm T) (μ:Nat->Option Nat) (H:Nat->Blk) (w:World):Frm T :=
 { out:=λg=>(F.hot g\/wy μ H g)\/g<w.heap.size,hot:=λg=>F.hot g\/wy μ H g,le:=λ_ h=>.inl h,reg:=λ_=>False,unf:=λg=>w.heap.size<=g }
def ud {T:Tb} (F:Frm T) (w w1:World):Frm T :=
 { out:=λg=>F g\/(w.heap.size<=g/\g<w1.heap.size),hot:=F.hot,le:=λg h=>.inl (F.le g h),reg:=λg=>w.heap.size<=g/\g<w1.heap.size,unf:=λg=>F.unf g\/(w.heap.size<=g/\g<w1.heap.size) }
def inner (t:AV) (T:Ty) {α:Type} (K:List T.den->Option α):Option α :=
 match t with
 | .sl t l=>if h:t=T then K (h ▸ l) else none
 | _=>none
def litsOf (E:Nat->AV):List Nat->Option (List Value)
 | []=>some []
 | t::r=>match E t with
  | .lit _ u=>(litsOf E r).map λus=>u::us
  | _=>none
theorem sF {E:Nat->AV}:∀ {l:List Nat} {f:Nat->Value},litsOf E l=some (l.map f)->∀ t∈l,∃ x,E t=.lit x (f t)
 | [],_,_,t,ht=>by cases ht
 | s::r,f,h,t,ht=>by
  simp only [litsOf] at h;split at h
  ·rename_i x u hx;obtain ⟨us,h1,h2⟩:=Option.map_eq_some_iff.1 h;simp only [List.map_cons,List.cons.injEq] at h2;obtain ⟨rfl,rfl⟩:=h2;rcases List.mem_cons.1 ht with rfl | ht
   ·exact ⟨x,hx⟩
   ·exact sF h1 t ht
  ·cases h
def KA (d:Nat) (T:Ty) (keep:List Nat):Ex->St->Option (List T.den×List Value):=λex S=>match ex with
 | .normal=>inner (S.E d) T λl=>(litsOf S.E keep).map λus=>(l,us)
 | _=>none
def regE (d:Nat) (T:Ty) (keep:List Nat) (E:Nat->AV) (l:List T.den):Nat->AV:=λt =>
 cond (Nat.beq t d) (.sl (.rg T.rgm) (cast (congrArg List T.den_rgm.symm) l:List T.rgm.den)) (cond (zS keep t) (E t) .bad)
theorem tc {NR:NN} {n0:Nat} (hall:∀ g,¬ N.all g->n0<=g) (hunf:∀ g,n0<=g->N.unf g) (htrk:∀ g,n0<=g->¬ NR.trk g) (hreg:∀ g,n0<=g->g<w.heap.size->NR.reg g) :
  ∀ {t:Ty} {x:t.den} {vs:List Value},(z7 t||!flT t)=false->RelD w N t x vs->RelD w NR t.rgm (cast t.den_rgm.symm x) vs
 | .int _,_,_,_,h=>h
 | .u8,_,_,_,h=>h
 | .bool,_,_,_,h=>h
 | .str,_,_,_,h=>h
 | .unit,_,_,_,h=>h
 | .ln _,_,_,hs,_=>by simp [z7] at hs
 | .pt _,_,_,hs,_=>by simp [flT] at hs
 | .mx _,_,_,hs,_=>by simp [flT] at hs
 | .mp _ _ _,_,_,hs,_=>by simp [flT] at hs
 | .rg _,_,_,hs,_=>by simp [z7] at hs
 | .pair a b,p,vs,hs,h=>by
  have hs:(z7 a||!flT a)=false/\(z7 b||!flT b)=false:=by
   simp only [z7,flT,Bool.or_eq_false_iff,Bool.not_eq_false',yR] at hs ⊢;exact ⟨⟨hs.1.1,hs.2.1⟩,hs.1.2,hs.2.2⟩
  simp only [RelD] at h;obtain ⟨xs,ys,h0,h1,h2⟩:=h;simp only [Ty.rgm,RelD];have e:=tZ a.den_rgm.symm b.den_rgm.symm p (Ty.den_rgm (.pair a b)).symm;refine ⟨xs,ys,h0,?_,?_⟩
  ·rw [show (cast (Ty.den_rgm (.pair a b)).symm p:a.rgm.den×b.rgm.den).1=cast a.den_rgm.symm p.1 by rw [e]];exact tc hall hunf htrk hreg hs.1 h1
  ·rw [show (cast (Ty.den_rgm (.pair a b)).symm p:a.rgm.den×b.rgm.den).2=cast b.den_rgm.symm p.2 by rw [e]];exact tc hall hunf htrk hreg hs.2 h2
 | .sl t,l,vs,hs',h=>by
  have hs:z7 t=false:=by
   simp only [z7,Bool.or_eq_false_iff] at hs';exact hs'.1
  simp only [RelD] at h;obtain ⟨a,c,h1,h2,h3⟩:=h;have hl:(cast (Ty.den_rgm (.sl t)).symm l:List t.rgm.den).length=l.length:=cast_len t.den_rgm.symm l _
  have hsz:∀ t:Ty,z7 t=false->t.rgm.size=t.size:=λt=>by
   induction t with
   | pair a b iha ihb =>
    intro hs;simp only [z7,Bool.or_eq_false_iff] at hs;simp only [Ty.rgm,Ty.size,iha hs.1,ihb hs.2]
   | _=>intro _;rfl
  simp only [Ty.rgm,RelD];refine ⟨a,c,by rw [h1];congr 2;exact hl.symm,by rw [show List.length _=_ from hl];exact h2,λhp=>?_⟩;obtain ⟨g,o,ha,hn,hg,hu,hr⟩:=h3 (by rw [<- hl];exact hp);have hln:∀ M:NN,lnN M t=M.all:=λM=>by cases t <;> first | rfl | simp [z7] at hs
  rw [hln] at hn;have hg0:=hall g hn;refine ⟨g,o,ha,λh=>h.elim (htrk g hg0) λh=>h (hreg g hg0 hg),hg,?_,λi hi=>?_⟩
  ·rw [show List.length _=_ from hl];simp only [Ty.size];rw [hsz t hs];exact λ_=>hu (hunf g hg0)
  obtain ⟨es,e1,e2,e3⟩:=hr i (by rw [<- hl];exact hi);refine ⟨es,by simp only [Ty.size];rw [hsz t hs];exact e1,by simp only [Ty.size];rw [hsz t hs];exact e2,?_⟩
  have:=tc (NR:=NR) hall hunf htrk hreg (t:=t) hs' e3
  rw [show (cast (Ty.den_rgm (.sl t)).symm l:List t.rgm.den)[i]=cast t.den_rgm.symm l[i] from cast_get t.den_rgm.symm l _ i hi (by rw [<- hl];exact hi)];exact this
end
def xd:List Code->Code->Code
 | [],c=>c
 | x::r,c=>.seq x (xd r c)
section
variable {P:Program} {C:zW} {M:FuncId->Bool} {pin n:Nat} {α:Type} {r:α}
theorem seqL_ok (hm:P.follows .mixedOrders=true) (hC:xw P C M) {Cc:Code} {F:Frm (zJ P)} {Q:Exit->Act->World->Prop}:∀ (Bs:List Code) (S:St) (K:Ex->St->Option α),ev P C M pin n (xd Bs .skip) .leaf S K=some r->∀ μ w a,n=a.tmps.size->pin<=S.nx->Rg F μ [] S a w ->
  (∀ S' μ' a' w',K .normal S'=some r->CP true F pin μ S w a μ' S' w' a'->Cc.wp P Q a' w') ->
  (∀ ex e S' μ' a' av w',ex≠.normal->XR ex e a' av->K ex S'=some r->CP true F pin μ S w a μ' S' w' av->Q e a' w')->(xd Bs Cc).wp P Q a w
 | [],S,K,he,μ,w,a,hn,hp,hr,hN,hQ=>by
  simp only [xd,ev] at he;exact hN S μ a w he (CP.refl hr hp)
 | x::Bs,S,K,he,μ,w,a,hn,hp,hr,hN,hQ=>by
  simp only [xd,ev] at he;have hx:JOK P C M pin n x .leaf:=xy (ev_ok hm hC x .leaf λz hz=>by rw [yT] at hz;cases hz);refine wp_seq (wp_mono (hx S α _ r he F μ w a hn hp hr) λe a' w' ⟨ex,S',μ',av,h1,h2,h3⟩=>?_);have h3:CP true F pin μ S w a μ' S' w' av:=h3
  cases ex with
  | normal =>
   obtain ⟨rfl,rfl⟩:=h1;refine seqL_ok hm hC Bs S' K h2 μ' w' a' (hn.trans h3.size.symm) h3.le h3.rg (λS2 μ2 a2 w2 g1 g2=>hN S2 μ2 a2 w2 g1 (h3.trans g2)) λex e S2 μ2 a2 av w2 g0 g1 g2 g3=>hQ ex e S2 μ2 a2 av w2 g0 g1 g2 (h3.trans g3)
  | exit id=>have h1':=h1;obtain ⟨rfl,rfl⟩:=h1;exact hQ _ _ S' μ' _ _ w' (by simp) h1' h2 h3
  | ret=>have h1':=h1;obtain ⟨rfl,rfl⟩:=h1;exact hQ _ _ S' μ' _ _ w' (by simp) h1' h2 h3
  | pan=>have h1':=h1;obtain ⟨rfl,hd⟩:=h1;exact hQ _ _ S' μ' _ _ w' (by simp) h1' h2 h3
end
end Go.Ev
namespace Go.Ev
open Go
mutual
theorem unV_calm:∀ (v:VSh) (p:v.den),yu v=false->xa (w6 v p)=true
 | .i _,_,_=>rfl | .u,_,_=>rfl | .b,_,_=>rfl | .s,_,_=>rfl | .ptr _ _,_,_=>rfl | .own _,_,_=>rfl | .win _,_,_=>rfl | .mp _,_,_=>rfl | .mptr _ _,_,_=>rfl
 | .nilp,_,_=>rfl | .kb _,_,_=>rfl | .ki _ _,_,_=>rfl | .ks _,_,_=>rfl | .bad,_,_=>rfl | .nil,_,_=>rfl | .cons _ _,_,_=>rfl
 | .sl t,l,h=>by simp only [yu] at h;simp only [w6,xa,h,xf]
 | .fz t,l,h=>by simp only [yu] at h;simp only [w6,xa,h,xf]
 | .fn f cs,p,h=>by simp only [yu] at h;simp only [w6,xa];exact unL_calm cs p h
 | .agg cs,p,h=>by simp only [yu] at h;simp only [w6,xa];exact unL_calm cs p h
 | .tup cs,p,h=>by simp only [yu] at h;simp only [w6,xa];exact unL_calm cs p h
 | .ifc t v,p,h=>by simp only [yu] at h;simp only [w6,xa];exact unV_calm v p h
 | .may v w,p,h=>by
  simp only [yu,Bool.or_eq_false_iff] at h
  match (show v.den⊕w.den from p) with
  | .inl p=>exact unV_calm v p h.1
  | .inr p =>
   show xa (.pan (w6 w p))=true;simp only [xa];exact unV_calm w p h.2
theorem unL_calm:∀ (v:VSh) (p:v.den),yu v=false->calmL (unL v p)=true
 | .cons v w,p,h=>by
  simp only [yu,Bool.or_eq_false_iff] at h;simp only [unL,calmL,unV_calm v p.1 h.1,unL_calm w p.2 h.2,yW]
 | .i _,_,_=>rfl | .u,_,_=>rfl | .b,_,_=>rfl | .s,_,_=>rfl | .ptr _ _,_,_=>rfl | .own _,_,_=>rfl | .win _,_,_=>rfl | .mp _,_,_=>rfl | .mptr _ _,_,_=>rfl
 | .nilp,_,_=>rfl | .kb _,_,_=>rfl | .ki _ _,_,_=>rfl | .ks _,_,_=>rfl | .bad,_,_=>rfl | .nil,_,_=>rfl | .sl _,_,_=>rfl | .fz _,_,_=>rfl | .fn _ _,_,_=>rfl | .agg _,_,_=>rfl | .tup _,_,_=>rfl
 | .ifc _ _,_,_=>rfl | .may _ _,_,_=>rfl
end
def calmBS:BSh->Bool
 | .vars c=>!yu c
 | .data t=>!z7 t
 | .mapd k t _=>!z7 k&&!z7 t
 | .iter=>true
def vK (sh:Shape):Bool:=(sh.slots.all λp=>!yu p.2)&&sh.blks.all λp=>calmBS p.2
theorem unB_calm (s:BSh) (p:s.den) (h:calmBS s=true):calmB (unB s p)=true:=by
 cases s with
 | vars c=>simp only [calmBS,Bool.not_eq_true'] at h;simp only [unB,calmB];exact unL_calm c p h
 | data t=>exact h
 | iter=>rfl
 | mapd k t a=>exact h
theorem unSlots_calm:∀ (l:List (Nat×VSh)) (q:uJ l),(l.all λp=>!yu p.2)=true->∀ t,xa (wK l q t)=true
 | [],_,_,_=>rfl
 | (k,v)::l,q,h,t=>by
  simp only [List.all_cons,yR,Bool.not_eq_true'] at h;simp only [wK];by_cases hk:t=k
  ·subst hk;rw [wc];exact unV_calm v q.1 h.1
  ·rw [xc hk];exact unSlots_calm l q.2 (by simpa using h.2) t
theorem unBlks_calm:∀ (l:List (Nat×BSh)) (q:yc l),(l.all λp=>calmBS p.2)=true->∀ b,calmB (zT l q b)=true
 | [],_,_,_=>rfl
 | (k,s)::l,q,h,b=>by
  simp only [List.all_cons,yR] at h;simp only [zT];by_cases hk:b=k
  ·subst hk;rw [zf];exact unB_calm s q.1 h.1
  ·rw [zX hk];exact unBlks_calm l q.2 h.2 b
theorem calm_E {sh:Shape} (h:vK sh=true) (p:sh.den) (t:Nat):xa ((zZ sh p).E t)=true:=by
 simp only [vK,yR] at h;exact unSlots_calm sh.slots p.1 h.1 t
theorem calm_H {sh:Shape} (h:vK sh=true) (p:sh.den) (b:Nat):calmB ((zZ sh p).H b)=true:=by
 simp only [vK,yR] at h;exact unBlks_calm sh.blks p.2 h.2 b
theorem unSlots_bad:∀ (l:List (Nat×VSh)) (q:uJ l) (t:Nat),(∀ p∈l,p.1≠t)->wK l q t=.bad
 | [],_,_,_=>rfl
 | (k,v)::l,q,t,h=>by
  simp only [wK];have hk:t≠k:=λe=>h (k,v) (by simp) e.symm
  rw [xc hk];exact unSlots_bad l q.2 t λp hp=>h p (List.mem_cons_of_mem _ hp)
def xz:(t:Ty)->t.den->Bool
 | .sl t,l=>decide (List.length l<=4611686018427387904)&&List.all l (xz t)
 | .pair a b,p=>xz a p.1&&xz b p.2
 | .ln t,x=>xz t x
 | .rg t,x=>xz t x
 | _,_=>true
theorem cond_mapO {α β:Type} (g:α->β) (c:Bool) (a b:Option α):Option.map g (cond c a b)=cond c (Option.map g a) (Option.map g b):=by cases c <;> rfl
theorem bind_mapO {α β γ:Type} (g:β->γ) (x:Option α) (h:α->Option β):Option.map g (Option.bind x h)=Option.bind x λr=>Option.map g (h r):=by cases x <;> rfl
def KB (pin d:Nat) (T:Ty) (shN shR:Shape):Ex->St->Option (ym [(.normal,shN),(.ret,shR)]):=λex S=>match ex with
 | .normal=>inner (S.E d) (.rg T.rgm) λl=>cond (xz (.sl T.rgm) l) (pack pin shN S λq=>some (.inl q)) none
 | .ret=>pack pin shR S λq=>some (.inr q)
 | _=>none
def FC {Tb:Tb} (R:Nat->Prop):Frm Tb:={ out:=λ_=>False,reg:=R,unf:=R }
abbrev NC {Tb:Tb} (R:Nat->Prop):NN:=Not (FC R:Frm Tb) (λ_=>none) (λ_=>.dead)
def WritesOK (P:Program) (n d:Nat) (T:Ty) (keep:List Nat) (Cc:Code):Prop :=
 ∀ (a:Act) (w:World) (R:Nat->Prop) (l:List T.rgm.den),n=a.tmps.size->(zJ P).tab w->(∀ g,(zJ P).out g->¬ R g)->RelD w (NC (Tb:=zJ P) R) (.sl (.rg T.rgm)) l [a.tmps.getD d undef]->xz (.sl T.rgm) l=true ->
  Cc.wp P (λe a' w'=>e=.normal/\(∀ t∈keep,a'.tmps.getD t undef=a.tmps.getD t undef)/\a'.tmps.size=a.tmps.size/\a'.defers=a.defers/\Chg R w w') a w
section
variable {P:Program} {C:zW} {M:FuncId->Bool} {pin n:Nat}
theorem inner_some {x:AV} {T:Ty} {α:Type} {r:α} {K:List T.den->Option α} (h:inner x T K=some r):∃ l,x=.sl T l/\K l=some r:=by
 unfold inner at h;split at h
 ·split at h
  ·rename_i t l ht;subst ht;exact ⟨l,rfl,h⟩
  ·cases h
 ·cases h
theorem sem_region (hm:P.follows .mixedOrders=true) (hC:xw P C M) {id:Nat} {A:Code} {Bs:List Code} {Cc:Code} {sh shN shR:Shape} {d:Nat} {T:Ty} {keep:List Nat}
    {ownf:sh.den->Option (List T.den)} {runB:sh.den->List T.den->Option (ym [(.normal,shN),(.ret,shR)])}
    (c1:vK sh=true) (c2:vK shN=true) (c3:vK shR=true) (hT:(z7 T||!flT T)=false) (hk:(shN.slots.all λp=>zS keep p.1)=true)
    (heA:∀ (p:sh.den) (f:Nat->Value),ev P C M pin n A .leaf ⟨λt=>.lit (lentV ((zZ sh p).E t)) (f t),λ_=>.dead,sh.nx,[]⟩ (KA d T keep)=(ownf p).map λl=>(l,keep.map f))
    (heB:∀ (p:sh.den) (l:List T.den),ev P C M pin n (xd Bs .skip) .leaf ⟨regE d T keep (zZ sh p).E l,(zZ sh p).H,sh.nx,[]⟩ (KB pin d T shN shR)=runB p l)
    (hW:WritesOK P n d T keep Cc) :
    SemOK P pin n (.block id (.seq A (xd Bs Cc))) sh [(.normal,shN),(.ret,shR)] λp=>(ownf p).bind (runB p):=by
  intro p q hq F μ w a hn hpin hr
  cases how:ownf p with
  | none=>simp [how] at hq
  | some l =>
  simp only [how,zE] at hq;have hA:=heA p λt=>a.tmps.getD t undef
  rw [how,Option.map_some] at hA;let S:=zZ sh p
  have hrb:Rg (bigF F μ S.H w) (λ_=>none) [] ⟨λt=>.lit (lentV (S.E t)) (a.tmps.getD t undef),λ_=>.dead,sh.nx,[]⟩ a w:=by
    refine ⟨⟨λb=>by simp [za],λb g h=>absurd rfl h,λb b' g h=>absurd rfl h,λ_ _=>rfl,λb g h=>absurd rfl h,λg hg=>?_,hr.hp.tab,λb g h=>absurd rfl h,λb g h=>(by cases h),λb g h=>absurd rfl h⟩,λt=>?_,λt j b x h=>by cases h⟩
    . rcases hg with (hg | ⟨b,h1,h2⟩) | hg
      . exact hr.hp.flt g (F.le g hg)
      . exact hr.hp.lt b g h1 h2
      . exact hg
    . simp only [zA];refine ⟨trivial,?_⟩
      have hs:zA w (Not F μ S.H) μ S.H (S.E t) (a.tmps.getD t undef):=by
        have:=hr.e t
        cases hE:S.E t <;> simp only [S,hE] at this ⊢ <;> first | exact this | simp [zA]
      refine RelV_lent (N:=Not F μ S.H) (λg _ hg=>?_) (λg hg hu=>?_) hs
      . rcases hg with hg | ⟨b,h,_⟩
        . exact hg
        . exact absurd rfl h
      . have:w.heap.size<=g:=hu;omega
  refine wp_block (wp_seq (wp_mono (ev_ok hm hC A .leaf (λz hz=>by rw [yT] at hz;cases hz) _ _ _ _ hA (bigF F μ S.H w) (λ_=>none) w a hn hpin hrb) λe a1 w1 ⟨ex,S1,μ1,av,h1,h2,h3⟩=>?_))
  cases ex with
  | exit _=>simp [KA] at h2
  | ret=>simp [KA] at h2
  | pan=>simp [KA] at h2
  | normal =>
  obtain ⟨rfl,rfl⟩:=h1;simp only [KA] at h2;obtain ⟨l',hE1,h2⟩:=inner_some h2;obtain ⟨us,h4,h5⟩:=Option.map_eq_some_iff.1 h2;simp only [Prod.mk.injEq] at h5;obtain ⟨rfl,rfl⟩:=h5;have hlit:=sF h4;have hchg0:Chg (λ_=>False) w w1:=⟨⟨h3.chg.size,λg hg _=>h3.chg.keep g hg λ⟨b,h,_⟩=>h rfl⟩,h3.chg.os,h3.chg.tape,h3.chg.output⟩
  have hkeep:∀ t∈keep,a1.tmps.getD t undef=a.tmps.getD t undef:=λt ht=>by
    obtain ⟨x,hx⟩:=hlit t ht
    have:=h3.rg.e t
    rw [hx] at this;simp only [zA] at this;exact this.1
  have hown:RelD w1 (Not (bigF F μ S.H w) μ1 S1.H) (.sl T) l' [a1.tmps.getD d undef]:=by
    have:=h3.rg.e d
    rw [hE1] at this;simpa only [zA] using this
  have hcalm1:Calm (λ_=>False) w w1 (Not F μ S.H) (Not (ud F w w1) μ S.H):=by
    refine ⟨hchg0.toKeep,λg _ h=>h.elim,λg hg hn=>?_,λg hg hn=>?_⟩
    . rcases hn with (hn | hn) | hn
      . exact .inl hn
      . exact absurd hn.1 (by omega)
      . exact .inr hn
    . rcases hn with hn | hn
      . exact hn
      . exact absurd hn.1 (by omega)
  have hsp:Spare (λ_=>False) w μ S.H:=λb g hl hg=>⟨hr.hp.lt b g hl hg,λh=>h⟩
  have hr2:Rg (ud F w w1) μ [] ⟨regE d T keep S.E l',S.H,sh.nx,[]⟩ a1 w1:=by
    refine ⟨Hp_calm hr.hp (λb=>calm_H c1 p b) hcalm1 hsp (λb g hl hg h=>?_) (λg hg=>?_) λg _ h=>h,λt=>?_,λt j b x h=>?_⟩
    . rcases h with h | h
      . exact hr.hp.apart b g hl hg h
      . have:=hr.hp.lt b g hl hg
        omega
    . rcases hg with hg | hg
      . exact Nat.lt_of_lt_of_le (hr.hp.flt g hg) hchg0.size
      . exact hg.2
    . show (match regE d T keep S.E l' t with
        | .gd j b x=>_
        | x=>zA w1 _ _ _ x (a1.tmps.getD t undef))
      have hgoal:zA w1 (Not (ud F w w1) μ S.H) μ S.H (regE d T keep S.E l' t) (a1.tmps.getD t undef):=by
        unfold regE
        cases hd:Nat.beq t d with
        | true =>
          have:=xi hd
          subst this;simp only [zI,zA]
          have:=tc (N:=Not (bigF F μ S.H w) μ1 S1.H) (NR:=Not (ud F w w1) μ S.H) (n0:=w.heap.size) (λg hg=>Nat.le_of_not_lt λh=>hg (.inl (.inr h))) (λg hg=>hg) (λg hg h=>?_) (λg h1 h2=>⟨h1,h2⟩) (t:=.sl T) hT hown
          . simpa only [Ty.rgm] using this
          . rcases h with h | ⟨b,h1,h2⟩
            . have:=hr.hp.flt g (F.le g h);omega
            . have:=hr.hp.lt b g h1 h2;omega
        | false =>
          simp only [zK]
          cases hkp:zS keep t with
          | false=>simp [zA]
          | true =>
            simp only [zI];rw [hkeep t (zc.1 hkp)]
            have hs:zA w (Not F μ S.H) μ S.H (S.E t) (a.tmps.getD t undef):=by
              have:=hr.e t
              cases hE:S.E t <;> simp only [S,hE] at this ⊢ <;> first | exact this | simp [zA]
            exact wY hcalm1 hsp _ _ (calm_E c1 p t) hs
      revert hgoal
      cases hx:regE d T keep S.E l' t <;> intro hgoal <;> first
        | exact hgoal
        | (exfalso
           unfold regE at hx
           cases hd:Nat.beq t d <;> simp only [hd,zI,zK] at hx
           . cases hkp:zS keep t <;> simp only [hkp,zI,zK] at hx
             . cases hx
             . have:=hr.tags t _ _ _ hx
               cases this
           . cases hx)
    . unfold regE at h
      cases hd:Nat.beq t d <;> simp only [hd,zI,zK] at h
      . cases hkp:zS keep t <;> simp only [hkp,zI,zK] at h
        . cases h
        . exact hr.tags t _ _ _ h
      . cases h
  have hB:=(heB p l').trans hq
  have out:∀ {b1:Bool} {S3:St} {μ3:Nat->Option Nat} {av3:Act} {w3:World} {sh3:Shape} (q3:sh3.den) (μ4:Nat->Option Nat) (a4:Act) (w4:World),vK sh3=true->CP b1 (ud F w w1) pin μ ⟨regE d T keep S.E l',S.H,sh.nx,[]⟩ w1 a1 μ3 S3 w3 av3 ->
      Shaped (ud F w w1) pin μ3 S3 w3 μ4 (zZ sh3 q3)->Rg (ud F w w1) μ4 [] (zZ sh3 q3) av3 w3->(∀ t,(zZ sh3 q3).E t≠.bad->a4.tmps.getD t undef=av3.tmps.getD t undef)->a4.tmps.size=av3.tmps.size->a4.defers=av3.defers->Chg (λg=>w.heap.size<=g/\g<w1.heap.size) w3 w4 ->
      CP false F pin μ S w a μ4 (zZ sh3 q3) w4 a4:=by
    intro b1 S3 μ3 av3 w3 sh3 q3 μ4 a4 w4 hcs hcp hsh hrg htm hsz hdf hch
    have hcalm:Calm (λg=>w.heap.size<=g/\g<w1.heap.size) w3 w4 (Not (ud F w w1) μ4 (zZ sh3 q3).H) (Not F μ4 (zZ sh3 q3).H) :=
      ⟨hch.toKeep,λg _ h=>.inl (.inr h),λg _ h=>h.elim (λh=>.inl (.inl h)) .inr,λg _ h=>.inl h⟩
    have hsp:Spare (λg=>w.heap.size<=g/\g<w1.heap.size) w3 μ4 (zZ sh3 q3).H:=λb g hl hg=>⟨hrg.hp.lt b g hl hg,λh=>hrg.hp.apart b g hl hg (.inr h)⟩
    refine ⟨?_,λg hg=>?_,λj hj=>(hsh.pinned j hj).trans (hcp.pinned j hj),hsh.le,⟨Hp_calm hrg.hp (λb=>calm_H hcs q3 b) hcalm hsp (λb g hl hg h=>hrg.hp.apart b g hl hg (.inl h)) (λg h=>Nat.lt_of_lt_of_le (hrg.hp.flt g (.inl h)) hch.size) (λg hg h=>?_),λt=>?_,hrg.tags⟩,hsz.trans (hcp.size.trans h3.size),hdf.trans (hcp.defers.trans h3.defers),λh=>by cases h⟩
    . have e0:Chg (wy μ S.H) w w1:=⟨⟨hchg0.size,λg hg _=>hchg0.keep g hg λx=>x⟩,hchg0.os,hchg0.tape,hchg0.output⟩;have e1:Chg (wy μ S.H) w w3:=e0.trans hcp.chg λg _ h=>h
      exact e1.trans hch λg hg h=>absurd h.1 (by omega)
    . rcases hcp.new g (hsh.trk g hg) with h | h
      . exact .inl h
      . exact .inr (Nat.le_trans hchg0.size h)
    . have:=(zJ P).lt w g hr.hp.tab hg
      omega
    . have hng:∀ j b y,(zZ sh3 q3).E t≠.gd j b y:=λj b y h=>by cases hrg.tags t j b y h
      have hs:=hrg.e.slot (hng)
      have hgoal:zA w4 (Not F μ4 (zZ sh3 q3).H) μ4 (zZ sh3 q3).H ((zZ sh3 q3).E t) (a4.tmps.getD t undef):=by
        by_cases hb:(zZ sh3 q3).E t=.bad
        . rw [hb];simp [zA]
        . rw [htm t hb];exact wY hcalm hsp _ _ (calm_E hcs q3 t) hs
      revert hgoal
      cases hx:(zZ sh3 q3).E t <;> intro hgoal <;> first | exact hgoal | exact absurd hx (hng _ _ _)
  refine seqL_ok hm hC Bs _ _ hB μ w1 a1 (hn.trans h3.size.symm) hpin hr2 (λS3 μ3 a3 w3 hK hcp=>?_) λex e S3 μ3 a3 av3 w3 hex hX hK hcp=>?_
  . simp only [KB] at hK;obtain ⟨l3,hE3,hK⟩:=inner_some hK;obtain ⟨hfit,hK⟩:=zB hK;obtain ⟨q3,μ4,g1,g2,g3⟩:=vy hcp.rg hK;simp only [y5] at g1
    have hD:RelD w3 (Not (ud F w w1) μ3 S3.H) (.sl (.rg T.rgm)) l3 [a3.tmps.getD d undef]:=by
      have:=hcp.rg.e d
      rw [hE3] at this;simpa only [zA] using this
    have hsub:Sub w3 (NC (Tb:=zJ P) (λg=>w.heap.size<=g/\g<w1.heap.size)) (Not (ud F w w1) μ3 S3.H) :=
      ⟨λg _ h=>h.elim (λh=>h.elim) λ⟨b,h,_⟩=>absurd rfl h,λg _ h=>h.elim (λh=>h.elim) λ⟨b,h,_⟩=>absurd rfl h,λg _ h=>h,λg _ h=>.inr h⟩
    have hD':=hD.keep (Keep.refl w3) hsub;refine wp_mono (hW a3 w3 (λg=>w.heap.size<=g/\g<w1.heap.size) l3 (hn.trans (h3.size.symm.trans hcp.size.symm)) hcp.rg.hp.tab (λg hg h=>by have:=(zJ P).lt w g hr.hp.tab hg;omega) hD' hfit) λe a4 w4 ⟨e1,e2,e3,e4,e5⟩=>?_
    subst e1;refine ⟨.normal,zZ shN q3,μ4,a4,⟨rfl,rfl⟩,λβ K=>by rw [<- g1];rfl,out q3 μ4 a4 w4 c2 hcp g2 g3 (λt ht=>?_) e3 e4 e5⟩;have:∃ x∈shN.slots,x.1=t:=Classical.byContradiction λhh=>ht (unSlots_bad shN.slots q3.1 t λx hx he=>hh ⟨x,hx,he⟩)
    obtain ⟨x,hx,rfl⟩:=this;exact e2 _ (zc.1 (List.all_eq_true.1 hk x hx))
  . cases ex with
    | normal=>exact absurd rfl hex
    | exit _=>simp [KB] at hK
    | pan=>simp [KB] at hK
    | ret =>
      obtain ⟨rfl,rfl⟩:=hX;simp only [KB] at hK;obtain ⟨q3,μ4,g1,g2,g3⟩:=vy hcp.rg hK;simp only [y5] at g1;exact ⟨.ret,zZ shR q3,μ4,a3,⟨rfl,rfl⟩,λβ K=>by rw [<- g1];rfl,out q3 μ4 a3 w3 c3 hcp g2 g3 (λ_ _=>rfl) rfl rfl (Chg.refl w3)⟩
theorem callOK_of (hm:P.follows .mixedOrders=true) {X:List (FuncId×Orc)} {Y:List (FuncId×(List AV->Option AV))} {Z:List (FuncId×xV)} {I:List FuncId} {d:Nat} (hX:AllX P X) (hY:AllY P Y) (hZ:AllZ P Z) (hI:AllI P I) (hap:apartL X Y Z I=true) :
  xw P (callX P (lookX X) (wH X) (wG Y) (lookZ Z) (zS I) d) (mild (wH X) (wG Y)):=by
 simp only [apartL,yR,List.all_eq_true] at hap;obtain ⟨⟨a1,a2⟩,a3⟩:=hap
 exact callX_ok hm (lookX_ok hX) (λf args o h=>lookM_ok h) (λf b _ hb=>lookY_ok hY f b hb) (λf g h=>by
   obtain ⟨y,hy,rfl⟩:=List.mem_map.1 (lookY_mem h)
   exact vP (a1 y hy)) (λf z h=>by
   obtain ⟨h1,h2⟩:=lookZ_ok hZ f z h;obtain ⟨y,hy,rfl⟩:=List.mem_map.1 h2
   exact ⟨h1,vP (a2 y hy).1,vP (a2 y hy).2⟩) (λf h=>⟨inL_ok hI f h,vP (a3 f (zc.1 h)).1,vP (a3 f (zc.1 h)).2⟩) d
end
end Go.Ev
namespace Go.Ev
open Go
def Usim (v v':Value):Prop:=v=v'\/∃ k n n',v=.int k n/\v'=.int k n'/\(k=.u8->∃ x:UInt8,n'=(x.toNat:Int))
theorem Usim.refl (v:Value):Usim v v:=.inl rfl
def Alike:(t:Ty)->t.den->t.den->Prop
 | .sl t,l,l'=>List.length l=List.length l'/\∀ i,(h:i<List.length l)->(h':i<List.length l')->Alike t (l[i]'h) (l'[i]'h')
 | .pair a b,p,q=>Alike a p.1 q.1/\Alike b p.2 q.2
 | .ln t,x,y=>Alike t x y
 | .rg t,x,y=>Alike t x y
 | _,_,_=>True
theorem Alike.refl:∀ {t:Ty} (x:t.den),Alike t x x
 | .sl _,_=>⟨rfl,λ_ _ _=>Alike.refl _⟩
 | .pair _ _,p=>⟨Alike.refl p.1,Alike.refl p.2⟩
 | .ln t,x=>Alike.refl (t:=t) x
 | .rg t,x=>Alike.refl (t:=t) x
 | .int _,_=>trivial | .u8,_=>trivial | .bool,_=>trivial | .str,_=>trivial | .unit,_=>trivial | .pt _,_=>trivial | .mp _ _ _,_=>trivial | .mx _,_=>trivial
theorem Alike.trans:∀ {t:Ty} {x y z:t.den},Alike t x y->Alike t y z->Alike t x z
 | .sl _,x,y,z,h,h'=>⟨h.1.trans h'.1,λi h1 h2=>(h.2 i h1 (by have:=h.1;omega)).trans (h'.2 i (by have:=h.1;omega) h2)⟩
 | .pair _ _,_,_,_,h,h'=>⟨h.1.trans h'.1,h.2.trans h'.2⟩
 | .ln t,_,_,_,h,h'=>Alike.trans (t:=t) h h'
 | .rg t,_,_,_,h,h'=>Alike.trans (t:=t) h h'
 | .int _,_,_,_,_,_=>trivial | .u8,_,_,_,_,_=>trivial | .bool,_,_,_,_,_=>trivial | .str,_,_,_,_,_=>trivial | .unit,_,_,_,_,_=>trivial | .pt _,_,_,_,_,_=>trivial | .mp _ _ _,_,_,_,_,_=>trivial | .mx _,_,_,_,_,_=>trivial
structure WSim (w w':World):Prop where
 size:w'.heap.size=w.heap.size
 cell:∀ g o v,w.cell? ⟨g,o,none⟩=some v->∃ v',w'.cell? ⟨g,o,none⟩=some v'/\Usim v v'
 frozen:∀ g o,w'.frozen? ⟨g,o,none⟩=w.frozen? ⟨g,o,none⟩
theorem row_sim {w w':World} (hs:WSim w w') {g:Nat}:∀ {es:List Value} {o:Nat},rowAt w g o es->∃ es':List Value,es'.length=es.length/\rowAt w' g o es'/\∀ i,(h:i<es.length)->(h':i<es'.length)->Usim es[i] es'[i]
 | [],o,_=>⟨[],rfl,λi hi=>absurd hi (by simp),λi hi=>absurd hi (by simp)⟩
 | e::es,o,h=>by
  obtain ⟨v',h1,h2⟩:=hs.cell g o e (by have:=h 0 (by simp);simpa only [Nat.add_zero,List.getElem_cons_zero] using this)
  obtain ⟨es',g1,g2,g3⟩:=row_sim hs (es:=es) (o:=o+1) λi hi=>by
   have:=h (i+1) (by simp<;>omega)
   simpa [Nat.add_assoc,Nat.add_comm 1 i] using this
  refine ⟨v'::es',by simp [g1],λi hi=>?_,λi h h'=>?_⟩
  ·cases i with
   | zero=>simpa using h1
   | succ i =>
    have:=g2 i (by simpa using hi)
    simpa [Nat.add_assoc,Nat.add_comm 1 i] using this
  ·cases i with
   | zero=>exact h2
   | succ i=>exact g3 i (by simpa using h) (by simpa using h')
theorem choose_list {α:Type} {Q:Nat->α->Prop}:∀ n,(∀ i,i<n->∃ x,Q i x)->∃ l:List α,l.length=n/\∀ i,(h:i<l.length)->Q i l[i]
 | 0,_=>⟨[],rfl,λi hi=>absurd hi (by simp)⟩
 | n+1,h=>by
  obtain ⟨l,h1,h2⟩:=choose_list n λi hi=>h i (by omega)
  obtain ⟨x,hx⟩:=h n (by omega);refine ⟨l++[x],by simp [h1],λi hi=>?_⟩;simp only [xe,List.length_cons,List.length_nil] at hi;rcases Nat.lt_or_ge i l.length with hl | hl
  ·rw [List.getElem_append_left hl];exact h2 i hl
  ·have:i=n:=by omega
   subst this;rw [List.getElem_append_right hl];simpa [h1] using hx
theorem vg {w w':World} (hs:WSim w w') {N:NN}:∀ {t:Ty} {x:t.den} {vs vs':List Value},flT t=true->RelD w N t x vs->vs'.length=vs.length->(∀ i,(h:i<vs.length)->(h':i<vs'.length)->Usim vs[i] vs'[i]) ->
  ∃ x':t.den,RelD w' N t x' vs'/\Alike t x x'
 | .int k,n,vs,vs',_,h,hl,hu=>by
  simp only [RelD] at h;subst h;obtain ⟨v',rfl⟩:=List.length_eq_one_iff.1 hl;have hu0:Usim _ v':=hu 0 (by simp) (by simp);simp only [List.getElem_cons_zero] at hu0;rcases hu0 with e | ⟨k',m,m',e1,e2,_⟩
  ·exact ⟨n,by simp only [RelD];rw [<- e],trivial⟩
  ·cases e1;exact ⟨m',by simp only [RelD];rw [<- e2],trivial⟩
 | .u8,x,vs,vs',_,h,hl,hu=>by
  simp only [RelD] at h;subst h;obtain ⟨v',rfl⟩:=List.length_eq_one_iff.1 hl;have hu0:Usim _ v':=hu 0 (by simp) (by simp);simp only [List.getElem_cons_zero] at hu0;rcases hu0 with e | ⟨k',m,m',e1,e2,e3⟩
  ·exact ⟨x,by simp only [RelD];rw [<- e],trivial⟩
  ·cases e1;obtain ⟨y,rfl⟩:=e3 rfl;exact ⟨y,by simp only [RelD];rw [<- e2],trivial⟩
 | .bool,x,vs,vs',_,h,hl,hu=>by
  simp only [RelD] at h;subst h;obtain ⟨v',rfl⟩:=List.length_eq_one_iff.1 hl;have hu0:Usim _ v':=hu 0 (by simp) (by simp);simp only [List.getElem_cons_zero] at hu0;rcases hu0 with e | ⟨k',m,m',e1,_⟩
  ·exact ⟨x,by simp only [RelD];rw [<- e],trivial⟩
  ·cases e1
 | .str,x,vs,vs',_,h,hl,hu=>by
  simp only [RelD] at h;subst h;obtain ⟨v',rfl⟩:=List.length_eq_one_iff.1 hl;have hu0:Usim _ v':=hu 0 (by simp) (by simp);simp only [List.getElem_cons_zero] at hu0;rcases hu0 with e | ⟨k',m,m',e1,_⟩
  ·exact ⟨x,by simp only [RelD];rw [<- e],trivial⟩
  ·cases e1
 | .unit,x,vs,vs',_,h,hl,hu=>by
  simp only [RelD] at h;subst h;exact ⟨(),by simp only [RelD];exact List.length_eq_zero_iff.1 hl,trivial⟩
 | .ln t,x,vs,vs',hf,h,hl,hu=>by
  simp only [RelD] at h;obtain ⟨x',h1,h2⟩:=vg hs (by simpa only [flT] using hf) h hl hu;exact ⟨x',by simpa only [RelD] using h1,h2⟩
 | .rg t,x,vs,vs',hf,h,hl,hu=>by
  simp only [RelD] at h;obtain ⟨x',h1,h2⟩:=vg hs (by simpa only [flT] using hf) h hl hu;exact ⟨x',by simpa only [RelD] using h1,h2⟩
 | .pt _,_,_,_,hf,_,_,_=>by simp [flT] at hf
 | .mx _,_,_,_,hf,_,_,_=>by simp [flT] at hf
 | .mp _ _ _,_,_,_,hf,_,_,_=>by simp [flT] at hf
 | .pair a b,p,vs,vs',hf,h,hl,hu=>by
  simp only [flT,yR] at hf;simp only [RelD] at h;obtain ⟨xs,ys,rfl,h1,h2⟩:=h;have hl':vs'.length=xs.length+ys.length:=by simpa using hl
  obtain ⟨x1,g1,g2⟩:=vg hs hf.1 h1 (vs':=vs'.take xs.length) (by simp<;>omega) λi hi hi'=>by
   have:=hu i (by simp<;>omega) (by simp at hi';omega)
   rw [List.getElem_append_left hi] at this;rw [List.getElem_take];exact this
  obtain ⟨x2,g3,g4⟩:=vg hs hf.2 h2 (vs':=vs'.drop xs.length) (by simp<;>omega) λi hi hi'=>by
   have:=hu (xs.length+i) (by simp<;>omega) (by simp at hi';omega)
   rw [List.getElem_append_right (by omega)] at this;simp only [Nat.add_sub_cancel_left] at this;rw [List.getElem_drop];exact this
  refine ⟨(x1,x2),?_,g2,g4⟩;simp only [RelD];exact ⟨_,_,(List.take_append_drop _ _).symm,g1,g3⟩
 | .sl t,l,vs,vs',hf,h,hl,hu=>by
  simp only [RelD] at h;obtain ⟨a,c,rfl,h2,h3⟩:=h;obtain ⟨v',rfl⟩:=List.length_eq_one_iff.1 hl
  have hv:v'=.slice a (List.length l) c:=by
   have hu0:Usim _ v':=hu 0 (by simp) (by simp);simp only [List.getElem_cons_zero] at hu0;rcases hu0 with e | ⟨k',m,m',e1,_⟩
   ·exact e.symm
   ·cases e1
  subst hv;by_cases hp:0<List.length l
  ·obtain ⟨g,o,rfl,hn,hg,huf,hr⟩:=h3 hp
   obtain ⟨l',k1,k2⟩:=choose_list (Q:=λi (x':t.den)=>∀ h:i<List.length l,∃ es',es'.length=t.size/\rowAt w' g (o+i*t.size) es'/\RelD w' N t x' es'/\Alike t (l[i]'h) x') (List.length l) λi hi=>by
    obtain ⟨es,e1,e2,e3⟩:=hr i hi;obtain ⟨es',f1,f2,f3⟩:=row_sim hs e2;obtain ⟨x',f4,f5⟩:=vg hs (by simpa only [flT] using hf) e3 f1 f3;exact ⟨x',λ_=>⟨es',by rw [f1,e1],f2,f4,f5⟩⟩
   have hlen:List.length l=List.length l':=k1.symm;refine ⟨l',?_,hlen,λi h h'=>?_⟩
   ·simp only [RelD];refine ⟨some ⟨g,o,none⟩,c,by rw [hlen],by rw [<- hlen];exact h2,λ_=>⟨g,o,rfl,hn,by rw [hs.size];exact hg,λhff k hk=>?_,λi hi=>?_⟩⟩
    ·rw [hs.frozen];exact huf hff k (by rw [hlen];exact hk)
    ·obtain ⟨es',f1,f2,f3,_⟩:=k2 i hi (by rw [hlen];exact hi);exact ⟨es',f1,f2,f3⟩
   ·obtain ⟨_,_,_,_,f⟩:=k2 i h' h;exact f
  ·have h0:l=[]:=List.length_eq_zero_iff.1 (by omega);subst h0;exact ⟨[],by simp only [RelD];exact ⟨a,c,rfl,h2,λh=>absurd h (by simp)⟩,Alike.refl (t:=.sl t) []⟩
theorem WSim.set {w w':World} {g o:Nat} {v0 v:Value} (h0:w.cell? ⟨g,o,none⟩=some v0) (hu:Usim v0 v) (h:SetMany w w' g o [v]):WSim w w' where
 size:=h.size
 cell:=λg1 o1 v1 hv1=>by
  by_cases hg:g1=g
  ·subst hg;rw [h.cell o1];by_cases ho:o1=o
   ·subst ho;rw [h0] at hv1
    cases hv1;exact ⟨v,by simp,hu⟩
   ·have:¬ (o<=o1/\o1<o+[v].length):=by simp;omega
    rw [dif_neg this];exact ⟨v1,hv1,.refl v1⟩
  ·exact ⟨v1,by rw [cell?_of_heap (h.heap g1 hg)];exact hv1,.refl v1⟩
 frozen:=λg1 o1=>by
  by_cases hg:g1=g
  ·subst hg;exact h.frozen o1
  ·exact frozen?_of_heap (h.heap g1 hg)
def C0:zW:=λ_ _ _ _ _=>none
section
variable {P:Program} {n:Nat} {a:Act} {w:World} {R:Nat->Prop}
theorem callOK0 (M:FuncId->Bool):xw P C0 M:=λf args S α K r h=>by cases h
abbrev D0:Nat->Blk:=λ_=>.dead
abbrev M0:FuncId->Bool:=λ_=>false
structure Cx (P:Program) (R:Nat->Prop) (E:Nat->AV) (a:Act) (w:World):Prop where
 tab:(zJ P).tab w
 e:∀ t,zA w (NC (Tb:=zJ P) R) (λ_=>none) D0 (E t) (a.tmps.getD t undef)
 ng:∀ t j b x,E t≠.gd j b x
theorem Cx.rg {E:Nat->AV} (h:Cx P R E a w):Rg (FC R:Frm (zJ P)) (λ_=>none) [] ⟨E,D0,0,[]⟩ a w:=by
 refine ⟨⟨λb=>by simp [za],λb g h=>absurd rfl h,λb b' g h=>absurd rfl h,λ_ _=>rfl,λb g h=>absurd rfl h,λg hg=>hg.elim,h.tab,λb g h=>absurd rfl h,λb g h=>(by cases h),λb g h=>absurd rfl h⟩,λt=>?_,λt j b x hh=>absurd hh (h.ng t j b x)⟩
 have:=h.e t
 have hn:=h.ng t
 show (match E t with
  | .gd j b x=>_
  | x=>zA w _ _ _ x (a.tmps.getD t undef))
 cases hx:E t <;> rw [hx] at this hn <;> first | exact this | exact absurd rfl (hn _ _ _)
theorem sub_NC {T:Tb} {μ:Nat->Option Nat} {H:Nat->Blk} (w:World):Sub w (NC (Tb:=T) R) (Not (FC R:Frm T) μ H) :=
 ⟨λ_g _ h=>h.elim (λh=>h.elim) λ⟨_,h,_⟩=>absurd rfl h,λ_g _ h=>h.elim (λh=>h.elim) λ⟨_,h,_⟩=>absurd rfl h,λ_ _ h=>h,λ_ _ h=>h⟩
def vq:AV->Bool
 | .i _ _ | .u _ | .b _ | .kb _ | .s _ | .c _ | .sl _ _ | .bad=>true
 | .fp _ _ _ _=>true
 | .lit .bad _=>true
 | _=>false
theorem lone_ok {T:Tb} {μ:Nat->Option Nat} {H:Nat->Blk} {x:AV} {v:Value} (hx:vq x=true) (h:zA w (Not (FC R:Frm T) μ H) μ H x v):zA w (NC (Tb:=T) R) (λ_=>none) D0 x v:=by
 cases x <;> simp only [vq,Bool.false_eq_true] at hx <;> simp only [zA] at h ⊢ <;> first
  | exact h
  | exact h.keep (Keep.refl w) (sub_NC w)
  | skip
 ·obtain ⟨h1,g,o,h2,h3,h4,es,h5,h6,h7,h8⟩:=h;exact ⟨h1,g,o,λhn=>h2 ((sub_NC w).ln h3 hn),h3,h4,es,h5,h6,h7,h8.1.keep (Keep.refl w) (sub_NC w),h8.2.keep h3 rfl (sub_NC w)⟩
 ·rename_i y u
  cases y <;> simp only [Bool.false_eq_true] at hx;exact ⟨h.1,by simp [zA]⟩
theorem piece (hm:P.follows .mixedOrders=true) {c:Code} {E E':Nat->AV} {slots:List Nat} {ex:Ex} (hx:ex≠.pan)
  (he:ev P C0 M0 0 n c .leaf ⟨E,D0,0,[]⟩ (λex S=>some (ex,slots.map S.E))=some (ex,slots.map E')) (hl:(slots.all λt=>vq (E' t))=true) (hb:∀ t,t∉slots->E' t=.bad)
  (hn:n=a.tmps.size) (h:Cx P R E a w) :
  c.wp P (λe a' w'=>e=exOf ex/\a'.tmps.size=a.tmps.size/\a'.defers=a.defers/\Chg (λ_=>False) w w'/\Cx P R E' a' w') a w:=by
 refine wp_mono (ev_ok hm (callOK0 M0) c .leaf (λz hz=>by rw [yT] at hz;cases hz) _ _ _ _ he (FC R) (λ_=>none) w a hn (Nat.zero_le _) h.rg) λe a' w' ⟨ex',S',μ',av,h1,h2,h3⟩=>?_
 simp only [y5,Prod.mk.injEq] at h2;obtain ⟨rfl,h2⟩:=h2
 have hav:e=exOf ex'/\a'=av:=by
  cases ex' <;> first | exact h1 | exact absurd rfl hx
 obtain ⟨rfl,rfl⟩:=hav;refine ⟨rfl,h3.size,h3.defers,⟨⟨h3.chg.size,λg hg _=>h3.chg.keep g hg λ⟨b,h,_⟩=>h rfl⟩,h3.chg.os,h3.chg.tape,h3.chg.output⟩,h3.rg.hp.tab,λt=>?_,λt j b x hh=>?_⟩
 ·by_cases ht:t∈slots
  ·have hE:S'.E t=E' t:=List.map_inj_left.1 h2 t ht;have hlt:=List.all_eq_true.1 hl t ht
   have:=h3.rg.e t
   rw [hE] at this;refine lone_ok (μ:=μ') (H:=S'.H) hlt ?_
   cases hxx:E' t <;> rw [hxx] at this hlt <;> first | exact this | (simp [vq] at hlt)
  ·rw [hb t ht];simp [zA]
 ·by_cases ht:t∈slots
  ·have hlt:=List.all_eq_true.1 hl t ht;rw [hh] at hlt;simp [vq] at hlt
  ·rw [hb t ht] at hh;cases hh
end
end Go.Ev
namespace Go.Ev
open Go
section
variable {P:Program} {F:Frm (zJ P)} {α:Type} {r:α} {M:FuncId->Bool}
theorem turns_pre {C:zW} (hC:xw P C M) {n:Nat} {ops:Array Oper} {Q:Exit->Act->World->Prop} {K:St->Option α} {Kp:AV->St->Option α} {rest:List Nat}:∀ (l:List Oper) (k:Nat) (F:Frm (zJ P)) (μ:Nat->Option Nat) (done:List Nat) (S:St) (a:Act) (w:World),(∀ j,j<l.length->l[j]?=ops[k+j]?) ->
  n=a.tmps.size->Rg F μ done S a w->yP P C n ops (vl k l) done [] S K Kp=some r ->
  (∀ x S' w' a' val,Kp x S'=some r->PPost F μ S.H S.nx S.kl w a x S' w' a' val->Q (.panic [{ v:=val,recovered:=false }]) a' w') ->
  (∀ S' w' a' done',K S'=some r->Post F μ S w a done' S' w' a'->wpOps P ops Q rest a' w')->wpOps P ops Q (List.range' k l.length++rest) a w
 | [],k,F,μ,done,S,a,w,_,_,hr,h,_,hn=>hn S w a done h (.refl hr)
 | o::l,k,F,μ,done,S,a,w,hl,hsz,hr,h,hq,hn=>by
  have ho:ops[k]?=some o:=by simpa using (hl 0 (by simp)).symm
  simp only [vl,yP,Turn.watch,sL,zI,keepW,List.append_nil] at h;obtain ⟨h0,h1⟩:=zB h;rw [hsz] at h0;rw [List.length_cons,List.range'_succ,List.cons_append];refine wpOps_turn ho (evOp_ok hC hr (fresh_ok h0) h1 hq λS' w' a' hK hp=>?_);obtain ⟨⟨μ',kl,e1,e2,e3⟩,e4,e5⟩:=hp;refine turns_pre hC l (k+1) F μ' (sR o++done) S' a' w' (λj hj=>?_) (by rw [e4,hsz]) e3 hK (λx S2 w2 a2 val h1 h2=>hq x S2 w2 a2 val h1 (PPost.trans ⟨μ',kl,e1,e2,h2⟩ e5)) λS2 w2 a2 d2 hK2 hp2=>hn S2 w2 a2 d2 hK2 ?_
  ·have:=hl (j+1) (by simpa using hj)
   simpa [Nat.add_assoc,Nat.add_comm 1 j] using this
  ·exact Post.trans ⟨μ',kl,e1,e2,e3,hp2⟩ e4 e5
end
def numK:AV->Option IntKind
 | .i k _=>some k
 | .u _=>some .u8
 | _=>none
theorem numK_rel {w:World} {N:NN} {μ:Nat->Option Nat} {H:Nat->Blk} {x:AV} {v:Value} {k:IntKind} (h:numK x=some k) (hx:zA w N μ H x v) (hk:k=.u8->∃ y,x=.u y):∃ m,v=.int k m/\(k=.u8->∃ y:UInt8,m=(y.toNat:Int)):=by
 cases x <;> simp only [numK,reduceCtorEq,y5] at h
 ·subst h;simp only [zA] at hx;exact ⟨_,hx,λe=>by obtain ⟨y,hy⟩:=hk e;cases hy⟩
 ·subst h;simp only [zA] at hx;exact ⟨_,hx,λ_=>⟨_,rfl⟩⟩
section
variable {P:Program} {n:Nat} {a:Act} {w:World} {R:Nat->Prop}
theorem piece_storeO {id m:Nat} {ops:Array Oper} {E E':Nat->AV} {slots:List Nat} {o:Oper} {t:TypeId} {p:Nat} {ov:Operand} {y:Ty} {l:List y.den} {ix f:Nat} {k:IntKind} {cold:AV}
  (he:yP P C0 n ops (vl 0 (ops.toList.take m)) [] [] ⟨E,D0,0,[]⟩ (λS=>some (slots.map S.E)) (λ_ _=>none)=some (slots.map E')) (hl:(slots.all λt=>vq (E' t))=true) (hb:∀ t,t∉slots->E' t=.bad)
  (hsz:ops.size=m+1) (ho:ops[m]?=some o) (hop:o.op=.store t (.tmp p) ov) (hgd:o.guard=none) (hdst:o.dst=none) (hi:(P.info? t).isSome=true) (hc1:P.cellsOf t=1)
  (hp:E' p=.fp (.rg y) l ix f) (hval:∀ (a1:Act) (w1:World),Cx P R E' a1 w1->∃ m:Int,a1.eval ov=.int k m/\(k=.u8->∃ y:UInt8,m=(y.toNat:Int))) (hcold:(x5 y (l.getD ix y.dflt))[f]?=some cold) (hck:numK cold=some k)
  (hn:n=a.tmps.size) (h:Cx P R E a w) :
  (Code.region id ops false).wp P (λe a' w'=>e=.normal/\a'.tmps.size=a.tmps.size/\a'.defers=a.defers/\∃ w1,Chg (λ_=>False) w w1/\Cx P R E' a' w1/\WSim w1 w'/\Chg R w1 w') a w:=by
 refine wp_region ?_;rw [List.range_eq_range',hsz]
 have hsplit:List.range' 0 (m+1)=List.range' 0 (ops.toList.take m).length++[m]:=by
  have hlen:(ops.toList.take m).length=m:=by simp;omega
  rw [hlen,<- List.range'_append_1 (s:=0) (m:=m) (n:=1)];simp
 rw [hsplit];refine turns_pre (callOK0 M0) (ops.toList.take m) 0 (FC R) (λ_=>none) [] _ a w (λj hj=>?_) hn h.rg he (λx S' w' a' val hK _=>by cases hK) λS' w1 a1 done' hK hpost=>?_
 ·have hj':j<m:=by
   have:(ops.toList.take m).length<=m:=by simp;omega
   omega
  rw [List.getElem?_take_of_lt hj',Nat.zero_add,Array.getElem?_toList]
 ·simp only [y5] at hK;obtain ⟨⟨μ',kl,_,hpl,hrg⟩,e4,e5⟩:=hpost;have hchg:Chg (λ_=>False) w w1:=⟨⟨hpl.chg.size,λg hg _=>hpl.chg.keep g hg λ⟨b,h,_⟩=>h rfl⟩,hpl.chg.os,hpl.chg.tape,hpl.chg.output⟩
  have hcx:Cx P R E' a1 w1:=by
   refine ⟨hrg.hp.tab,λt=>?_,λt j b x hh=>?_⟩
   ·by_cases ht:t∈slots
    ·have hE:S'.E t=E' t:=List.map_inj_left.1 hK t ht;have hlt:=List.all_eq_true.1 hl t ht
     have:=hrg.e t
     rw [hE] at this;refine lone_ok (μ:=μ') (H:=S'.H) hlt ?_
     cases hxx:E' t <;> rw [hxx] at this hlt <;> first | exact this | (simp [vq] at hlt)
    ·rw [hb t ht];simp [zA]
   ·by_cases ht:t∈slots
    ·have hlt:=List.all_eq_true.1 hl t ht;rw [hh] at hlt;simp [vq] at hlt
    ·rw [hb t ht] at hh;cases hh
  have hP:=hcx.e p;rw [hp] at hP;simp only [zA] at hP;obtain ⟨hix,g,off,hng,hgl,hpv,es,s1,s2,_,s3,s4⟩:=hP;have hreg:R g:=Classical.byContradiction λhh=>hng (.inr hh)
  have s3:RelD w1 (NC (Tb:=zJ P) R) y l[ix] es:=by simpa only [RelD] using s3
  have hgd':l.getD ix y.dflt=l[ix]:=by simp [List.getD,List.getElem?_eq_getElem hix]
  rw [hgd'] at hcold;obtain ⟨vold,q1,q2⟩:=RelVs_get f (ya (μ:=λ_=>none) (H:=D0) s3) hcold;obtain ⟨mv,q3,q4⟩:=hval a1 w1 hcx;have hfl:f<es.length:=(List.getElem?_eq_some_iff.1 q1).1;have q1':es[f]=vold:=(List.getElem?_eq_some_iff.1 q1).2
  have hcell:w1.cell? ⟨g,off+ix*y.size+f,none⟩=some vold:=by
   have:=s2 f hfl
   rw [q1'] at this;exact this
  have hold:∃ mo,vold=.int k mo:=by
   cases cold <;> simp only [numK,reduceCtorEq,y5] at hck
   ·subst hck;simp only [zA] at q2;exact ⟨_,q2⟩
   ·subst hck;simp only [zA] at q2;exact ⟨_,q2⟩
  obtain ⟨mo,rfl⟩:=hold
  have hfz:w1.frozen? ⟨g,off+ix*y.size+f,none⟩=false:=s4 hreg f (by
   have:es.length=(Ty.rg y).size:=s1
   omega)
  have hcl:(Value.int k mv).cells.toList=[.int k mv]:=rfl
  obtain ⟨w',hrun,hS⟩:=run_storeAt (P:=P) (w:=w1) (t:=t) (g:=g) (o:=off+ix*y.size+f) (v:=.int k mv) hi (by rw [hcl,hc1];rfl) (by rw [hcl];intro u hu;simp only [List.mem_singleton] at hu;subst hu;rfl) (by
   rw [hcl];intro j hj;have:j=0:=by simpa using hj
   subst this
   exact ⟨by rw [Nat.add_zero,hcell];rfl,by rw [Nat.add_zero];exact hfz⟩)
  rw [hcl] at hS;refine wpOps_turn ho ?_;unfold wA;have hw:Region.wanted o (yielded ops a1.tmps):=by unfold Region.wanted;rw [hgd]
  rw [if_pos hw];unfold Oper.wp
  have hx:(execOp a1.eval o).run P w1=.ok .skip w':=by
   have e1:a1.eval (.tmp p)=.pointer (some ⟨g,off+ix*y.size+f,none⟩):=hpv;have e2:a1.eval ov=.int k mv:=q3;simp [execOp,hop,e1,e2,hrun]
  rw [hx,Oper.upon_skip];have hput:a1.put o.dst undef=a1:=by rw [hdst];rfl
  rw [hput];simp only [wpOps];refine ⟨trivial,e4,e5,w1,hchg,hcx,WSim.set hcell (.inr ⟨k,mo,mv,rfl,rfl,q4⟩) hS,⟨⟨Nat.le_of_eq hS.size.symm,λg1 _ hh=>hS.heap g1 λe=>hh (e ▸ hreg)⟩,hS.os,hS.tape,hS.output⟩⟩
theorem piece_store {id m:Nat} {ops:Array Oper} {E E':Nat->AV} {slots:List Nat} {o:Oper} {t:TypeId} {p v:Nat} {y:Ty} {l:List y.den} {ix f:Nat} {k:IntKind} {cold:AV}
  (he:yP P C0 n ops (vl 0 (ops.toList.take m)) [] [] ⟨E,D0,0,[]⟩ (λS=>some (slots.map S.E)) (λ_ _=>none)=some (slots.map E')) (hl:(slots.all λt=>vq (E' t))=true) (hb:∀ t,t∉slots->E' t=.bad)
  (hsz:ops.size=m+1) (ho:ops[m]?=some o) (hop:o.op=.store t (.tmp p) (.tmp v)) (hgd:o.guard=none) (hdst:o.dst=none) (hi:(P.info? t).isSome=true) (hc1:P.cellsOf t=1)
  (hp:E' p=.fp (.rg y) l ix f) (hv:numK (E' v)=some k) (hv8:k=.u8->∃ z,E' v=.u z) (hcold:(x5 y (l.getD ix y.dflt))[f]?=some cold) (hck:numK cold=some k)
  (hn:n=a.tmps.size) (h:Cx P R E a w) :
  (Code.region id ops false).wp P (λe a' w'=>e=.normal/\a'.tmps.size=a.tmps.size/\a'.defers=a.defers/\∃ w1,Chg (λ_=>False) w w1/\Cx P R E' a' w1/\WSim w1 w'/\Chg R w1 w') a w :=
 piece_storeO he hl hb hsz ho hop hgd hdst hi hc1 hp (λ_a1 _w1 hcx=>numK_rel hv (hcx.e v) hv8) hcold hck hn h
def ixV (t:Nat):List (Nat×Int)->AV->AV
 | [],x=>x
 | (k,i)::r,x=>cond (Nat.beq t k) (.i .i64 i) (ixV t r x)
def EE (d:Nat) (G:Ty) (keep:List Nat) (u:Nat->Value) (cx:List (Nat×Int)) (l:List G.den):Nat->AV:=λt =>
 cond (Nat.beq t d) (.sl (.rg G) l) (ixV t cx (cond (zS keep t) (.lit .bad (u t)) .bad))
theorem ixV_cases (t:Nat) (x:AV):∀ cx:List (Nat×Int),(∃ i,ixV t cx x=.i .i64 i)\/ixV t cx x=x
 | []=>.inr rfl
 | (k,i)::r=>by
  simp only [ixV]
  cases Nat.beq t k with
  | true=>exact .inl ⟨i,rfl⟩
  | false=>exact ixV_cases t x r
theorem uZ (d:Nat) (G:Ty) (keep:List Nat) (u:Nat->Value) (cx:List (Nat×Int)) (l:List G.den) (t:Nat):(t=d/\EE d G keep u cx l t=.sl (.rg G) l)\/(t≠d/\((∃ i,EE d G keep u cx l t=.i .i64 i)\/EE d G keep u cx l t=.lit .bad (u t)\/EE d G keep u cx l t=.bad)):=by
 unfold EE
 cases hd:Nat.beq t d with
 | true=>exact .inl ⟨xi hd,rfl⟩
 | false =>
  refine .inr ⟨λe=>by subst e;simp at hd,?_⟩;simp only [zK];rcases ixV_cases t (cond (zS keep t) (.lit .bad (u t)) .bad) cx with h | h
  ·exact .inl h
  ·rw [h]
   cases zS keep t
   ·exact .inr (.inr rfl)
   ·exact .inr (.inl rfl)
theorem EE_other {d:Nat} {G:Ty} {keep:List Nat} {u:Nat->Value} {cx:List (Nat×Int)} (l l':List G.den) {t:Nat} (h:t≠d):EE d G keep u cx l t=EE d G keep u cx l' t:=by
 unfold EE;have:Nat.beq t d=false:=Bool.eq_false_iff.2 λe=>h (xi e)
 rw [this];rfl
variable {d:Nat} {G:Ty} {keep:List Nat} {u:Nat->Value} {cx:List (Nat×Int)}
theorem Cx.sim {l:List G.den} {w':World} (h:Cx P R (EE d G keep u cx l) a w) (hs:WSim w w') (hc:Chg R w w') (hR:∀ g,(zJ P).out g->¬ R g) (hG:flT G=true:=by rfl):∃ l',Alike (.sl G) l l'/\Cx P R (EE d G keep u cx l') a w':=by
 have hd:=h.e d;have hE:EE d G keep u cx l d=.sl (.rg G) l:=by unfold EE;simp
 rw [hE] at hd;simp only [zA] at hd;obtain ⟨l',h1,h2⟩:=vg hs (t:=.sl (.rg G)) hG hd rfl λi _ _=>.refl _
 refine ⟨l',h2,(zJ P).stays w w' (λg hg=>hc.keep g ((zJ P).lt w g h.tab hg) (hR g hg)) h.tab,λt=>?_,λt j b x hh=>?_⟩
 ·rcases uZ d G keep u cx l' t with ⟨rfl,e⟩ | ⟨hne,e⟩
  ·rw [e];simpa only [zA] using h1
  ·have:=h.e t
   rw [EE_other l l' hne] at this;rcases e with ⟨i,e⟩ | e | e <;> rw [e] at this ⊢
   ·simpa only [zA] using this
   ·simpa only [zA] using this
   ·simp [zA]
 ·rcases uZ d G keep u cx l' t with ⟨rfl,e⟩ | ⟨hne,⟨i,e⟩ | e | e⟩ <;> rw [e] at hh <;> cases hh
theorem Cx.less {E E':Nat->AV} (h:Cx P R E a w) (hE:∀ t,E' t=E t\/E' t=.bad):Cx P R E' a w:=by
 refine ⟨h.tab,λt=>?_,λt j b x hh=>?_⟩
 ·rcases hE t with e | e
  ·rw [e];exact h.e t
  ·rw [e];simp [zA]
 ·rcases hE t with e | e
  ·rw [e] at hh;exact h.ng t j b x hh
  ·rw [e] at hh;cases hh
theorem ixV_drop {s:Nat} {i:Int} {x:AV} (_hs:∀ y∈cx,y.1≠s) {t:Nat} (h:t≠s):ixV t ((s,i)::cx) x=ixV t cx x:=by
 have:Nat.beq t s=false:=Bool.eq_false_iff.2 λe=>h (xi e)
 simp [ixV,this]
theorem ixV_none {s:Nat} {x:AV}:∀ {cx:List (Nat×Int)},(∀ y∈cx,y.1≠s)->ixV s cx x=x
 | [],_=>rfl
 | (k,i)::r,h=>by
  have:Nat.beq s k=false:=Bool.eq_false_iff.2 λe=>h (k,i) (by simp) (xi e).symm
  simp only [ixV,this,zK];exact ixV_none λy hy=>h y (List.mem_cons_of_mem _ hy)
theorem EE_drop {s:Nat} {i:Int} {l:List G.den} (hs:∀ y∈cx,y.1≠s) (hk:zS keep s=false) (hd:s≠d) (t:Nat):EE d G keep u cx l t=EE d G keep u ((s,i)::cx) l t\/EE d G keep u cx l t=.bad:=by
 by_cases ht:t=s
 ·subst ht;right;unfold EE;have:Nat.beq t d=false:=Bool.eq_false_iff.2 λe=>hd (xi e)
  rw [this,zK,ixV_none hs,hk];rfl
 ·left;unfold EE;rw [ixV_drop hs ht]
def WrOK (P:Program) (n:Nat) (R:Nat->Prop) (d:Nat) (G:Ty) (keep:List Nat) (cx:List (Nat×Int)) (l0:List G.den) (c:Code):Prop :=
 ∀ (u:Nat->Value) (a:Act) (w:World) (l:List G.den),Alike (.sl G) l0 l->n=a.tmps.size->Cx P R (EE d G keep u cx l) a w ->
  c.wp P (λe a' w'=>e=.normal/\a'.tmps.size=a.tmps.size/\a'.defers=a.defers/\Chg R w w'/\∃ l',Alike (.sl G) l0 l'/\Cx P R (EE d G keep u cx l') a' w') a w
theorem wloop (hm:P.follows .mixedOrders=true) {s b cnt:Nat} {r0 pre body post:Code} {l0:List G.den} {slots:List Nat} (hcnt:cnt<=4611686018427387904)
  (hs:∀ y∈cx,y.1≠s) (hk:zS keep s=false) (hd:s≠d)
  (hslots:∀ t,t∉slots->Nat.beq t d=false/\(∀ y∈(s,(0:Int))::cx,y.1≠t)/\zS keep t=false)
  (h0:∀ l u,ev P C0 M0 0 n r0 .leaf ⟨EE d G keep u cx l,D0,0,[]⟩ (λex S=>some (ex,slots.map S.E))=some (.normal,slots.map (EE d G keep u ((s,0)::cx) l)))
  (hpre:∀ l u (j:Int),Alike (.sl G) l0 l->ev P C0 M0 0 n pre .leaf ⟨EE d G keep u ((s,j)::cx) l,D0,0,[]⟩ (λex S=>some (ex,slots.map S.E))=cond (decide (j<(cnt:Int))) (some (.normal,slots.map (EE d G keep u ((s,j)::cx) l))) (some (.exit b,slots.map (EE d G keep u ((s,j)::cx) l))))
  (hpost:∀ l u (j:Int),ev P C0 M0 0 n post .leaf ⟨EE d G keep u ((s,j)::cx) l,D0,0,[]⟩ (λex S=>some (ex,slots.map S.E))=some (.normal,slots.map (EE d G keep u ((s,zh (j+1))::cx) l)))
  (hbody:∀ j:Nat,j<cnt->WrOK P n R d G keep ((s,(j:Int))::cx) l0 body) :
  WrOK P n R d G keep cx l0 (.seq r0 (.block b (.loop (.seq pre (.seq body post))))):=by
 intro u a w l hal hn hcx
 have hlone:∀ (j:Int) (l:List G.den),(slots.all λt=>vq (EE d G keep u ((s,j)::cx) l t))=true:=λj l=>by
  refine List.all_eq_true.2 λt _=>?_
  rcases uZ d G keep u ((s,j)::cx) l t with ⟨_,e⟩ | ⟨_,⟨i,e⟩ | e | e⟩ <;> rw [e] <;> rfl
 have hbad:∀ (j:Int) (l:List G.den),∀ t,t∉slots->EE d G keep u ((s,j)::cx) l t=.bad:=λj l t ht=>by
  obtain ⟨g1,g2,g3⟩:=hslots t ht;unfold EE;rw [g1,zK,ixV_none (s:=t) (cx:=(s,j)::cx) (λy hy=>?_),g3]
  ·rfl
  ·rcases List.mem_cons.1 hy with rfl | hy
   ·exact g2 (s,0) (by simp)
   ·exact g2 y (List.mem_cons_of_mem _ hy)
 refine wp_seq (wp_mono (piece hm (by simp) (h0 l u) (hlone 0 l) (hbad 0 l) hn hcx) λe a1 w1 ⟨e1,e2,e3,e4,e5⟩=>?_);subst e1;have hch0:Chg R w w1:=⟨⟨e4.size,λg hg _=>e4.keep g hg λx=>x⟩,e4.os,e4.tape,e4.output⟩
 refine wp_block (wp_mono (Q':=Exit.inBlock b _) (wp_loop_n (Q:=λe a' w'=>e=.exit b/\a'.tmps.size=a.tmps.size/\a'.defers=a.defers/\Chg R w w'/\∃ l',Alike (.sl G) l0 l'/\Cx P R (EE d G keep u cx l') a' w')
  (λm a' w'=>∃ (j:Nat) (l':List G.den),j<=cnt/\m=cnt-j+1/\Alike (.sl G) l0 l'/\Cx P R (EE d G keep u ((s,(j:Int))::cx) l') a' w'/\a'.tmps.size=a.tmps.size/\a'.defers=a.defers/\Chg R w w')
  (λa w ⟨j,_,_,h,_⟩=>by omega) (λm a' w' ⟨j,l',k1,k2,k3,k4,k5,k6,k7⟩=>?_) (cnt+1) ⟨0,l,Nat.zero_le _,by omega,hal,e5,e2,e3,hch0⟩) λe a' w' ⟨g1,g2⟩=>?_)
 ·have hp:=hpre l' u j k3;by_cases hj:j<cnt
  ·rw [show decide ((j:Int)<(cnt:Int))=true from zm (by omega),zI] at hp;refine wp_seq (wp_mono (piece hm (by simp) hp (hlone j l') (hbad j l') (hn.trans k5.symm) k4) λe a2 w2 ⟨f1,f2,f3,f4,f5⟩=>?_);subst f1;refine wp_seq (wp_mono (hbody j hj u a2 w2 l' k3 (hn.trans (k5.symm.trans f2.symm)) f5) λe a3 w3 ⟨q1,q2,q3,q4,l2,q5,q6⟩=>?_);subst q1;have hpo:=hpost l2 u j
   have hw:zh ((j:Int)+1)=((j+1:Nat):Int):=by
    unfold zh IntKind.wrap;simp [IntKind.signed,IntKind.bits];omega
   rw [hw] at hpo;refine wp_mono (piece hm (by simp) hpo (hlone _ l2) (hbad _ l2) (hn.trans (k5.symm.trans (f2.symm.trans q2.symm))) q6) λe a4 w4 ⟨t1,t2,t3,t4,t5⟩=>?_
   subst t1;refine ⟨j+1,l2,hj,by omega,q5,t5,t2.trans (q2.trans (f2.trans k5)),t3.trans (q3.trans (f3.trans k6)),?_⟩;have c1:Chg R w w2:=k7.trans (N':=λ_=>False) f4 λ_ _ h=>h.elim
   have c2:Chg R w w3:=c1.trans q4 λ_ _ h=>h
   exact c2.trans (N':=λ_=>False) t4 λ_ _ h=>h.elim
  ·rw [show decide ((j:Int)<(cnt:Int))=false from yv (by omega),zK] at hp;refine wp_seq (wp_mono (piece hm (by simp) hp (hlone j l') (hbad j l') (hn.trans k5.symm) k4) λe a2 w2 ⟨f1,f2,f3,f4,f5⟩=>?_);subst f1;exact ⟨rfl,f2.trans k5,f3.trans k6,k7.trans (N':=λ_=>False) f4 λ_ _ h=>h.elim,l',k3,f5.less λt=>EE_drop hs hk hd t⟩
 ·subst g1;simp only [Exit.inBlock,if_true];exact ⟨trivial,g2⟩
theorem WritesOK.of {T:Ty} {Cc:Code} (h:∀ (R:Nat->Prop) (l:List T.rgm.den),(∀ g,(zJ P).out g->¬ R g)->xz (.sl T.rgm) l=true->WrOK P n R d T.rgm keep [] l Cc) (hdk:zS keep d=false):WritesOK P n d T keep Cc:=by
 intro a w R l hn ht hR hD hf
 have hcx:Cx P R (EE d T.rgm keep (λt=>a.tmps.getD t undef) [] l) a w:=by
  refine ⟨ht,λt=>?_,λt j b x hh=>?_⟩
  ·rcases uZ d T.rgm keep (λt=>a.tmps.getD t undef) [] l t with ⟨rfl,e⟩ | ⟨hne,⟨i,e⟩ | e | e⟩
   ·rw [e];simpa only [zA] using hD
   ·exfalso;unfold EE at e;have:Nat.beq t d=false:=Bool.eq_false_iff.2 λe=>hne (xi e)
    rw [this] at e;simp only [zK,ixV] at e
    cases hk:zS keep t <;> rw [hk] at e <;> cases e
   ·rw [e];simp [zA]
   ·rw [e];simp [zA]
  ·rcases uZ d T.rgm keep (λt=>a.tmps.getD t undef) [] l t with ⟨rfl,e⟩ | ⟨hne,⟨i,e⟩ | e | e⟩ <;> rw [e] at hh <;> cases hh
 refine wp_mono (h R l hR hf (λt=>a.tmps.getD t undef) a w l (Alike.refl (t:=.sl T.rgm) l) hn hcx) λe a' w' ⟨h1,h2,h3,h4,l',_,h5⟩=>⟨h1,λt htk=>?_,h2,h3,h4⟩
 have hne:t≠d:=λe=>by subst e;rw [zc.2 htk] at hdk;cases hdk
 have:=h5.e t
 have e:EE d T.rgm keep (λt=>a.tmps.getD t undef) [] l' t=.lit .bad (a.tmps.getD t undef):=by
  unfold EE;have:Nat.beq t d=false:=Bool.eq_false_iff.2 λe=>hne (xi e)
  rw [this,zc.2 htk];rfl
 rw [e] at this;simp only [zA] at this;exact this.1
end
end Go.Ev
namespace Go.So
open Go Go.Ev
set_option maxRecDepth 100000
abbrev WrT:Ty:=.pair (.int .i64) (.pair .str (.pair .str (.pair .str (.pair (.int .i64) (.pair (.int .i64) (.pair .u8 (.pair (.int .i64) (.pair (.int .i64) (.pair (.sl .u8) .unit)))))))))
abbrev WrG:Ty:=.pair (.int .i64) (.pair .str (.pair .str (.pair .str (.pair (.int .i64) (.pair (.int .i64) (.pair .u8 (.pair (.int .i64) (.pair (.int .i64) (.pair (.sl (.rg .u8)) .unit)))))))))
abbrev wrB (d:WrG.den):List UInt8:=d.2.2.2.2.2.2.2.2.2.1
abbrev WrK:List Nat:=[0,5,6,7]
def wrD:WrG.den:=(0,[],[],[],0,0,0,0,0,[],())
noncomputable abbrev vS:List Bool->Code:=zU (zD Go.Proofs.Tryz.f15)
abbrev wrP:List Bool:=[true,true,false,true,false,false,true,false,false,true,true,true,true,true]
theorem mixedWr:Go.Proofs.Tryz.prog.follows .mixedOrders=true:=by kernel_rfl
def tQ:Code->Array Oper
 | .region _ ops _=>ops
 | _=>#[]
abbrev EW (u:Nat->Value) (cx:List (Nat×Int)) (l:List WrG.den):Nat->AV:=EE 8 WrG WrK u cx l
def E17 (u:Nat->Value) (j c:Int) (l:List WrG.den):Nat->AV:=λt =>
 cond (Nat.beq t 122) (.fp (.rg .u8) (wrB (l.getD j.toNat wrD)) c.toNat 0) (cond (Nat.beq t 121) (.u ((wrB (l.getD j.toNat wrD)).getD c.toNat 0 ^^^ 1)) (EW u [(19,c),(18,j)] l t))
abbrev bo2:List Bool:=wrP++[true,false,false]
abbrev bi3:List Bool:=bo2++[true,false,false]
abbrev bo4:List Bool:=bi3++[true,false,false]
abbrev r17:List Bool:=bo4++[true,false,false]
theorem pre17 (u:Nat->Value) (j c:Int) (l:List WrG.den):yP Go.Proofs.Tryz.prog C0 132 (tQ (vS r17)) (vl 0 ((tQ (vS r17)).toList.take 10)) [] [] ⟨EW u [(19,c),(18,j)] l,D0,0,[]⟩
  (λS=>some ([8,19,18,0,5,6,7,121,122].map S.E)) (λ_ _=>none)=cond (decide (0<=j)&&decide (j<(l.length:Int))) (cond (decide (0<=c)&&decide (c<((wrB (l.getD j.toNat wrD)).length:Int))) (cond (decide (0<=c)&&decide (c<((wrB (l.getD j.toNat wrD)).length:Int))) (some ([8,19,18,0,5,6,7,121,122].map (E17 u j c l))) none) none) none:=by kernel_rfl
theorem pre15 (u:Nat->Value) (j c:Int) (l:List WrG.den):ev Go.Proofs.Tryz.prog C0 M0 0 132 (vS (bo4++[false])) .leaf ⟨EW u [(19,c),(18,j)] l,D0,0,[]⟩ (λex S=>some (ex,[8,19,18,0,5,6,7].map S.E)) =
  cond (decide (0<=j)&&decide (j<(l.length:Int))) (cond (decide (c<((wrB (l.getD j.toNat wrD)).length:Int))) (some (.normal,[8,19,18,0,5,6,7].map (EW u [(19,c),(18,j)] l))) (some (.exit 4,[8,19,18,0,5,6,7].map (EW u [(19,c),(18,j)] l)))) none:=by kernel_rfl
theorem post16 (u:Nat->Value) (j c:Int) (l:List WrG.den):ev Go.Proofs.Tryz.prog C0 M0 0 132 (vS (bo4++[true,true])) .leaf ⟨EW u [(19,c),(18,j)] l,D0,0,[]⟩ (λex S=>some (ex,[8,19,18,0,5,6,7].map S.E)) =
  some (.normal,[8,19,18,0,5,6,7].map (EW u [(19,zh (c+1)),(18,j)] l)):=by kernel_rfl
theorem zero14 (u:Nat->Value) (j:Int) (l:List WrG.den):ev Go.Proofs.Tryz.prog C0 M0 0 132 (vS (bi3++[false])) .leaf ⟨EW u [(18,j)] l,D0,0,[]⟩ (λex S=>some (ex,[8,19,18,0,5,6,7].map S.E)) =
  some (.normal,[8,19,18,0,5,6,7].map (EW u [(19,0),(18,j)] l)):=by kernel_rfl
theorem pre12 (u:Nat->Value) (j:Int) (l:List WrG.den):ev Go.Proofs.Tryz.prog C0 M0 0 132 (vS (bo2++[false])) .leaf ⟨EW u [(18,j)] l,D0,0,[]⟩ (λex S=>some (ex,[8,18,0,5,6,7].map S.E)) =
  cond (decide (j<(l.length:Int))) (some (.normal,[8,18,0,5,6,7].map (EW u [(18,j)] l))) (some (.exit 2,[8,18,0,5,6,7].map (EW u [(18,j)] l))):=by kernel_rfl
theorem post13 (u:Nat->Value) (j:Int) (l:List WrG.den):ev Go.Proofs.Tryz.prog C0 M0 0 132 (vS (bo2++[true,true])) .leaf ⟨EW u [(18,j)] l,D0,0,[]⟩ (λex S=>some (ex,[8,18,0,5,6,7].map S.E)) =
  some (.normal,[8,18,0,5,6,7].map (EW u [(18,zh (j+1))] l)):=by kernel_rfl
theorem zero11 (u:Nat->Value) (l:List WrG.den):ev Go.Proofs.Tryz.prog C0 M0 0 132 (vS (wrP++[false])) .leaf ⟨EW u [] l,D0,0,[]⟩ (λex S=>some (ex,[8,18,0,5,6,7].map S.E)) =
  some (.normal,[8,18,0,5,6,7].map (EW u [(18,0)] l)):=by kernel_rfl
theorem code15:vS wrP=.seq (vS (wrP++[false])) (.block 2 (.loop (.seq (vS (bo2++[false])) (.seq (.block 3 (.seq (vS (bi3++[false])) (.block 4 (.loop (.seq (vS (bo4++[false])) (.seq (.block 5 (.region 17 (tQ (vS r17)) false)) (vS (bo4++[true,true])))))))) (vS (bo2++[true,true])))))):=by kernel_rfl
theorem size17:(tQ (vS r17)).size=11:=by kernel_rfl
noncomputable def o17:Oper:=((tQ (vS r17))[10]?).getD { dst:=none,op:=.move (.tmp 0),type:=0,pos := "",after:=#[],guard:=none }
theorem at17:(tQ (vS r17))[10]?=some o17:=by kernel_rfl
theorem op17:o17.op=.store 5 (.tmp 122) (.tmp 121)/\o17.guard=none/\o17.dst=none:=⟨by kernel_rfl,by kernel_rfl,by kernel_rfl⟩
theorem info5:(Go.Proofs.Tryz.prog.info? 5).isSome=true:=by kernel_rfl
theorem cells5:Go.Proofs.Tryz.prog.cellsOf 5=1:=by kernel_rfl
theorem wrB_alike {l l':List WrG.den} (h:Ev.Alike (.sl WrG) l l') (j:Nat):(wrB (l.getD j wrD)).length=(wrB (l'.getD j wrD)).length:=by
 by_cases hj:j<l.length
 ·have hj':j<l'.length:=by have:=h.1;omega
  have:=(h.2 j hj hj').2.2.2.2.2.2.2.2.2.1.1
  simp only [List.getD,List.getElem?_eq_getElem hj,List.getElem?_eq_getElem hj',Option.getD_some];exact this
 ·have hj':¬ j<l'.length:=by have:=h.1;omega
  simp only [List.getD,List.getElem?_eq_none_iff.2 (Nat.le_of_not_lt hj),List.getElem?_eq_none_iff.2 (Nat.le_of_not_lt hj'),Option.getD_none]
theorem inner15 {R:Nat->Prop} {l0:List WrG.den} (hR:∀ g,(zJ Go.Proofs.Tryz.prog).out g->¬ R g) {j c:Nat} (hj:j<l0.length) (hc:c<(wrB (l0.getD j wrD)).length) :
  WrOK Go.Proofs.Tryz.prog 132 R 8 WrG WrK [(19,(c:Int)),(18,(j:Int))] l0 (.block 5 (.region 17 (tQ (vS r17)) false)):=by
 intro u a w l hal hn hcx;have hjl:j<l.length:=by have:=hal.1;omega
 have hcl:c<(wrB (l.getD j wrD)).length:=by rw [<- wrB_alike hal];exact hc
 have hpre:=pre17 u j c l;rw [show (decide ((0:Int)<=(j:Int))&&decide ((j:Int)<(l.length:Int)))=true by simp;omega,zI] at hpre
 have hcc:(decide ((0:Int)<=(c:Int))&&decide ((c:Int)<((wrB (l.getD (j:Int).toNat wrD)).length:Int)))=true:=by
  rw [yF,yR];exact ⟨zm (by omega),zm (by omega)⟩
 rw [hcc,zI,zI] at hpre;obtain ⟨p1,p2,p3⟩:=op17;refine wp_block (wp_mono (Q':=Exit.inBlock 5 _) (piece_store (m:=10) (o:=o17) (t:=5) (p:=122) (v:=121) (y:=.u8) (k:=.u8) (f:=0) (cold:=.u ((wrB (l.getD (j:Int).toNat wrD)).getD (c:Int).toNat 0)) hpre ?_ ?_ size17 at17 p1 p2 p3 info5 cells5 rfl rfl (λ_=>⟨_,rfl⟩) rfl rfl hn hcx) λe a' w' ⟨h1,h2,h3,w1,h4,h5,h6,h7⟩=>?_)
 ·refine List.all_eq_true.2 λt _=>?_
  unfold E17
  cases Nat.beq t 122
  ·cases Nat.beq t 121
   ·rcases uZ 8 WrG WrK u [(19,(c:Int)),(18,(j:Int))] l t with ⟨_,e⟩ | ⟨_,⟨i,e⟩ | e | e⟩ <;> (simp only [zK];rw [show EW u _ l t=_ from e];rfl)
   ·rfl
  ·rfl
 ·intro t ht;simp only [List.mem_cons,List.not_mem_nil,or_false,not_or] at ht;obtain ⟨g1,g2,g3,g4,g5,g6,g7,g8,g9⟩:=ht;have b:∀ k:Nat,t≠k->Nat.beq t k=false:=λk hk=>Bool.eq_false_iff.2 λe=>hk (xi e)
  simp [E17,EW,EE,ixV,zS,b _ g1,b _ g2,b _ g3,b _ g4,b _ g5,b _ g6,b _ g7,b _ g8,b _ g9]
 ·subst h1
  have h8:Cx Go.Proofs.Tryz.prog R (EW u [(19,(c:Int)),(18,(j:Int))] l) a' w1:=by
   refine ⟨h5.tab,λt=>?_,λt j' b x hh=>?_⟩
   ·have:=h5.e t
    unfold E17 at this;by_cases e1:t=122
    ·subst e1;rw [show EW u [(19,(c:Int)),(18,(j:Int))] l 122=.bad from rfl];simp [zA]
    ·by_cases e2:t=121
     ·subst e2;rw [show EW u [(19,(c:Int)),(18,(j:Int))] l 121=.bad from rfl];simp [zA]
     ·have b1:Nat.beq t 122=false:=Bool.eq_false_iff.2 λe=>e1 (xi e)
      have b2:Nat.beq t 121=false:=Bool.eq_false_iff.2 λe=>e2 (xi e)
      rw [b1,b2] at this;exact this
   ·rcases uZ 8 WrG WrK u [(19,(c:Int)),(18,(j:Int))] l t with ⟨_,e⟩ | ⟨_,⟨i,e⟩ | e | e⟩ <;> (rw [show EW u _ l t=_ from e] at hh;cases hh)
  obtain ⟨l',k1,k2⟩:=h8.sim h6 h7 hR;refine ⟨rfl,h2,h3,?_,l',hal.trans k1,k2⟩;have c0:Chg R w w1:=⟨⟨h4.size,λg hg _=>h4.keep g hg λx=>x⟩,h4.os,h4.tape,h4.output⟩;exact c0.trans h7 λ_ _ h=>h
theorem core15 {R:Nat->Prop} {l:List WrG.den} (hR:∀ g,(zJ Go.Proofs.Tryz.prog).out g->¬ R g) (hf:xz (.sl WrG) l=true):WrOK Go.Proofs.Tryz.prog 132 R 8 WrG WrK [] l (vS wrP):=by
 rw [code15]
 have hf':l.length<=4611686018427387904/\∀ x∈l,xz WrG x=true:=by
  have h1:(decide (l.length<=4611686018427387904)&&l.all (xz WrG))=true:=hf;rw [yR] at h1;exact ⟨of_decide_eq_true h1.1,λx hx=>List.all_eq_true.1 h1.2 x hx⟩
 have slots2:∀ t,t∉[8,18,0,5,6,7]->Nat.beq t 8=false/\(∀ y∈(18,(0:Int))::([]:List (Nat×Int)),y.1≠t)/\zS WrK t=false:=λt ht=>by
  simp only [List.mem_cons,List.not_mem_nil,or_false,not_or] at ht;obtain ⟨g1,g2,g3,g4,g5,g6⟩:=ht;have b:∀ k:Nat,t≠k->Nat.beq t k=false:=λk hk=>Bool.eq_false_iff.2 λe=>hk (xi e)
  exact ⟨b _ g1,by simpa using λe=>g2 e.symm,by simp [zS,b _ g3,b _ g4,b _ g5,b _ g6]⟩
 have slots4:∀ (j:Int) t,t∉[8,19,18,0,5,6,7]->Nat.beq t 8=false/\(∀ y∈(19,(0:Int))::[(18,j)],y.1≠t)/\zS WrK t=false:=λj t ht=>by
  simp only [List.mem_cons,List.not_mem_nil,or_false,not_or] at ht;obtain ⟨g1,g7,g2,g3,g4,g5,g6⟩:=ht;have b:∀ k:Nat,t≠k->Nat.beq t k=false:=λk hk=>Bool.eq_false_iff.2 λe=>hk (xi e)
  exact ⟨b _ g1,by simpa using ⟨λe=>g7 e.symm,λe=>g2 e.symm⟩,by simp [zS,b _ g3,b _ g4,b _ g5,b _ g6]⟩
 refine wloop mixedWr (s:=18) (cnt:=l.length) (slots:=[8,18,0,5,6,7]) hf'.1 (by simp) rfl (by decide) slots2 (λl u=>zero11 u l) (λ(l':List WrG.den) u j hal=>?_) (λl u j=>post13 u j l) λj hj=>?_
 ·have hlen:l.length=List.length l':=hal.1
  have:=pre12 u j l'
  rw [show @List.length WrG.den l'=l.length from hlen.symm] at this;exact this
 ·intro u a w l1 hal hn hcx
  have hcnt:(wrB (l.getD j wrD)).length<=4611686018427387904:=by
   have hx:=hf'.2 _ (List.getElem_mem hj);simp only [xz,yR,xX] at hx;simp only [List.getD,List.getElem?_eq_getElem hj,Option.getD_some];exact hx.2.2.2.2.2.2.2.2.2.1.1
  have hw:=wloop mixedWr (P:=Go.Proofs.Tryz.prog) (R:=R) (d:=8) (G:=WrG) (keep:=WrK) (cx:=[(18,(j:Int))]) (l0:=l) (s:=19) (b:=4) (cnt:=(wrB (l.getD j wrD)).length) (r0:=vS (bi3++[false])) (pre:=vS (bo4++[false])) (post:=vS (bo4++[true,true])) (body:=.block 5 (.region 17 (tQ (vS r17)) false)) (n:=132)
   (slots:=[8,19,18,0,5,6,7]) hcnt (by simp) rfl (by decide) (slots4 _) (λl u=>zero14 u _ l) (λ(l':List WrG.den) u c hal'=>by
    have:=pre15 u j c l'
    have hjl:j<l'.length:=by have:=hal'.1;omega
    rw [show (decide ((0:Int)<=(j:Int))&&decide ((j:Int)<(l'.length:Int)))=true by simp;omega,zI] at this;rw [wrB_alike hal']
    simpa only [yF] using this) (λl u c=>post16 u _ c l) λc hc=>inner15 hR hj hc
  refine wp_block (wp_mono (Q':=Exit.inBlock 3 _) (hw u a w l1 hal hn hcx) λe a' w' ⟨h1,h2⟩=>?_);subst h1;exact ⟨rfl,h2⟩
theorem writes15:WritesOK Go.Proofs.Tryz.prog 132 8 WrT [0,5,6,7] (vS wrP):=WritesOK.of (T:=WrT) (λ_ _ hR hf=>core15 hR hf) rfl
end Go.So
namespace Go.Ev
open Go
def rgV:AV->AV
 | .sl t l=>cond (z7 t||!flT t) .bad (.sl (.rg t.rgm) (cast (congrArg List t.den_rgm.symm) l:List t.rgm.den))
 | .fz (.pt t) x=>match (show Option t.den from x) with
  | some y=>cond (z7 t||!flT t) .bad (.fp (.rg t.rgm) [cast t.den_rgm.symm y] 0 0)
  | none=>.bad
 | .i k n=>.i k n
 | _=>.bad
section
variable {w w':World} {N N' NR:NN} {μ μ':Nat->Option Nat} {H H':Nat->Blk}
theorem rgV_ok {n0:Nat} (hall:∀ g,¬ N.all g->n0<=g) (hunf:∀ g,n0<=g->N.unf g) (htrk:∀ g,n0<=g->¬ NR.trk g) (hreg:∀ g,n0<=g->g<w.heap.size->NR.reg g) {x:AV} {v:Value} (h:zA w N μ H x v):zA w NR μ' H' (rgV x) v:=by
 cases x <;> first | (simp only [rgV,zA];done) | skip
 case i k n=>exact h
 case sl t l =>
  simp only [rgV]
  cases hT:z7 t||!flT t with
  | true=>simp [zA]
  | false =>
   simp only [zK,zA] at h ⊢
   have:=tc (NR:=NR) hall hunf htrk hreg (t:=.sl t) hT h
   simpa only [Ty.rgm] using this
 case fz t x =>
  cases t <;> first | (simp only [rgV,zA];done) | skip
  rename_i t
  cases hx:(show Option t.den from x) with
  | none=>simp only [rgV,zA]
  | some y =>
  simp only [rgV]
  cases hT:z7 t||!flT t with
  | true=>simp [zA]
  | false =>
   have hx':x=some y:=hx;subst hx'
   have hs:z7 t=false:=by
    simp only [Bool.or_eq_false_iff] at hT;exact hT.1
   simp only [zK,zA,RelD] at h ⊢;obtain ⟨⟨p,hp,h | ⟨g,o,y',es,_,h2,h3,h4,h5,h6,h7,h8,h9⟩⟩,_⟩:=h
   ·cases h.1
   have h2':y=y':=h2;subst h2';have hv:v=.pointer p:=by simpa using hp
   subst hv;subst h3;have hg:=hall g λhn=>h4 (by rw [show lnN N t=N.all from by cases t <;> first | rfl | cases hs];exact hn)
   refine ⟨by simp,g,o,λhn=>hn.elim (htrk g hg) λhr=>hr (hreg g hg h5),h5,by simp,es,by simp only [Ty.size];rw [rgm_size hs];exact h7,by simpa using h8,by simp,?_,?_⟩
   ·exact tc hall hunf htrk hreg hT h9
   ·simp only [Ty.size,Nat.zero_mul,Nat.add_zero];rw [rgm_size hs];exact λ_=>h6 (hunf g hg)
theorem rgV_keep {x:AV} {v:Value} (hk:Keep N.trk w w') (hN:Sub w N' N) (h:zA w N μ H (rgV x) v):zA w' N' μ' H' (rgV x) v:=by
 have key:∀ z:AV,(∀ t l,z=.sl t l->zA w N μ H z v->zA w' N' μ' H' z v):=λz t l hz hh=>by
  subst hz;simp only [zA] at hh ⊢;exact hh.keep hk hN
 have key2:∀ (t:Ty) (l:List t.den) (ix f:Nat),zA w N μ H (.fp t l ix f) v->zA w' N' μ' H' (.fp t l ix f) v:=λt l ix f hh=>by
  simp only [zA] at hh ⊢;obtain ⟨h1,g,o,h2,h3,h4,es,h5,h6,h7,h8⟩:=hh;have hg:=hk.keep g h3 λht=>h2 (yy ht)
  exact ⟨h1,g,o,λhn=>h2 (hN.ln h3 hn),Nat.lt_of_lt_of_le h3 hk.size,h4,es,h5,ze hg h6,h7,h8.1.keep hk hN,h8.2.keep h3 hg hN⟩
 cases x <;> first | (simp only [rgV,zA];done) | skip
 case i k n=>exact h
 case sl t l =>
  simp only [rgV] at h ⊢
  cases hT:z7 t||!flT t with
  | true=>simp [zA]
  | false =>
   simp only [hT,zK] at h ⊢;exact key _ _ _ rfl h
 case fz t x =>
  cases t <;> first | (simp only [rgV,zA];done) | skip
  rename_i t
  cases hx:(show Option t.den from x) with
  | none=>simp only [rgV,zA]
  | some y =>
   simp only [rgV,hx] at h ⊢
   cases hT:z7 t||!flT t with
   | true=>simp [zA]
   | false =>
    simp only [hT,zK] at h ⊢;exact key2 _ _ _ _ h
end
def WrFrom (P:Program) (n:Nat) (D keep:List Nat) (x:Nat->AV) (Cc:Code):Prop :=
 ∀ (a:Act) (w:World) (R:Nat->Prop),n=a.tmps.size->(zJ P).tab w->(∀ g,(zJ P).out g->¬ R g)->(∀ t∈D,zA w (NC (Tb:=zJ P) R) (λ_=>none) D0 (x t) (a.tmps.getD t undef)) ->
  Cc.wp P (λe a' w'=>e=.normal/\(∀ t∈keep,a'.tmps.getD t undef=a.tmps.getD t undef)/\a'.tmps.size=a.tmps.size/\a'.defers=a.defers/\Chg R w w') a w
section
variable {P:Program} {C:zW} {M:FuncId->Bool} {pin n:Nat}
end
end Go.Ev
namespace Go.Ev
open Go
inductive Ent where
 | sl (t:Ty)
 | fp (t:Ty)
 | i
 | lit
abbrev Ent.den:Ent->Type
 | .sl t=>List t.den
 | .fp t=>t.den
 | .i=>Int
 | .lit=>Value
def Ent.av:(e:Ent)->e.den->AV
 | .sl t,l=>.sl (.rg t) l
 | .fp t,x=>.fp (.rg t) [x] 0 0
 | .i,n=>.i .i64 n
 | .lit,u=>.lit .bad u
def Ent.rel:(e:Ent)->e.den->e.den->Prop
 | .sl t,l,l'=>Alike (.sl t) l l'
 | .fp t,x,x'=>Alike t x x'
 | .i,n,n'=>n=n'
 | .lit,u,u'=>u=u'
def Ent.ok:Ent->Bool
 | .sl t=>flT t
 | .fp t=>flT t
 | _=>true
abbrev zP:List (Nat×Ent)->Type
 | []=>Unit
 | (_,e)::r=>e.den×zP r
def EV:(l:List (Nat×Ent))->zP l->Nat->AV
 | [],_=>λ_=>.bad
 | (k,e)::r,x=>λt=>cond (Nat.beq t k) (e.av x.1) (EV r x.2 t)
def relE:(l:List (Nat×Ent))->zP l->zP l->Prop
 | [],_,_=>True
 | (_,e)::r,x,y=>e.rel x.1 y.1/\relE r x.2 y.2
def okE:List (Nat×Ent)->Bool
 | []=>true
 | (k,e)::r=>e.ok&&(!zS (r.map (·.1)) k&&okE r)
theorem relE.refl:∀ {l:List (Nat×Ent)} (x:zP l),relE l x x
 | [],_=>trivial
 | (_,e)::r,x=>⟨by cases e <;> first | exact Alike.refl _ | rfl,relE.refl x.2⟩
theorem relE.trans:∀ {l:List (Nat×Ent)} {x y z:zP l},relE l x y->relE l y z->relE l x z
 | [],_,_,_,_,_=>trivial
 | (_,e)::r,x,y,z,h,h'=>⟨by
   have h1:=h.1;have h2:=h'.1
   cases e
   ·exact Alike.trans h1 h2
   ·exact Alike.trans h1 h2
   ·exact Eq.trans h1 h2
   ·exact Eq.trans h1 h2,relE.trans h.2 h'.2⟩
theorem vR:∀ {l:List (Nat×Ent)} (x:zP l) (t:Nat),vq (EV l x t)=true
 | [],_,_=>rfl
 | (k,e)::r,x,t=>by
  simp only [EV]
  cases Nat.beq t k
  ·exact vR x.2 t
  ·cases e <;> rfl
theorem uY:∀ {l:List (Nat×Ent)} (x:zP l) {t:Nat},t∉l.map (·.1)->EV l x t=.bad
 | [],_,_,_=>rfl
 | (k,e)::r,x,t,h=>by
  simp only [List.map_cons,List.mem_cons,not_or] at h;simp only [EV,show Nat.beq t k=false from Bool.eq_false_iff.2 λe=>h.1 (xi e),zK];exact uY x.2 h.2
section
variable {P:Program} {n:Nat} {a:Act} {w w':World} {R:Nat->Prop}
theorem RelV_simE (hs:WSim w w') {N:NN} {μ μ':Nat->Option Nat} {H H':Nat->Blk}:∀ {e:Ent} {x:e.den} {v:Value},e.ok=true->zA w N μ H (e.av x) v->∃ x',e.rel x x'/\zA w' N μ' H' (e.av x') v
 | .i,x,v,_,h=>⟨x,rfl,by simpa only [Ent.av,zA] using h⟩
 | .lit,x,v,_,h=>⟨x,rfl,by simpa only [Ent.av,zA] using h⟩
 | .sl t,x,v,hf,h=>by
  simp only [Ent.av,zA] at h ⊢;obtain ⟨l',h1,h2⟩:=vg hs (t:=.sl (.rg t)) hf h rfl λi _ _=>.refl _
  exact ⟨l',h2,h1⟩
 | .fp t,x,v,hf,h=>by
  simp only [Ent.av,zA] at h ⊢;obtain ⟨h1,g,o,h2,h3,h4,es,h5,h6,_,h7,h8⟩:=h;obtain ⟨es',f1,f2,f3⟩:=row_sim hs h6;obtain ⟨x',f4,f5⟩:=vg hs (t:=.rg t) hf h7 f1 f3;refine ⟨x',f5,by simp,g,o,h2,by rw [hs.size];exact h3,h4,es',f1.trans h5,f2,by simp,f4,λhu k hk=>?_⟩;rw [hs.frozen];exact h8 hu k hk
theorem Cx.simE (hs:WSim w w') (hc:Chg R w w') (hR:∀ g,(zJ P).out g->¬ R g):∀ {l:List (Nat×Ent)} {x:zP l},okE l=true->Cx P R (EV l x) a w->∃ x',relE l x x'/\Cx P R (EV l x') a w':=by
 have tab:(zJ P).tab w->(zJ P).tab w':=λht=>(zJ P).stays w w' (λg hg=>hc.keep g ((zJ P).lt w g ht hg) (hR g hg)) ht
 have key:∀ (l:List (Nat×Ent)) (x:zP l),okE l=true->(∀ t,zA w (NC (Tb:=zJ P) R) (λ_=>none) D0 (EV l x t) (a.tmps.getD t undef))->∃ x',relE l x x'/\∀ t,zA w' (NC (Tb:=zJ P) R) (λ_=>none) D0 (EV l x' t) (a.tmps.getD t undef):=by
  intro l;induction l with
  | nil=>exact λ_ _ _=>⟨(),trivial,λt=>by simp [EV,zA]⟩
  | cons p r ih =>
   intro x ho h;obtain ⟨k,e⟩:=p;simp only [okE,yR,Bool.not_eq_true'] at ho;have hin:k∉r.map (·.1):=λhh=>by rw [zc.2 hh] at ho;cases ho.2.1
   have hk:=h k;simp only [EV,Nat.beq_refl,zI] at hk;obtain ⟨y,y1,y2⟩:=RelV_simE (μ':=λ_=>none) (H':=D0) hs ho.1 hk
   obtain ⟨z,z1,z2⟩:=ih x.2 ho.2.2 λt=>by
    by_cases ht:t=k
    ·subst ht;rw [uY x.2 hin];simp [zA]
    ·have:=h t
     simp only [EV,show Nat.beq t k=false from Bool.eq_false_iff.2 λe=>ht (xi e),zK] at this;exact this
   refine ⟨(y,z),⟨y1,z1⟩,λt=>?_⟩;by_cases ht:t=k
   ·subst ht;simp only [EV,Nat.beq_refl,zI];exact y2
   ·simp only [EV,show Nat.beq t k=false from Bool.eq_false_iff.2 λe=>ht (xi e),zK];exact z2 t
 intro l x ho h;obtain ⟨x',h1,h2⟩:=key l x ho h.e;refine ⟨x',h1,tab h.tab,h2,λt j b y hh=>?_⟩
 have:=vR x' t
 rw [hh] at this
 cases this
def WrG (P:Program) (n:Nat) (L1:List (Nat×Ent)) (x:zP L1) (L2:List (Nat×Ent)) (Q:zP L2->Prop) (c:Code):Prop :=
 ∀ (R:Nat->Prop) (a:Act) (w:World),(∀ g,(zJ P).out g->¬ R g)->n=a.tmps.size->Cx P R (EV L1 x) a w ->
  c.wp P (λe a' w'=>e=.normal/\a'.tmps.size=a.tmps.size/\a'.defers=a.defers/\Chg R w w'/\∃ (R':Nat->Prop) (y:zP L2),(∀ g,R g->R' g)/\(∀ g,R' g->R g\/w.heap.size<=g)/\Q y/\Cx P R' (EV L2 y) a' w') a w
variable {L L1 L2 L3:List (Nat×Ent)}
theorem wr_seq {x:zP L1} {Q1:zP L2->Prop} {Q2:zP L3->Prop} {c1 c2:Code} (h1:WrG P n L1 x L2 Q1 c1) (h2:∀ y,Q1 y->WrG P n L2 y L3 Q2 c2):WrG P n L1 x L3 Q2 (.seq c1 c2):=by
 intro R a w hR hn hcx;refine wp_seq (wp_mono (h1 R a w hR hn hcx) λe a1 w1 ⟨e1,e2,e3,e4,R1,y,r1,r2,e5,e6⟩=>?_);subst e1;refine wp_mono (h2 y e5 R1 a1 w1 (λg hg h=>(r2 g h).elim (hR g hg) λh=>by have:=(zJ P).lt w g hcx.tab hg;omega) (hn.trans e2.symm) e6) λe a2 w2 ⟨f1,f2,f3,f4,R2,z,s1,s2,f5,f6⟩=>?_
 refine ⟨f1,f2.trans e2,f3.trans e3,e4.trans f4 λg hg h=>(r2 g h).elim id λh=>by omega,R2,z,λg h=>s1 g (r1 g h),λg h=>(s2 g h).elim (r2 g) λh=>.inr (Nat.le_trans e4.size h),f5,f6⟩
theorem tn {x:zP L1} {Q1 Q2:zP L2->Prop} {c:Code} (h:WrG P n L1 x L2 Q1 c) (hq:∀ y,Q1 y->Q2 y):WrG P n L1 x L2 Q2 c:=by
 intro R a w hR hn hcx;refine wp_mono (h R a w hR hn hcx) λe a1 w1 ⟨e1,e2,e3,e4,R1,y,r1,r2,e5,e6⟩=>⟨e1,e2,e3,e4,R1,y,r1,r2,hq y e5,e6⟩
theorem wr_piece (hm:P.follows .mixedOrders=true) {x:zP L1} {y:zP L2} {c:Code}
  (he:ev P C0 M0 0 n c .leaf ⟨EV L1 x,D0,0,[]⟩ (λex S=>some (ex,(L2.map (·.1)).map S.E))=some (.normal,(L2.map (·.1)).map (EV L2 y))):WrG P n L1 x L2 (λz=>z=y) c:=by
 intro R a w _ hn hcx;refine wp_mono (piece hm (by simp) he (List.all_eq_true.2 λt _=>vR y t) (λt ht=>uY y ht) hn hcx) λe a1 w1 ⟨e1,e2,e3,e4,e5⟩=>?_
 exact ⟨e1,e2,e3,⟨⟨e4.size,λg hg _=>e4.keep g hg λx=>x⟩,e4.os,e4.tape,e4.output⟩,R,y,λg h=>h,λg h=>.inl h,rfl,e5⟩
def E2 (p v:Nat) (x y:AV) (E:Nat->AV):Nat->AV:=λt=>cond (Nat.beq t p) x (cond (Nat.beq t v) y (E t))
theorem wr_store {x:zP L} {id m:Nat} {ops:Array Oper} {o:Oper} {t:TypeId} {p v:Nat} {y:Ty} {l:List y.den} {ix f:Nat} {k:IntKind} {cold xv:AV}
  (he:yP P C0 n ops (vl 0 (ops.toList.take m)) [] [] ⟨EV L x,D0,0,[]⟩ (λS=>some ((p::v::L.map (·.1)).map S.E)) (λ_ _=>none)=some ((p::v::L.map (·.1)).map (E2 p v (.fp (.rg y) l ix f) xv (EV L x))))
  (hsz:ops.size=m+1) (ho:ops[m]?=some o) (hop:o.op=.store t (.tmp p) (.tmp v)) (hgd:o.guard=none) (hdst:o.dst=none) (hi:(P.info? t).isSome=true) (hc1:P.cellsOf t=1)
  (hv:numK xv=some k) (hlv:vq xv=true) (hv8:k=.u8->∃ z,xv=.u z) (hcold:(x5 y (l.getD ix y.dflt))[f]?=some cold) (hck:numK cold=some k)
  (hL:okE L=true) (hpv:Nat.beq v p=false) (hpL:zS (L.map (·.1)) p=false) (hvL:zS (L.map (·.1)) v=false):WrG P n L x L (relE L x) (.block id (.region id ops false))/\WrG P n L x L (relE L x) (.region id ops false):=by
 have hreg:∀ id',WrG P n L x L (relE L x) (.region id' ops false):=λid'=>by
  intro R a w hR hn hcx;have hoff:∀ s,zS (L.map (·.1)) s=false->EV L x s=.bad:=λs hs=>uY x λh=>by rw [zc.2 h] at hs;cases hs
  refine wp_mono (piece_store (E':=E2 p v (.fp (.rg y) l ix f) xv (EV L x)) (slots:=p::v::L.map (·.1)) he (List.all_eq_true.2 λs _=>?_) (λs hs=>?_) hsz ho hop hgd hdst hi hc1 (by simp [E2]) (by simp only [E2,hpv,Nat.beq_refl,zK,zI];exact hv) (by simp only [E2,hpv,Nat.beq_refl,zK,zI];exact hv8) hcold hck hn hcx) λe a1 w1 ⟨e1,e2,e3,w2,e4,e5,e6,e7⟩=>?_
  ·unfold E2
   cases Nat.beq s p
   ·cases Nat.beq s v
    ·exact vR x s
    ·exact hlv
   ·rfl
  ·simp only [List.mem_cons,not_or] at hs;obtain ⟨h1,h2,h3⟩:=hs;unfold E2;rw [show Nat.beq s p=false from Bool.eq_false_iff.2 λe=>h1 (xi e),show Nat.beq s v=false from Bool.eq_false_iff.2 λe=>h2 (xi e)];exact uY x h3
  ·have h8:Cx P R (EV L x) a1 w2:=e5.less λs=>by
    by_cases h1:s=p
    ·subst h1;exact .inr (hoff _ hpL)
    ·by_cases h2:s=v
     ·subst h2;exact .inr (hoff _ hvL)
     ·left;unfold E2;rw [show Nat.beq s p=false from Bool.eq_false_iff.2 λe=>h1 (xi e),show Nat.beq s v=false from Bool.eq_false_iff.2 λe=>h2 (xi e)];rfl
   obtain ⟨x',k1,k2⟩:=h8.simE e6 e7 hR hL;have c0:Chg R w w2:=⟨⟨e4.size,λg hg _=>e4.keep g hg λx=>x⟩,e4.os,e4.tape,e4.output⟩;exact ⟨e1,e2,e3,c0.trans e7 λ_ _ h=>h,R,x',λg h=>h,λg h=>.inl h,k1,k2⟩
 refine ⟨?_,hreg id⟩;intro R a w hR hn hcx;refine wp_block (wp_mono (hreg id R a w hR hn hcx) λe a1 w1 ⟨e1,e2⟩=>?_);subst e1;exact ⟨rfl,e2⟩
theorem wr_block {x:zP L1} {Q:zP L2->Prop} {c:Code} {id:Nat} (h:WrG P n L1 x L2 Q c):WrG P n L1 x L2 Q (.block id c):=by
 intro R a w hR hn hcx;refine wp_block (wp_mono (h R a w hR hn hcx) λe a1 w1 ⟨e1,e2⟩=>?_);subst e1;exact ⟨rfl,e2⟩
theorem pieceL (hm:P.follows .mixedOrders=true) {pres:List Code} {E E':Nat->AV} {slots:List Nat} {ex:Ex}
  (he:ev P C0 M0 0 n (xd pres .skip) .leaf ⟨E,D0,0,[]⟩ (λex S=>some (ex,slots.map S.E))=some (ex,slots.map E')) (hl:(slots.all λt=>vq (E' t))=true) (hb:∀ t,t∉slots->E' t=.bad)
  (hn:n=a.tmps.size) (h:Cx P R E a w) {X:Code} {Q:Exit->Act->World->Prop} (hx:ex≠.pan)
  (hN:∀ a' w',ex=.normal->a'.tmps.size=a.tmps.size->a'.defers=a.defers->Chg (λ_=>False) w w'->Cx P R E' a' w'->X.wp P Q a' w')
  (hX:∀ a' w',ex≠.normal->a'.tmps.size=a.tmps.size->a'.defers=a.defers->Chg (λ_=>False) w w'->Cx P R E' a' w'->Q (exOf ex) a' w'):(xd pres X).wp P Q a w:=by
 have key:∀ {S':St} {μ':Nat->Option Nat} {w':World} {a':Act},slots.map S'.E=slots.map E'->CP true (FC R:Frm (zJ P)) 0 (λ_=>none) ⟨E,D0,0,[]⟩ w a μ' S' w' a'->Chg (λ_=>False) w w'/\Cx P R E' a' w':=λ{S' μ' w' a'} h2 h3=>by
  refine ⟨⟨⟨h3.chg.size,λg hg _=>h3.chg.keep g hg λ⟨b,h,_⟩=>h rfl⟩,h3.chg.os,h3.chg.tape,h3.chg.output⟩,h3.rg.hp.tab,λt=>?_,λt j b x hh=>?_⟩
  ·by_cases ht:t∈slots
   ·have hE:S'.E t=E' t:=List.map_inj_left.1 h2 t ht;have hlt:=List.all_eq_true.1 hl t ht
    have:=h3.rg.e t
    rw [hE] at this;refine lone_ok (μ:=μ') (H:=S'.H) hlt ?_
    cases hxx:E' t <;> rw [hxx] at this hlt <;> first | exact this | (simp [vq] at hlt)
   ·rw [hb t ht];simp [zA]
  ·by_cases ht:t∈slots
   ·have hlt:=List.all_eq_true.1 hl t ht;rw [hh] at hlt;simp [vq] at hlt
   ·rw [hb t ht] at hh;cases hh
 refine seqL_ok hm (callOK0 M0) pres _ _ he (λ_=>none) w a hn (Nat.zero_le _) h.rg (λS' μ' a' w' hK hcp=>?_) λex' e S' μ' a' av w' hex hXR hK hcp=>?_
 ·simp only [y5,Prod.mk.injEq] at hK;obtain ⟨h1,h2⟩:=hK;obtain ⟨k1,k2⟩:=key h2 hcp;exact hN a' w' h1.symm hcp.size hcp.defers k1 k2
 ·simp only [y5,Prod.mk.injEq] at hK;obtain ⟨h1,h2⟩:=hK;subst h1;obtain ⟨k1,k2⟩:=key h2 hcp
  have hav:e=exOf ex'/\a'=av:=by
   cases ex' <;> first | exact hXR | exact absurd rfl hx
  obtain ⟨rfl,rfl⟩:=hav;exact hX a' w' hex hcp.size hcp.defers k1 k2
theorem wr_loop (hm:P.follows .mixedOrders=true) {s b cnt:Nat} {pres:List Code} {body post:Code} {x0:zP L} (hcnt:cnt<=4611686018427387904) (hs:zS (L.map (·.1)) s=false)
  (hpre:∀ (j:Int) (y:zP L),relE L x0 y->ev P C0 M0 0 n (xd pres .skip) .leaf ⟨EV ((s,.i)::L) (j,y),D0,0,[]⟩ (λex S=>some (ex,(s::L.map (·.1)).map S.E))=cond (decide (j<(cnt:Int))) (some (.normal,(s::L.map (·.1)).map (EV ((s,.i)::L) (j,y)))) (some (.exit b,(s::L.map (·.1)).map (EV ((s,.i)::L) (j,y)))))
  (hpost:∀ (j:Int) (y:zP L),ev P C0 M0 0 n post .leaf ⟨EV ((s,.i)::L) (j,y),D0,0,[]⟩ (λex S=>some (ex,(s::L.map (·.1)).map S.E))=some (.normal,(s::L.map (·.1)).map (EV ((s,.i)::L) (zh (j+1),y))))
  (hbody:∀ j:Nat,j<cnt->∀ y,relE L x0 y->WrG P n ((s,.i)::L) ((j:Int),y) ((s,.i)::L) (λz=>z.1=(j:Int)/\relE L x0 z.2) body) :
  WrG P n ((s,.i)::L) ((0:Int),x0) L (relE L x0) (.block b (.loop (xd pres (.seq body post)))):=by
 intro R a w hR hn hcx;have hoff:∀ (j:Int) (y:zP L) t,t∉s::L.map (·.1)->EV ((s,.i)::L) (j,y) t=.bad:=λj y t ht=>uY (l:=(s,.i)::L) (j,y) ht
 have hsL:s∉L.map (·.1):=λh=>by rw [zc.2 h] at hs;cases hs
 refine wp_block (wp_mono (Q':=Exit.inBlock b _) (wp_loop_n (Q:=λe a' w'=>e=.exit b/\a'.tmps.size=a.tmps.size/\a'.defers=a.defers/\Chg R w w'/\∃ (R':Nat->Prop) (y:zP L),(∀ g,R g->R' g)/\(∀ g,R' g->R g\/w.heap.size<=g)/\relE L x0 y/\Cx P R' (EV L y) a' w')
  (λm a' w'=>∃ (j:Nat) (y:zP L) (R':Nat->Prop),j<=cnt/\m=cnt-j+1/\(∀ g,R g->R' g)/\(∀ g,R' g->R g\/w.heap.size<=g)/\relE L x0 y/\Cx P R' (EV ((s,.i)::L) ((j:Int),y)) a' w'/\a'.tmps.size=a.tmps.size/\a'.defers=a.defers/\Chg R w w')
  (λa w ⟨j,_,_,_,h,_⟩=>by omega) (λm a' w' ⟨j,y,R',k1,k2,r1,r2,k3,k4,k5,k6,k7⟩=>?_) (cnt+1) ⟨0,x0,R,Nat.zero_le _,by omega,λg h=>h,λg h=>.inl h,relE.refl x0,hcx,rfl,rfl,Chg.refl w⟩) λe a' w' ⟨g1,g2⟩=>?_)
 ·have hR':∀ g,(zJ P).out g->¬ R' g:=λg hg h=>(r2 g h).elim (hR g hg) λh=>by have:=(zJ P).lt w g hcx.tab hg;omega
  have hp:=hpre j y k3;by_cases hj:j<cnt
  ·rw [show decide ((j:Int)<(cnt:Int))=true from zm (by omega),zI] at hp;refine pieceL hm hp (List.all_eq_true.2 λt _=>vR (l:=(s,.i)::L) _ t) (hoff j y) (hn.trans k5.symm) k4 (by simp) (λa2 w2 _ f2 f3 f4 f5=>?_) λ_ _ h=>absurd rfl h
   refine wp_seq (wp_mono (hbody j hj y k3 R' a2 w2 hR' (hn.trans (k5.symm.trans f2.symm)) f5) λe a3 w3 ⟨q1,q2,q3,q4,R3,z,s1,s2,q5,q6⟩=>?_);subst q1;obtain ⟨jz,yz⟩:=z;obtain ⟨q5,q7⟩:jz=(j:Int)/\relE L x0 yz:=q5;subst q5;have hpo:=hpost j yz
   have hw:zh ((j:Int)+1)=((j+1:Nat):Int):=by
    unfold zh IntKind.wrap;simp [IntKind.signed,IntKind.bits];omega
   rw [hw] at hpo;refine wp_mono (piece hm (by simp) hpo (List.all_eq_true.2 λt _=>vR (l:=(s,.i)::L) _ t) (hoff _ yz) (hn.trans (k5.symm.trans (f2.symm.trans q2.symm))) q6) λe a4 w4 ⟨t1,t2,t3,t4,t5⟩=>?_
   subst t1;have c1:Chg R w w2:=k7.trans (N':=λ_=>False) f4 λ_ _ h=>h.elim
   have c2:Chg R w w3:=c1.trans q4 λg hg h=>(r2 g h).elim id λh=>by omega
   refine ⟨j+1,yz,R3,hj,by omega,λg h=>s1 g (r1 g h),λg h=>(s2 g h).elim (r2 g) λh=>.inr (Nat.le_trans c1.size h),q7,t5,t2.trans (q2.trans (f2.trans k5)),t3.trans (q3.trans (f3.trans k6)),c2.trans (N':=λ_=>False) t4 λ_ _ h=>h.elim⟩
  ·rw [show decide ((j:Int)<(cnt:Int))=false from yv (by omega),zK] at hp;refine pieceL hm hp (List.all_eq_true.2 λt _=>vR (l:=(s,.i)::L) _ t) (hoff j y) (hn.trans k5.symm) k4 (by simp) (λ_ _ h=>by cases h) λa2 w2 _ f2 f3 f4 f5=>?_
   refine ⟨rfl,f2.trans k5,f3.trans k6,k7.trans (N':=λ_=>False) f4 λ_ _ h=>h.elim,R',y,r1,r2,k3,f5.less λt=>?_⟩;by_cases ht:t=s
   ·subst ht;exact .inr (uY y hsL)
   ·left;simp only [EV,show Nat.beq t s=false from Bool.eq_false_iff.2 λe=>ht (xi e),zK]
 ·subst g1;simp only [Exit.inBlock,if_true];exact ⟨trivial,g2⟩
theorem WrFrom.of {D keep:List Nat} {X:Nat->AV} {c:Code} {mk:(Nat->Value)->zP L}
  (hx:∀ f,(L.map (·.1)).map (EV L (mk f))=(L.map (·.1)).map λt=>cond (zS D t) (X t) (cond (zS keep t) (.lit .bad (f t)) .bad))
  (_hk:∀ f,keep.map (EV L (mk f))=keep.map λt=>.lit .bad (f t))
  {L2:List (Nat×Ent)} {Q:(Nat->Value)->zP L2->Prop} (hk2:∀ f y,Q f y->∀ t∈keep,EV L2 y t=.lit .bad (f t))
  (h:∀ f,WrG P n L (mk f) L2 (Q f) c):WrFrom P n D keep X c:=by
 intro a w R hn ht hR hD;let f:Nat->Value:=λt=>a.tmps.getD t undef
 have hcx:Cx P R (EV L (mk f)) a w:=by
  refine ⟨ht,λt=>?_,λt j b x hh=>?_⟩
  ·by_cases hin:t∈L.map (·.1)
   ·rw [List.map_inj_left.1 (hx f) t hin]
    cases hd:zS D t with
    | true=>exact hD t (zc.1 hd)
    | false =>
     simp only [zK]
     cases zS keep t with
     | true=>simp only [zI,zA,f];exact ⟨trivial,trivial⟩
     | false=>simp [zA]
   ·rw [uY _ hin];simp [zA]
  ·have:=vR (mk f) t
   rw [hh] at this
   cases this
 refine wp_mono (h f R a w hR hn hcx) λe a' w' ⟨e1,e2,e3,e4,R',y,_,_,e5,e6⟩=>⟨e1,λt htk=>?_,e2,e3,e4⟩
 have:=e6.e t
 rw [hk2 f y e5 t htk] at this;simp only [zA] at this;exact this.1
end
end Go.Ev
namespace Go.Ev
open Go
def lentV3:AV->AV
 | .sl t l=>cond (fnT t) (.sl (.ln t.inn) (cast (congrArg List t.den_inn.symm) l:List t.inn.den)) .bad
 | .fz t x=>cond (fnT t) (.fz t.inn (cast t.den_inn.symm x)) .bad
 | .i k n=>.i k n
 | .u x=>.u x
 | .b x=>.b x
 | .kb x=>.kb x
 | .s x=>.s x
 | .agg cs=>.agg (lentL3 cs)
 | _=>.bad
where
 lentL3:List AV->List AV
 | []=>[]
 | x::r=>lentV3 x::lentL3 r
section
variable {w:World} {N N':NN}
theorem x8 (hN:∀ g,g<w.heap.size->N'.trk g->N.trk g) (hu:∀ g,g<w.heap.size->N'.unf g->N.unf g):∀ {t:Ty} {x:t.inn.den} {vs:List Value},fnT t=true->RelD w N t.inn x vs->RelD w N' t.inn x vs
 | .int _,_,_,_,h=>h
 | .u8,_,_,_,h=>h
 | .bool,_,_,_,h=>h
 | .str,_,_,_,h=>h
 | .unit,_,_,_,h=>h
 | .mx _,_,_,hs,_=>by cases hs
 | .rg t,x,vs,hs,h=>by cases hs
 | .ln t,x,vs,hs,h=>x8 hN hu (t:=t) hs h
 | .pair a b,p,vs,hs,h=>by
  simp only [fnT,yR] at hs;simp only [Ty.inn,RelD] at h ⊢;obtain ⟨xs,ys,h0,h1,h2⟩:=h;exact ⟨xs,ys,h0,x8 hN hu hs.1 h1,x8 hN hu hs.2 h2⟩
 | .sl t,l,vs,hs,h=>by
  simp only [fnT] at hs;simp only [Ty.inn,RelD] at h ⊢;obtain ⟨a,c,h1,h2,h3⟩:=h;refine ⟨a,c,h1,h2,λhp=>?_⟩;obtain ⟨g,o,ha,hn,hg,hf,hr⟩:=h3 hp;refine ⟨g,o,ha,λhn'=>hn (hN g hg hn'),hg,λhf'=>hf (hu g hg hf'),λi hi=>?_⟩;obtain ⟨es,e1,e2,e3⟩:=hr i hi;exact ⟨es,e1,e2,x8 hN hu hs e3⟩
 | .pt t,x,vs,hs,h=>by
  simp only [fnT] at hs;simp only [Ty.inn,RelD] at h ⊢;obtain ⟨p,h1,h | ⟨g,o,y,es,h2,h3,h4,h5,h6,h7,h8,h9,h10⟩⟩:=h
  ·exact ⟨p,h1,.inl h⟩
  ·exact ⟨p,h1,.inr ⟨g,o,y,es,h2,h3,h4,λhn=>h5 (hN g h6 hn),h6,λhf=>h7 (hu g h6 hf),h8,h9,x8 hN hu hs h10⟩⟩
 | .mp k v ag,l,vs,hs,h=>by
  simp only [fnT,yR] at hs;simp only [Ty.inn,RelD] at h ⊢;obtain ⟨a,h1,g,es,c,h2,h3,h4,h5,h6,h7,h8⟩:=h;refine ⟨a,h1,g,es,c,h2,λhn=>h3 (hN g h4 hn),h4,h5,h6,h7,λi hi hi'=>?_⟩;obtain ⟨r1,cs,r2,r3⟩:=h8 i hi hi';exact ⟨RelD_plK hs.1 r1,cs,x8 hN hu hs.2 r2,r3⟩
mutual
theorem RelV_lent3 {μ μ':Nat->Option Nat} {H H':Nat->Blk} (hN:∀ g,g<w.heap.size->N'.trk g->N.trk g) (hu:∀ g,g<w.heap.size->N'.unf g->N.unf g):∀ {x:AV} {v:Value},zA w N μ H x v->zA w N' μ' H' (lentV3 x) v
 | .sl t l,v,h=>by
  simp only [lentV3]
  cases hs:fnT t with
  | false=>simp [zA]
  | true =>
   simp only [zI,zA] at h ⊢;exact x8 (t:=.sl t) hN hu hs h.inn
 | .fz t x,v,h=>by
  simp only [lentV3]
  cases hs:fnT t with
  | false=>simp [zA]
  | true =>
   simp only [zI,zA] at h ⊢;exact ⟨x8 (t:=t) hN hu hs h.1.inn,h.2⟩
 | .agg cs,v,h=>by
  simp only [lentV3,zA] at h ⊢;obtain ⟨vs,h1,h2⟩:=h;exact ⟨vs,h1,RelL_lent3 hN hu h2⟩
 | .i _ _,_,h=>h
 | .u _,_,h=>h
 | .b _,_,h=>h
 | .kb _,_,h=>h
 | .s _,_,h=>h
 | .c _,_,_=>by simp [lentV3,zA]
 | .fp _ _ _ _,_,_=>by simp [lentV3,zA]
 | .ptr _ _,_,_=>by simp [lentV3,zA]
 | .ep _ _ _ _,_,_=>by simp [lentV3,zA]
 | .wh _,_,_=>by simp [lentV3,zA]
 | .win _ _ _,_,_=>by simp [lentV3,zA]
 | .mp _,_,_=>by simp [lentV3,zA]
 | .mptr _ _ _,_,_=>by simp [lentV3,zA]
 | .fn _ _,_,_=>by simp [lentV3,zA]
 | .tup _,_,_=>by simp [lentV3,zA]
 | .gd _ _ _,_,_=>by simp [lentV3,zA]
 | .ifc _ _,_,_=>by simp [lentV3,zA]
 | .pan _,_,_=>by simp [lentV3,zA]
 | .lit _ _,_,_=>by simp [lentV3,zA]
 | .bad,_,_=>by simp [lentV3,zA]
theorem RelL_lent3 {μ μ':Nat->Option Nat} {H H':Nat->Blk} (hN:∀ g,g<w.heap.size->N'.trk g->N.trk g) (hu:∀ g,g<w.heap.size->N'.unf g->N.unf g):∀ {cs:List AV} {vs:List Value},zC w N μ H cs vs->zC w N' μ' H' (lentV3.lentL3 cs) vs
 | [],_,h=>h
 | x::r,_,h=>by
  simp only [lentV3.lentL3,zC] at h ⊢;obtain ⟨v,vr,h0,h1,h2⟩:=h;exact ⟨v,vr,h0,RelV_lent3 hN hu h1,RelL_lent3 hN hu h2⟩
end
end
theorem lentV3_noGd (x:AV):∀ j b y,lentV3 x≠.gd j b y:=by
 intro j b y h
 cases x <;> simp only [lentV3,reduceCtorEq] at h
 ·rename_i t l
  cases hT:fnT t <;> simp [hT] at h
 ·rename_i t x
  cases hT:fnT t <;> simp [hT] at h
def lkV:AV->AV
 | .fz (.pt t) x=>match (show Option t.den from x) with
  | some y=>cond (fnT t) (.fp (.ln t.inn) [cast t.den_inn.symm y] 0 0) .bad
  | none=>.bad
 | x=>lentV3 x
theorem RelV_lk {w:World} {N N':NN} {μ μ':Nat->Option Nat} {H H':Nat->Blk} (hN:∀ g,g<w.heap.size->N'.trk g->N.trk g) (hu:∀ g,g<w.heap.size->N'.unf g->N.unf g) {x:AV} {v:Value} (h:zA w N μ H x v):zA w N' μ' H' (lkV x) v:=by
 have hl:=RelV_lent3 (μ':=μ') (H':=H') hN hu h
 cases x <;> first | exact hl | skip
 rename_i t x
 cases t <;> first | exact hl | skip
 rename_i t
 cases hx:(show Option t.den from x) with
 | none=>simp only [lkV,zA]
 | some y =>
 simp only [lkV]
 cases hT:fnT t with
 | false=>simp [zA]
 | true =>
  have hx':x=some y:=hx;subst hx';simp only [zI,zA,RelD] at h ⊢;obtain ⟨⟨p,hp,h | ⟨g,o,y',es,_,h2,h3,h4,h5,h6,h7,h8,h9⟩⟩,_⟩:=h
  ·cases h.1
  have h2':y=y':=h2;subst h2';have hv:v=.pointer p:=by simpa using hp
  subst hv;subst h3;refine ⟨by simp,g,o,λhn=>h4 (yy (hN g h5 hn)),h5,by simp,es,by simp only [Ty.size];rw [y3];exact h7,by simpa using h8,by simp,?_,?_⟩
  ·exact x8 hN hu hT h9.inn
  ·simp only [Ty.size,Nat.zero_mul,Nat.add_zero];rw [y3];exact λhf=>h6 (hu g h5 hf)
theorem lkV_noGd (x:AV):∀ j b y,lkV x≠.gd j b y:=by
 intro j b y h
 cases x <;> first | exact lentV3_noGd _ _ _ _ h | skip
 rename_i t x
 cases t <;> first | exact lentV3_noGd _ _ _ _ h | skip
 rename_i t;simp only [lkV] at h;split at h
 ·cases hT:fnT t <;> simp [hT] at h
 ·cases h
def KA3 (D D2 keep ks:List Nat):Ex->St->Option (List AV×List AV×List Value):=λex S=>match ex with
 | .normal=>(litsOf S.E keep).map λus=>(D.map λt=>rgV (y9 S.H ks (S.E t)),D2.map λt=>lkV (y9 S.H ks (S.E t)),us)
 | _=>none
def regE3 (D D2 keep:List Nat) (x:Nat->AV) (f:Nat->Value) (E:Nat->AV):Nat->AV:=λt =>
 cond (zS D t) (.lit (x t) (f t)) (cond (zS D2 t) (x t) (cond (zS keep t) (E t) .bad))
def KB3 (pin:Nat) (D:List Nat) (shN:Shape) (o:yD):Ex->St->Option ((shN.den×List Value)⊕ym o):=λex S=>match ex with
 | .normal=>(litsOf S.E D).bind λus=>pack pin shN S λq=>some (.inl (q,us))
 | ex=>xF pin S ex o λq=>some (.inr q)
theorem KB3_ne {pin:Nat} {D:List Nat} {shN:Shape} {o:yD} {ex:Ex} {S:St} (h:ex≠.normal):KB3 pin D shN o ex S=xF pin S ex o λq=>some (.inr q):=by
 cases ex <;> first | exact absurd rfl h | rfl
theorem unOuts_in:∀ (o:yD) (q:ym o) {ex:Ex} {S:St},(∀ (β:Type) (K:Ex->St->Option β),vi o q K=K ex S)->∃ s p,(ex,s)∈o/\S=zZ s p
 | [],q,_,_,h=>by
  have:=h Unit λ_ _=>some ()
  simp [vi] at this
 | [(e,s)],p,ex,S,h=>by
  have h1:=h (Ex×St) λe S=>some (e,S)
  simp only [vi,y5,Prod.mk.injEq] at h1;obtain ⟨rfl,rfl⟩:=h1;exact ⟨s,p,by simp,rfl⟩
 | (e,s)::y::r,.inl p,ex,S,h=>by
  have h1:=h (Ex×St) λe S=>some (e,S)
  simp only [vi,y5,Prod.mk.injEq] at h1;obtain ⟨rfl,rfl⟩:=h1;exact ⟨s,p,by simp,rfl⟩
 | (e,s)::y::r,.inr q,ex,S,h=>by
  obtain ⟨s',p,h1,h2⟩:=unOuts_in (y::r) q h;exact ⟨s',p,List.mem_cons_of_mem _ h1,h2⟩
def bigF3 {T:Tb} (F:Frm T) (μ:Nat->Option Nat) (H:Nat->Blk) (w:World):Frm T :=
 { out:=λg=>(F.hot g\/wy μ H g)\/g<w.heap.size,hot:=λg=>F.hot g\/wy μ H g,le:=λ_ h=>.inl h,reg:=λ_=>False,unf:=λg=>F.unf g\/w.heap.size<=g }
def WrInto (P:Program) (n:Nat) (D keep:List Nat) (x:Nat->AV) (Cz:Code):Option Code->Prop
 | none=>WrFrom P n D keep x Cz
 | some R=>∀ (a:Act) (w:World) (Rg:Nat->Prop),n=a.tmps.size->(zJ P).tab w->(∀ g,(zJ P).out g->¬ Rg g)->(∀ t∈D,zA w (NC (Tb:=zJ P) Rg) (λ_=>none) D0 (x t) (a.tmps.getD t undef)) ->
  ∀ Q,(∀ a' w',(∀ t∈keep,a'.tmps.getD t undef=a.tmps.getD t undef)->a'.tmps.size=a.tmps.size->a'.defers=a.defers->Chg Rg w w'->R.wp P Q a' w')->Cz.wp P Q a w
section
variable {P:Program} {C:zW} {M:FuncId->Bool} {pin n:Nat}
theorem sem_run {c:Code} {sh:Shape} {o:yD} {run run':sh.den->Option (ym o)} (h:SemOK P pin n c sh o run) (e:∀ p,run' p=run p):SemOK P pin n c sh o run':=λp q hq=>h p q ((e p).symm.trans hq)
theorem sem_gen (hm:P.follows .mixedOrders=true) (hC:xw P C M) {As Bs:List Code} {Cz:Code} (Rest:Option Code) {sh shN:Shape} {o:yD} {D D2 keep ks:List Nat} {α:Type} {X:α->Nat->AV}
  {ownf:sh.den->Option α} {fit:α->Bool} {runB:sh.den->α->Option (shN.den⊕ym o)} {runR:shN.den->Option (ym o)}
  (c1:vK sh=true) (c2:vK shN=true) (c3:(o.all λx=>vK x.2)=true) (hk:(shN.slots.all λp=>zS keep p.1)=true)
  (heA:∀ (p:sh.den) (f:Nat->Value),ev P C M pin n (xd As .skip) .leaf ⟨λt=>.lit (lentV3 ((zZ sh p).E t)) (f t),λ_=>.dead,sh.nx,[]⟩ (KA3 D D2 keep ks)=(ownf p).map λl=>(D.map (X l),D2.map (X l),keep.map f))
  (heB:∀ (p:sh.den) (l:α) (f:Nat->Value),ev P C M pin n (xd Bs .skip) .leaf ⟨regE3 D D2 keep (X l) f (zZ sh p).E,(zZ sh p).H,sh.nx,[]⟩ (KB3 pin D shN o) =
   (runB p l).map λr=>match r with
    | .inl q=>.inl (q,D.map f)
    | .inr q=>.inr q)
  (hW:∀ l,fit l=true->WrInto P n D keep (X l) Cz Rest)
  (heR:∀ R,Rest=some R->∀ q:shN.den,ev P C M pin n R .leaf (zZ shN q) (λex S=>xF pin S ex o some)=runR q)
  (heN:Rest=none->∀ q:shN.den,∃ y,runR q=some y/\∀ (β:Type) (K:Ex->St->Option β),vi o y K=K .normal (zZ shN q)) :
  SemOK P pin n (xd As (xd Bs Cz)) sh o λp=>(ownf p).bind λl=>cond (fit l) ((runB p l).bind λr=>match r with
   | .inl q=>runR q
   | .inr q=>some q) none:=by
 intro p q hq F μ w a hn hpin hr;let S:=zZ sh p
 cases how:ownf p with
 | none=>simp [how] at hq
 | some l =>
 simp only [how,zE] at hq;obtain ⟨hfit,hq⟩:=zB hq;have hA:=heA p λt=>a.tmps.getD t undef
 rw [how,Option.map_some] at hA
 have hrb:Rg (bigF3 F μ S.H w) (λ_=>none) [] ⟨λt=>.lit (lentV3 (S.E t)) (a.tmps.getD t undef),λ_=>.dead,sh.nx,[]⟩ a w:=by
  refine ⟨⟨λb=>by simp [za],λb g h=>absurd rfl h,λb b' g h=>absurd rfl h,λ_ _=>rfl,λb g h=>absurd rfl h,λg hg=>?_,hr.hp.tab,λb g h=>absurd rfl h,λb g h=>(by cases h),λb g h=>absurd rfl h⟩,λt=>?_,λt j b x h=>by cases h⟩
  ·rcases hg with (hg | ⟨b,h1,h2⟩) | hg
   ·exact hr.hp.flt g (F.le g hg)
   ·exact hr.hp.lt b g h1 h2
   ·exact hg
  ·simp only [zA];refine ⟨trivial,?_⟩
   have hs:zA w (Not F μ S.H) μ S.H (S.E t) (a.tmps.getD t undef):=by
    have:=hr.e t
    cases hE:S.E t <;> simp only [S,hE] at this ⊢ <;> first | exact this | simp [zA]
   refine RelV_lent3 (N:=Not F μ S.H) (λg _ hg=>?_) (λg hg hu=>?_) hs
   ·rcases hg with hg | ⟨b,h,_⟩
    ·exact hg
    ·exact absurd rfl h
   ·rcases hu with hu | hu
    ·exact hu
    ·omega
 refine seqL_ok hm hC As _ _ hA (λ_=>none) w a hn hpin hrb (λS1 μ1 a1 w1 h2 h3=>?_) λex e S1 μ1 a1 av w1 hex _ h2 _=>?_
 rotate_left
 ·cases ex <;> first | exact absurd rfl hex | simp [KA3] at h2
 simp only [KA3] at h2;obtain ⟨us,h4,h5⟩:=Option.map_eq_some_iff.1 h2;simp only [Prod.mk.injEq] at h5;obtain ⟨hDX,hDX2,rfl⟩:=h5;have hlit:=sF h4;have hDX2:∀ t∈D2,lkV (y9 S1.H ks (S1.E t))=X l t:=List.map_inj_left.1 hDX2;have hDX:∀ t∈D,rgV (y9 S1.H ks (S1.E t))=X l t:=List.map_inj_left.1 hDX;have hchg0:Chg (λ_=>False) w w1:=⟨⟨h3.chg.size,λg hg _=>h3.chg.keep g hg λ⟨b,h,_⟩=>h rfl⟩,h3.chg.os,h3.chg.tape,h3.chg.output⟩
 have hkeep:∀ t∈keep,a1.tmps.getD t undef=a.tmps.getD t undef:=λt ht=>by
  obtain ⟨x,hx⟩:=hlit t ht
  have:=h3.rg.e t
  rw [hx] at this;simp only [zA] at this;exact this.1
 have hsl:∀ t,zA w1 (Not (bigF3 F μ S.H w) μ1 (S1.seal ks).H) μ1 (S1.seal ks).H (y9 S1.H ks (S1.E t)) (a1.tmps.getD t undef):=λt=>by
  refine sealV_ok h3.rg.hp _ _ ?_
  have:=h3.rg.e t
  cases hE:S1.E t <;> simp only [hE] at this ⊢ <;> first | exact this | simp [zA]
 have hmade:∀ (NR:NN) (μ':Nat->Option Nat) (H':Nat->Blk),(∀ g,w.heap.size<=g->¬ NR.trk g)->(∀ g,w.heap.size<=g->g<w1.heap.size->NR.reg g)->∀ t∈D,zA w1 NR μ' H' (X l t) (a1.tmps.getD t undef):=λNR μ' H' q1 q2 t ht=>by
  rw [<- hDX t ht];exact rgV_ok (N:=Not (bigF3 F μ S.H w) μ1 (S1.seal ks).H) (n0:=w.heap.size) (λg hg=>Nat.le_of_not_lt λh=>hg (.inl (.inr h))) (λg hg=>.inr hg) q1 q2 (hsl t)
 have htrkN:∀ g,g<w1.heap.size->(Not (ud F w w1) μ S.H).trk g->(Not (bigF3 F μ S.H w) μ1 (S1.seal ks).H).trk g:=λg _ h=>.inl h
 have hunfN:∀ g,g<w1.heap.size->(Not (ud F w w1) μ S.H).unf g->(Not (bigF3 F μ S.H w) μ1 (S1.seal ks).H).unf g:=λg _ h=>h.imp id λh=>h.1
 have hmade2:∀ t∈D2,zA w1 (Not (ud F w w1) μ S.H) μ S.H (X l t) (a1.tmps.getD t undef):=λt ht=>by
  rw [<- hDX2 t ht];exact RelV_lk htrkN hunfN (hsl t)
 have hcalm1:Calm (λ_=>False) w w1 (Not F μ S.H) (Not (ud F w w1) μ S.H):=by
  refine ⟨hchg0.toKeep,λg _ h=>h.elim,λg hg hn=>?_,λg hg hn=>?_⟩
  ·rcases hn with (hn | hn) | hn
   ·exact .inl hn
   ·exact absurd hn.1 (by omega)
   ·exact .inr hn
  ·rcases hn with hn | hn
   ·exact hn
   ·exact absurd hn.1 (by omega)
 have hsp:Spare (λ_=>False) w μ S.H:=λb g hl hg=>⟨hr.hp.lt b g hl hg,λh=>h⟩
 have htrkR:∀ g,w.heap.size<=g->¬ (Not (ud F w w1) μ S.H).trk g:=λg hg h=>by
  rcases h with h | ⟨b,h1,h2⟩
  ·have:=hr.hp.flt g (F.le g h);omega
  ·have:=hr.hp.lt b g h1 h2;omega
 let f:Nat->Value:=λt=>a1.tmps.getD t undef
 have hng:∀ t j b x,regE3 D D2 keep (X l) f S.E t≠.gd j b x:=λt j b x h=>by
  unfold regE3 at h
  cases hd:zS D t <;> simp only [hd,zI,zK] at h
  ·cases hd2:zS D2 t <;> simp only [hd2,zI,zK] at h
   ·cases hkp:zS keep t <;> simp only [hkp,zI,zK] at h
    ·cases h
    ·cases hr.tags t _ _ _ h
   ·rw [<- hDX2 t (zc.1 hd2)] at h;exact lkV_noGd _ _ _ _ h
  ·cases h
 have hr2:Rg (ud F w w1) μ [] ⟨regE3 D D2 keep (X l) f S.E,S.H,sh.nx,[]⟩ a1 w1:=by
  refine ⟨Hp_calm hr.hp (λb=>calm_H c1 p b) hcalm1 hsp (λb g hl hg h=>?_) (λg hg=>?_) λg _ h=>h,λt=>?_,λt j b x h=>?_⟩
  ·rcases h with h | h
   ·exact hr.hp.apart b g hl hg h
   ·have:=hr.hp.lt b g hl hg
    omega
  ·rcases hg with hg | hg
   ·exact Nat.lt_of_lt_of_le (hr.hp.flt g hg) hchg0.size
   ·exact hg.2
  ·show (match regE3 D D2 keep (X l) f S.E t with
    | .gd j b x=>_
    | x=>zA w1 _ _ _ x (a1.tmps.getD t undef))
   have hgoal:zA w1 (Not (ud F w w1) μ S.H) μ S.H (regE3 D D2 keep (X l) f S.E t) (a1.tmps.getD t undef):=by
    unfold regE3
    cases hd:zS D t with
    | true =>
     simp only [zI,zA];exact ⟨rfl,hmade _ _ _ htrkR (λg h1 h2=>⟨h1,h2⟩) t (zc.1 hd)⟩
    | false =>
     simp only [zK]
     cases hd2:zS D2 t with
     | true =>
      simp only [zI];exact hmade2 t (zc.1 hd2)
     | false =>
     simp only [zK]
     cases hkp:zS keep t with
     | false=>simp [zA]
     | true =>
      simp only [zI];rw [hkeep t (zc.1 hkp)]
      have hs:zA w (Not F μ S.H) μ S.H (S.E t) (a.tmps.getD t undef):=by
       have:=hr.e t
       cases hE:S.E t <;> simp only [S,hE] at this ⊢ <;> first | exact this | simp [zA]
      exact wY hcalm1 hsp _ _ (calm_E c1 p t) hs
   revert hgoal
   cases hx:regE3 D D2 keep (X l) f S.E t <;> intro hgoal <;> first
    | exact hgoal
    | exact absurd hx (hng _ _ _ _)
  ·exact absurd h (hng _ _ _ _)
 have hB:=heB p l f
 have out:∀ {b1:Bool} {S3:St} {μ3:Nat->Option Nat} {av3:Act} {w3:World} {sh3:Shape} (q3:sh3.den) (μ4:Nat->Option Nat) (a4:Act) (w4:World),vK sh3=true->CP b1 (ud F w w1) pin μ ⟨regE3 D D2 keep (X l) f S.E,S.H,sh.nx,[]⟩ w1 a1 μ3 S3 w3 av3 ->
   Shaped (ud F w w1) pin μ3 S3 w3 μ4 (zZ sh3 q3)->Rg (ud F w w1) μ4 [] (zZ sh3 q3) av3 w3->(∀ t,(zZ sh3 q3).E t≠.bad->a4.tmps.getD t undef=av3.tmps.getD t undef)->a4.tmps.size=av3.tmps.size->a4.defers=av3.defers->Chg (λg=>w.heap.size<=g/\g<w1.heap.size) w3 w4 ->
   CP false F pin μ S w a μ4 (zZ sh3 q3) w4 a4:=by
  intro b1 S3 μ3 av3 w3 sh3 q3 μ4 a4 w4 hcs hcp hsh hrg htm hsz hdf hch
  have hcalm:Calm (λg=>w.heap.size<=g/\g<w1.heap.size) w3 w4 (Not (ud F w w1) μ4 (zZ sh3 q3).H) (Not F μ4 (zZ sh3 q3).H) :=
   ⟨hch.toKeep,λg _ h=>.inl (.inr h),λg _ h=>h.elim (λh=>.inl (.inl h)) .inr,λg _ h=>.inl h⟩
  have hsp:Spare (λg=>w.heap.size<=g/\g<w1.heap.size) w3 μ4 (zZ sh3 q3).H:=λb g hl hg=>⟨hrg.hp.lt b g hl hg,λh=>hrg.hp.apart b g hl hg (.inr h)⟩
  refine ⟨?_,λg hg=>?_,λj hj=>(hsh.pinned j hj).trans (hcp.pinned j hj),hsh.le,⟨Hp_calm hrg.hp (λb=>calm_H hcs q3 b) hcalm hsp (λb g hl hg h=>hrg.hp.apart b g hl hg (.inl h)) (λg h=>Nat.lt_of_lt_of_le (hrg.hp.flt g (.inl h)) hch.size) (λg hg h=>?_),λt=>?_,hrg.tags⟩,hsz.trans (hcp.size.trans h3.size),hdf.trans (hcp.defers.trans h3.defers),λh=>by cases h⟩
  ·have e0:Chg (wy μ S.H) w w1:=⟨⟨hchg0.size,λg hg _=>hchg0.keep g hg λx=>x⟩,hchg0.os,hchg0.tape,hchg0.output⟩;have e1:Chg (wy μ S.H) w w3:=e0.trans hcp.chg λg _ h=>h
   exact e1.trans hch λg hg h=>absurd h.1 (by omega)
  ·rcases hcp.new g (hsh.trk g hg) with h | h
   ·exact .inl h
   ·exact .inr (Nat.le_trans hchg0.size h)
  ·have:=(zJ P).lt w g hr.hp.tab hg
   omega
  ·have hng:∀ j b y,(zZ sh3 q3).E t≠.gd j b y:=λj b y h=>by cases hrg.tags t j b y h
   have hs:=hrg.e.slot (hng)
   have hgoal:zA w4 (Not F μ4 (zZ sh3 q3).H) μ4 (zZ sh3 q3).H ((zZ sh3 q3).E t) (a4.tmps.getD t undef):=by
    by_cases hb:(zZ sh3 q3).E t=.bad
    ·rw [hb];simp [zA]
    ·rw [htm t hb];exact wY hcalm hsp _ _ (calm_E hcs q3 t) hs
   revert hgoal
   cases hx:(zZ sh3 q3).E t <;> intro hgoal <;> first | exact hgoal | exact absurd hx (hng _ _ _)
 cases hrb':runB p l with
 | none=>simp [hrb'] at hq
 | some rb =>
 rw [hrb',Option.map_some] at hB;simp only [hrb',zE] at hq;refine seqL_ok hm hC Bs _ _ hB μ w1 a1 (hn.trans h3.size.symm) hpin hr2 (λS3 μ3 a3 w3 hK hcp=>?_) λex e S3 μ3 a3 av3 w3 hex hX hK hcp=>?_
 ·simp only [KB3] at hK;obtain ⟨us,hls,hK⟩:=Option.bind_eq_some_iff.1 hK;obtain ⟨q3,μ4,g1,g2,g3⟩:=vy hcp.rg hK;simp only [y5] at g1
  cases rb with
  | inr _=>cases g1
  | inl q3' =>
  simp only [Sum.inl.injEq,Prod.mk.injEq] at g1;obtain ⟨rfl,rfl⟩:=g1;have hlit3:=sF hls
  have hf3:∀ t∈D,a3.tmps.getD t undef=a1.tmps.getD t undef:=λt ht=>by
   obtain ⟨x,hx⟩:=hlit3 t ht
   have:=hcp.rg.e t
   rw [hx] at this;simp only [zA] at this;exact this.1
  have hD':∀ t∈D,zA w3 (NC (Tb:=zJ P) (λg=>w.heap.size<=g/\g<w1.heap.size)) (λ_=>none) D0 (X l t) (a3.tmps.getD t undef):=λt ht=>by
   rw [hf3 t ht];have h0:=hmade (Not (ud F w w1) μ S.H) μ S.H htrkR (λg h1 h2=>⟨h1,h2⟩) t ht;rw [<- hDX t ht] at h0 ⊢;refine rgV_keep hcp.chg.toKeep.hot ?_ h0;exact ⟨λg _ h=>h.elim (λh=>h.elim) λ⟨b,h,_⟩=>absurd rfl h,λg _ h=>h.elim (λh=>h.elim) λ⟨b,h,_⟩=>absurd rfl h,λg _ h=>h,λg _ h=>.inr h⟩
  have hc4:∀ a4 w4,(∀ t∈keep,a4.tmps.getD t undef=a3.tmps.getD t undef)->a4.tmps.size=a3.tmps.size->a4.defers=a3.defers->Chg (λg=>w.heap.size<=g/\g<w1.heap.size) w3 w4->CP false F pin μ S w a μ4 (zZ shN q3) w4 a4:=λa4 w4 e2 e3 e4 e5=>out q3 μ4 a4 w4 c2 hcp g2 g3 (λt ht=>by
   have:∃ x∈shN.slots,x.1=t:=Classical.byContradiction λhh=>ht (unSlots_bad shN.slots q3.1 t λx hx he=>hh ⟨x,hx,he⟩)
   obtain ⟨x,hx,rfl⟩:=this
   exact e2 _ (zc.1 (List.all_eq_true.1 hk x hx))) e3 e4 e5
  have hq:runR q3=some q:=hq
  cases Rest with
  | none =>
   refine wp_mono (hW l hfit a3 w3 (λg=>w.heap.size<=g/\g<w1.heap.size) (hn.trans (h3.size.symm.trans hcp.size.symm)) hcp.rg.hp.tab (λg hg h=>by have:=(zJ P).lt w g hr.hp.tab hg;omega) hD') λe a4 w4 ⟨e1,e2,e3,e4,e5⟩=>?_
   subst e1;obtain ⟨y,y1,y2⟩:=heN rfl q3;rw [hq] at y1
   cases y1;exact ⟨.normal,zZ shN q3,μ4,a4,⟨rfl,rfl⟩,y2,hc4 a4 w4 e2 e3 e4 e5⟩
  | some R =>
  refine hW l hfit a3 w3 (λg=>w.heap.size<=g/\g<w1.heap.size) (hn.trans (h3.size.symm.trans hcp.size.symm)) hcp.rg.hp.tab (λg hg h=>by have:=(zJ P).lt w g hr.hp.tab hg;omega) hD' _ λa4 w4 e2 e3 e4 e5=>?_
  have hc4:=hc4 a4 w4 e2 e3 e4 e5;have hR:=(heR R rfl q3).trans hq;refine wp_mono (ev_ok hm hC R .leaf (λz hz=>by rw [yT] at hz;cases hz) _ _ _ _ hR F μ4 w4 a4 (hn.trans hc4.size.symm) hc4.le hc4.rg) λe a5 w5 ⟨ex,S5,μ5,av,k1,k2,k3⟩=>?_
  obtain ⟨q5,S6,μ6,m1,m2,m3,_⟩:=vW k3.rg o k2;simp only [y5] at m1;subst m1;exact ⟨ex,S6,μ6,av,k1,m2,(hc4.trans (k3.weak λh=>by cases h)).trans (CP.shaped m3 (by assumption))⟩
 ·rw [KB3_ne hex] at hK;obtain ⟨q3,S6,μ4,g1,g0,g2,g3⟩:=vW hcp.rg o hK;simp only [y5] at g1
  cases rb with
  | inl _=>cases g1
  | inr q3' =>
  simp only [Sum.inr.injEq] at g1;subst g1;have hq:some q3=some q:=hq;simp only [y5] at hq;subst hq;obtain ⟨s6,p6,hin,rfl⟩:=unOuts_in o q3 g0;have hc6:vK s6=true:=List.all_eq_true.1 c3 _ hin;exact ⟨ex,zZ s6 p6,μ4,av3,hX,g0,out p6 μ4 av3 w3 hc6 hcp g2 g3 (λ_ _=>rfl) rfl rfl (Chg.refl w3)⟩
end
end Go.Ev
namespace Go.Ev
open Go
section
variable {P:Program} {n:Nat} {L L1 L2 L3:List (Nat×Ent)}
def E1 (p:Nat) (x:AV) (E:Nat->AV):Nat->AV:=λt=>cond (Nat.beq t p) x (E t)
theorem wr_storeC {x:zP L} {id m:Nat} {ops:Array Oper} {o:Oper} {t:TypeId} {p:Nat} {y:Ty} {l:List y.den} {ix f:Nat} {k:IntKind} {cold:AV} {c:Int}
  (he:yP P C0 n ops (vl 0 (ops.toList.take m)) [] [] ⟨EV L x,D0,0,[]⟩ (λS=>some ((p::L.map (·.1)).map S.E)) (λ_ _=>none)=some ((p::L.map (·.1)).map (E1 p (.fp (.rg y) l ix f) (EV L x))))
  (hsz:ops.size=m+1) (ho:ops[m]?=some o) (hop:o.op=.store t (.tmp p) (.const (.int k c))) (hgd:o.guard=none) (hdst:o.dst=none) (hi:(P.info? t).isSome=true) (hc1:P.cellsOf t=1)
  (hv8:k≠.u8) (hcold:(x5 y (l.getD ix y.dflt))[f]?=some cold) (hck:numK cold=some k)
  (hL:okE L=true) (hpL:zS (L.map (·.1)) p=false):WrG P n L x L (relE L x) (.region id ops false):=by
 intro R a w hR hn hcx;have hoff:∀ s,zS (L.map (·.1)) s=false->EV L x s=.bad:=λs hs=>uY x λh=>by rw [zc.2 h] at hs;cases hs
 refine wp_mono (piece_storeO (E':=E1 p (.fp (.rg y) l ix f) (EV L x)) (slots:=p::L.map (·.1)) he (List.all_eq_true.2 λs _=>?_) (λs hs=>?_) hsz ho hop hgd hdst hi hc1 (by simp [E1]) (λ_ _ _=>⟨c,rfl,λh=>absurd h hv8⟩) hcold hck hn hcx) λe a1 w1 ⟨e1,e2,e3,w2,e4,e5,e6,e7⟩=>?_
 ·unfold E1
  cases Nat.beq s p
  ·exact vR x s
  ·rfl
 ·simp only [List.mem_cons,not_or] at hs;obtain ⟨h1,h3⟩:=hs;unfold E1;rw [show Nat.beq s p=false from Bool.eq_false_iff.2 λe=>h1 (xi e)];exact uY x h3
 ·have h8:Cx P R (EV L x) a1 w2:=e5.less λs=>by
   by_cases h1:s=p
   ·subst h1;exact .inr (hoff _ hpL)
   ·left;unfold E1;rw [show Nat.beq s p=false from Bool.eq_false_iff.2 λe=>h1 (xi e)];rfl
  obtain ⟨x',k1,k2⟩:=h8.simE e6 e7 hR hL;have c0:Chg R w w2:=⟨⟨e4.size,λg hg _=>e4.keep g hg λx=>x⟩,e4.os,e4.tape,e4.output⟩;exact ⟨e1,e2,e3,c0.trans e7 λ_ _ h=>h,R,x',λg h=>h,λg h=>.inl h,k1,k2⟩
def WrK (P:Program) (n:Nat) (L1:List (Nat×Ent)) (x:zP L1) (L2:List (Nat×Ent)) (Q:zP L2->Prop) (k:Code->Code):Prop :=
 ∀ (R:Nat->Prop) (a:Act) (w:World),(∀ g,(zJ P).out g->¬ R g)->n=a.tmps.size->Cx P R (EV L1 x) a w->∀ (Rst:Code) (Qp:Exit->Act->World->Prop),
  (∀ a' w',a'.tmps.size=a.tmps.size->a'.defers=a.defers->Chg R w w'->(∃ (R':Nat->Prop) (y:zP L2),(∀ g,R g->R' g)/\(∀ g,R' g->R g\/w.heap.size<=g)/\Q y/\Cx P R' (EV L2 y) a' w')->Rst.wp P Qp a' w')->(k Rst).wp P Qp a w
theorem wrk_one {x:zP L1} {Q:zP L2->Prop} {c:Code} (h:WrG P n L1 x L2 Q c):WrK P n L1 x L2 Q λR=>.seq c R:=by
 intro R a w hR hn hcx Rst Qp hk;refine wp_seq (wp_mono (h R a w hR hn hcx) λe a1 w1 ⟨e1,e2,e3,e4,e5⟩=>?_);subst e1;exact hk a1 w1 e2 e3 e4 e5
theorem wrk_seq {x:zP L1} {Q1:zP L2->Prop} {Q2:zP L3->Prop} {c:Code} {k:Code->Code} (h1:WrG P n L1 x L2 Q1 c) (h2:∀ y,Q1 y->WrK P n L2 y L3 Q2 k):WrK P n L1 x L3 Q2 λR=>.seq c (k R):=by
 intro R a w hR hn hcx Rst Qp hk;refine wp_seq (wp_mono (h1 R a w hR hn hcx) λe a1 w1 ⟨e1,e2,e3,e4,R1,y,r1,r2,e5,e6⟩=>?_);subst e1;refine h2 y e5 R1 a1 w1 (λg hg h=>(r2 g h).elim (hR g hg) λh=>by have:=(zJ P).lt w g hcx.tab hg;omega) (hn.trans e2.symm) e6 Rst Qp λa2 w2 f2 f3 f4 ⟨R2,z,s1,s2,f5,f6⟩=>?_
 exact hk a2 w2 (f2.trans e2) (f3.trans e3) (e4.trans f4 λg hg h=>(r2 g h).elim id λh=>by omega) ⟨R2,z,λg h=>s1 g (r1 g h),λg h=>(s2 g h).elim (r2 g) λh=>.inr (Nat.le_trans e4.size h),f5,f6⟩
theorem WrInto.of {D keep:List Nat} {X:Nat->AV} {k:Code->Code} {Rst:Code} {mk:(Nat->Value)->zP L}
  (hx:∀ f,(L.map (·.1)).map (EV L (mk f))=(L.map (·.1)).map λt=>cond (zS D t) (X t) (cond (zS keep t) (.lit .bad (f t)) .bad))
  {L2:List (Nat×Ent)} {Q:(Nat->Value)->zP L2->Prop} (hk2:∀ f y,Q f y->∀ t∈keep,EV L2 y t=.lit .bad (f t))
  (h:∀ f,WrK P n L (mk f) L2 (Q f) k):WrInto P n D keep X (k Rst) (some Rst):=by
 intro a w R hn ht hR hD Qp hK;let f:Nat->Value:=λt=>a.tmps.getD t undef
 have hcx:Cx P R (EV L (mk f)) a w:=by
  refine ⟨ht,λt=>?_,λt j b x hh=>?_⟩
  ·by_cases hin:t∈L.map (·.1)
   ·rw [List.map_inj_left.1 (hx f) t hin]
    cases hd:zS D t with
    | true=>exact hD t (zc.1 hd)
    | false =>
     simp only [zK]
     cases zS keep t with
     | true=>simp only [zI,zA,f];exact ⟨trivial,trivial⟩
     | false=>simp [zA]
   ·rw [uY _ hin];simp [zA]
  ·have:=vR (mk f) t
   rw [hh] at this
   cases this
 refine h f R a w hR hn hcx Rst Qp λa' w' e2 e3 e4 ⟨R',y,_,_,e5,e6⟩=>hK a' w' (λt htk=>?_) e2 e3 e4
 have:=e6.e t
 rw [hk2 f y e5 t htk] at this;simp only [zA] at this;exact this.1
end
end Go.Ev
namespace Go.Sw
open Go Go.Ev
set_option maxRecDepth 100000
abbrev LtT:Ty:=.pair (.int .i64) (.pair .u8 (.pair (.sl .u8) .unit))
abbrev BxT:Ty:=.pair .str (.pair (.int .i64) (.pair (.int .i64) (.pair (.sl LtT) .unit)))
abbrev UsT:Ty:=.pair .str (.pair (.int .i64) (.pair (.sl BxT) .unit))
abbrev LtR:Ty:=.pair (.int .i64) (.pair .u8 (.pair (.sl (.rg .u8)) .unit))
abbrev BxR:Ty:=.pair .str (.pair (.int .i64) (.pair (.int .i64) (.pair (.sl (.rg LtR)) .unit)))
abbrev UsR:Ty:=.pair .str (.pair (.int .i64) (.pair (.sl (.rg BxR)) .unit))
abbrev LtL:Ty:=.pair (.int .i64) (.pair .u8 (.pair (.sl (.ln .u8)) .unit))
abbrev BxL:Ty:=.pair .str (.pair (.int .i64) (.pair (.int .i64) (.pair (.sl (.ln LtL)) .unit)))
abbrev UsL:Ty:=.pair .str (.pair (.int .i64) (.pair (.sl (.ln BxL)) .unit))
abbrev TeA:Type:=BxT.den×UsT.den×Int×BxL.den×Int×Int×UsL.den×Int×Unit
def teX (l:TeA):Nat->AV:=λt=>cond (Nat.beq t 10) (.fp (.rg BxR) [(show BxR.den from l.1)] 0 0) (cond (Nat.beq t 14) (.fp (.rg UsR) [(show UsR.den from l.2.1)] 0 0) (cond (Nat.beq t 11) (.i .i64 l.2.2.1) (cond (Nat.beq t 12) (.fp (.ln BxL) [l.2.2.2.1] 0 0)
 (cond (Nat.beq t 13) (.i .i64 l.2.2.2.2.1) (cond (Nat.beq t 15) (.i .i64 l.2.2.2.2.2.1) (cond (Nat.beq t 16) (.fp (.ln UsL) [l.2.2.2.2.2.2.1] 0 0) (cond (Nat.beq t 17) (.i .i64 l.2.2.2.2.2.2.2.1) .bad)))))))
def teFit (l:TeA):Bool:=xz BxR l.1&&xz UsR l.2.1
noncomputable abbrev w5:List Bool->Code:=zU (zD Go.Proofs.Tryz.f5)
theorem mixedT:Go.Proofs.Tryz.prog.follows .mixedOrders=true:=by kernel_rfl
def tQ:Code->Array Oper
 | .region _ ops _=>ops
 | _=>#[]
abbrev LK:List (Nat×Ent):=[(1,.lit),(2,.lit),(7,.lit),(8,.lit)]
abbrev L0:List (Nat×Ent):=(10,.fp BxR)::(14,.fp UsR)::LK
abbrev LA:List (Nat×Ent):=(18,.i)::L0
abbrev LB:List (Nat×Ent):=(19,.i)::LA
abbrev LC:List (Nat×Ent):=(20,.i)::L0
abbrev LD:List (Nat×Ent):=(21,.i)::LC
def ltD:LtR.den:=(0,0,[],())
def bxD:BxR.den:=([],0,0,[],())
abbrev yQ (z:BxR.den):List LtR.den:=z.2.2.2.1
abbrev byts (z:LtR.den):List UInt8:=z.2.2.1
abbrev bxs (z:UsR.den):List BxR.den:=z.2.2.1
abbrev q0:List Bool:=[true,true,true,true,true,true,true,true]
abbrev l0:List Bool:=q0++[false,true,false,false]
abbrev b1:List Bool:=l0++[true,false,false]
abbrev l2:List Bool:=b1++[true,true,false,false]
abbrev l4:List Bool:=q0++[true,false,true,false,false]
abbrev b5:List Bool:=l4++[true,false,false]
abbrev l6:List Bool:=b5++[true,true,false,false]
noncomputable abbrev ops13:Array Oper:=tQ (w5 (b1++[false]))
noncomputable abbrev ops17:Array Oper:=tQ (w5 (l2++[true,false,false]))
noncomputable abbrev ops21:Array Oper:=tQ (w5 (b5++[false]))
noncomputable abbrev ops25:Array Oper:=tQ (w5 (l6++[true,false,false]))
theorem code5w:w5 q0=.seq (.seq (w5 (q0++[false,false])) (.block 0 (.loop (xd [w5 (l0++[false])] (.seq (.block 1 (.seq (.region 13 ops13 false) (.seq (w5 (b1++[true,false])) (.block 2 (.loop (xd [w5 (l2++[false])] (.seq (.block 3 (.region 17 ops17 false)) (w5 (l2++[true,true]))))))))) (w5 (l0++[true,true]))))))) (.seq (.seq (w5 (q0++[true,false,false])) (.block 4 (.loop (xd [w5 (l4++[false])] (.seq (.block 5 (.seq (.region 21 ops21 false) (.seq (w5 (b5++[true,false])) (.block 6 (.loop (xd [w5 (l6++[false])] (.seq (.block 7 (.region 25 ops25 false)) (w5 (l6++[true,true]))))))))) (w5 (l4++[true,true]))))))) (w5 (q0++[true,true]))):=by kernel_rfl
theorem e10 (x:zP L0):ev Go.Proofs.Tryz.prog C0 M0 0 152 (w5 (q0++[false,false])) .leaf ⟨EV L0 x,D0,0,[]⟩ (λex S=>some (ex,(LA.map (·.1)).map S.E))=some (.normal,(LA.map (·.1)).map (EV LA ((0:Int),x))):=by kernel_rfl
theorem e11 (j:Int) (y:zP L0):ev Go.Proofs.Tryz.prog C0 M0 0 152 (xd [w5 (l0++[false])] .skip) .leaf ⟨EV LA (j,y),D0,0,[]⟩ (λex S=>some (ex,(18::L0.map (·.1)).map S.E))=cond (decide (j<((yQ y.1).length:Int))) (some (.normal,(18::L0.map (·.1)).map (EV LA (j,y)))) (some (.exit 0,(18::L0.map (·.1)).map (EV LA (j,y)))):=by kernel_rfl
theorem e12 (j:Int) (y:zP L0):ev Go.Proofs.Tryz.prog C0 M0 0 152 (w5 (l0++[true,true])) .leaf ⟨EV LA (j,y),D0,0,[]⟩ (λex S=>some (ex,(18::L0.map (·.1)).map S.E))=some (.normal,(18::L0.map (·.1)).map (EV LA (zh (j+1),y))):=by kernel_rfl
theorem e13 (x:zP LA):yP Go.Proofs.Tryz.prog C0 152 ops13 (vl 0 (ops13.toList.take 5)) [] [] ⟨EV LA x,D0,0,[]⟩ (λS=>some ((87::LA.map (·.1)).map S.E)) (λ_ _=>none) =
  cond (decide (0<=x.1)&&decide (x.1<((yQ x.2.1).length:Int))) (some ((87::LA.map (·.1)).map (E1 87 (.fp (.rg LtR) (yQ x.2.1) x.1.toNat 0) (EV LA x)))) none:=by kernel_rfl
theorem e14 (x:zP LA):ev Go.Proofs.Tryz.prog C0 M0 0 152 (w5 (b1++[true,false])) .leaf ⟨EV LA x,D0,0,[]⟩ (λex S=>some (ex,(LB.map (·.1)).map S.E))=some (.normal,(LB.map (·.1)).map (EV LB ((0:Int),x))):=by kernel_rfl
theorem e15 (j:Int) (y:zP LA):ev Go.Proofs.Tryz.prog C0 M0 0 152 (xd [w5 (l2++[false])] .skip) .leaf ⟨EV LB (j,y),D0,0,[]⟩ (λex S=>some (ex,(19::LA.map (·.1)).map S.E))=cond (decide (0<=y.1)&&decide (y.1<((yQ y.2.1).length:Int))) (cond (decide (j<((byts ((yQ y.2.1).getD y.1.toNat ltD)).length:Int))) (some (.normal,(19::LA.map (·.1)).map (EV LB (j,y)))) (some (.exit 2,(19::LA.map (·.1)).map (EV LB (j,y))))) none:=by kernel_rfl
theorem e16 (j:Int) (y:zP LA):ev Go.Proofs.Tryz.prog C0 M0 0 152 (w5 (l2++[true,true])) .leaf ⟨EV LB (j,y),D0,0,[]⟩ (λex S=>some (ex,(19::LA.map (·.1)).map S.E))=some (.normal,(19::LA.map (·.1)).map (EV LB (zh (j+1),y))):=by kernel_rfl
theorem e17 (x:zP LB):yP Go.Proofs.Tryz.prog C0 152 ops17 (vl 0 (ops17.toList.take 11)) [] [] ⟨EV LB x,D0,0,[]⟩ (λS=>some ((109::108::LB.map (·.1)).map S.E)) (λ_ _=>none) =
  cond (decide (0<=x.2.1)&&decide (x.2.1<((yQ x.2.2.1).length:Int))) (cond (decide (0<=x.1)&&decide (x.1<((byts ((yQ x.2.2.1).getD x.2.1.toNat ltD)).length:Int))) (cond (decide (0<=x.1)&&decide (x.1<((byts ((yQ x.2.2.1).getD x.2.1.toNat ltD)).length:Int))) (some ((109::108::LB.map (·.1)).map (E2 109 108 (.fp (.rg .u8) (byts ((yQ x.2.2.1).getD x.2.1.toNat ltD)) x.1.toNat 0) (.u ((byts ((yQ x.2.2.1).getD x.2.1.toNat ltD)).getD x.1.toNat 0 ^^^ 1)) (EV LB x)))) none) none) none:=by kernel_rfl
theorem e18 (x:zP L0):ev Go.Proofs.Tryz.prog C0 M0 0 152 (w5 (q0++[true,false,false])) .leaf ⟨EV L0 x,D0,0,[]⟩ (λex S=>some (ex,(LC.map (·.1)).map S.E))=some (.normal,(LC.map (·.1)).map (EV LC ((0:Int),x))):=by kernel_rfl
theorem e19 (j:Int) (y:zP L0):ev Go.Proofs.Tryz.prog C0 M0 0 152 (xd [w5 (l4++[false])] .skip) .leaf ⟨EV LC (j,y),D0,0,[]⟩ (λex S=>some (ex,(20::L0.map (·.1)).map S.E))=cond (decide (j<((bxs y.2.1).length:Int))) (some (.normal,(20::L0.map (·.1)).map (EV LC (j,y)))) (some (.exit 4,(20::L0.map (·.1)).map (EV LC (j,y)))):=by kernel_rfl
theorem e20 (j:Int) (y:zP L0):ev Go.Proofs.Tryz.prog C0 M0 0 152 (w5 (l4++[true,true])) .leaf ⟨EV LC (j,y),D0,0,[]⟩ (λex S=>some (ex,(20::L0.map (·.1)).map S.E))=some (.normal,(20::L0.map (·.1)).map (EV LC (zh (j+1),y))):=by kernel_rfl
theorem e21 (x:zP LC):yP Go.Proofs.Tryz.prog C0 152 ops21 (vl 0 (ops21.toList.take 5)) [] [] ⟨EV LC x,D0,0,[]⟩ (λS=>some ((121::LC.map (·.1)).map S.E)) (λ_ _=>none) =
  cond (decide (0<=x.1)&&decide (x.1<((bxs x.2.2.1).length:Int))) (some ((121::LC.map (·.1)).map (E1 121 (.fp (.rg BxR) (bxs x.2.2.1) x.1.toNat 2) (EV LC x)))) none:=by kernel_rfl
theorem e22 (x:zP LC):ev Go.Proofs.Tryz.prog C0 M0 0 152 (w5 (b5++[true,false])) .leaf ⟨EV LC x,D0,0,[]⟩ (λex S=>some (ex,(LD.map (·.1)).map S.E))=some (.normal,(LD.map (·.1)).map (EV LD ((0:Int),x))):=by kernel_rfl
theorem e23 (j:Int) (y:zP LC):ev Go.Proofs.Tryz.prog C0 M0 0 152 (xd [w5 (l6++[false])] .skip) .leaf ⟨EV LD (j,y),D0,0,[]⟩ (λex S=>some (ex,(21::LC.map (·.1)).map S.E))=cond (decide (0<=y.1)&&decide (y.1<((bxs y.2.2.1).length:Int))) (cond (decide (j<((yQ ((bxs y.2.2.1).getD y.1.toNat bxD)).length:Int))) (some (.normal,(21::LC.map (·.1)).map (EV LD (j,y)))) (some (.exit 6,(21::LC.map (·.1)).map (EV LD (j,y))))) none:=by kernel_rfl
theorem e24 (j:Int) (y:zP LC):ev Go.Proofs.Tryz.prog C0 M0 0 152 (w5 (l6++[true,true])) .leaf ⟨EV LD (j,y),D0,0,[]⟩ (λex S=>some (ex,(21::LC.map (·.1)).map S.E))=some (.normal,(21::LC.map (·.1)).map (EV LD (zh (j+1),y))):=by kernel_rfl
theorem e25 (x:zP LD):yP Go.Proofs.Tryz.prog C0 152 ops25 (vl 0 (ops25.toList.take 13)) [] [] ⟨EV LD x,D0,0,[]⟩ (λS=>some ((145::143::LD.map (·.1)).map S.E)) (λ_ _=>none) =
  cond (decide (0<=x.2.1)&&decide (x.2.1<((bxs x.2.2.2.1).length:Int))) (cond (decide (0<=x.1)&&decide (x.1<((yQ ((bxs x.2.2.2.1).getD x.2.1.toNat bxD)).length:Int))) (cond (decide (0<=x.1)&&decide (x.1<((yQ ((bxs x.2.2.2.1).getD x.2.1.toNat bxD)).length:Int))) (some ((145::143::LD.map (·.1)).map (E2 145 143 (.fp (.rg LtR) (yQ ((bxs x.2.2.2.1).getD x.2.1.toNat bxD)) x.1.toNat 1) (.u (((yQ ((bxs x.2.2.2.1).getD x.2.1.toNat bxD)).getD x.1.toNat ltD).2.1 ^^^ 1)) (EV LD x)))) none) none) none:=by kernel_rfl
def okB (z:BxR.den):Prop:=(yQ z).length<=4611686018427387904/\∀ k,(byts ((yQ z).getD k ltD)).length<=4611686018427387904
def okU (z:UsR.den):Prop:=(bxs z).length<=4611686018427387904/\∀ k,(yQ ((bxs z).getD k bxD)).length<=4611686018427387904
theorem okB_of {z:BxR.den} (h:xz BxR z=true):okB z:=by
 simp only [xz,yR,xX] at h;obtain ⟨_,_,_,⟨h1,h2⟩,_⟩:=h;refine ⟨h1,λk=>?_⟩;by_cases hk:k<(yQ z).length
 ·have hm:=List.all_eq_true.1 h2 _ (List.getElem_mem hk);simp only [yR,xX] at hm;simp only [List.getD,List.getElem?_eq_getElem hk,Option.getD_some];exact hm.2.2.1.1
 ·simp [List.getD,List.getElem?_eq_none_iff.2 (Nat.le_of_not_lt hk),ltD,byts]
theorem okU_of {z:UsR.den} (h:xz UsR z=true):okU z:=by
 simp only [xz,yR,xX] at h;obtain ⟨_,_,⟨h1,h2⟩,_⟩:=h;refine ⟨h1,λk=>?_⟩;by_cases hk:k<(bxs z).length
 ·have hm:=List.all_eq_true.1 h2 _ (List.getElem_mem hk);simp only [yR,xX] at hm;simp only [List.getD,List.getElem?_eq_getElem hk,Option.getD_some];exact hm.2.2.2.1.1
 ·simp [List.getD,List.getElem?_eq_none_iff.2 (Nat.le_of_not_lt hk),bxD,yQ]
theorem al_len {z z':BxR.den} (h:Ev.Alike BxR z z'):(yQ z).length=(yQ z').length:=h.2.2.2.1.1
theorem al_byt {z z':BxR.den} (h:Ev.Alike BxR z z') (k:Nat):(byts ((yQ z).getD k ltD)).length=(byts ((yQ z').getD k ltD)).length:=by
 have hl:=al_len h;by_cases hk:k<(yQ z).length
 ·have hk':k<(yQ z').length:=by omega
  have:=(h.2.2.2.1.2 k hk hk').2.2.1.1
  simp only [List.getD,List.getElem?_eq_getElem hk,List.getElem?_eq_getElem hk',Option.getD_some];exact this
 ·simp only [List.getD,List.getElem?_eq_none_iff.2 (Nat.le_of_not_lt hk),List.getElem?_eq_none_iff.2 (show (yQ z').length<=k by omega),Option.getD_none]
theorem al_okB {z z':BxR.den} (h:Ev.Alike BxR z z') (ho:okB z):okB z':=⟨by rw [<- al_len h];exact ho.1,λk=>by rw [<- al_byt h];exact ho.2 k⟩
theorem al_bxs {z z':UsR.den} (h:Ev.Alike UsR z z'):(bxs z).length=(bxs z').length:=h.2.2.1.1
theorem al_let {z z':UsR.den} (h:Ev.Alike UsR z z') (k:Nat):(yQ ((bxs z).getD k bxD)).length=(yQ ((bxs z').getD k bxD)).length:=by
 have hl:=al_bxs h;by_cases hk:k<(bxs z).length
 ·have hk':k<(bxs z').length:=by omega
  have:=(h.2.2.1.2 k hk hk').2.2.2.1.1
  simp only [List.getD,List.getElem?_eq_getElem hk,List.getElem?_eq_getElem hk',Option.getD_some];exact this
 ·simp only [List.getD,List.getElem?_eq_none_iff.2 (Nat.le_of_not_lt hk),List.getElem?_eq_none_iff.2 (show (bxs z').length<=k by omega),Option.getD_none]
theorem al_okU {z z':UsR.den} (h:Ev.Alike UsR z z') (ho:okU z):okU z':=⟨by rw [<- al_bxs h];exact ho.1,λk=>by rw [<- al_let h];exact ho.2 k⟩
theorem infoN:(Go.Proofs.Tryz.prog.info? 5).isSome=true/\Go.Proofs.Tryz.prog.cellsOf 5=1/\(Go.Proofs.Tryz.prog.info? 3).isSome=true/\Go.Proofs.Tryz.prog.cellsOf 3=1:=⟨by kernel_rfl,by kernel_rfl,by kernel_rfl,by kernel_rfl⟩
def noOp:Oper:={ dst:=none,op:=.move (.tmp 0),type:=0,pos := "",after:=#[],guard:=none }
noncomputable def o13:Oper:=(ops13[5]?).getD noOp
noncomputable def o17:Oper:=(ops17[11]?).getD noOp
noncomputable def o21:Oper:=(ops21[5]?).getD noOp
noncomputable def o25:Oper:=(ops25[13]?).getD noOp
theorem sz13:ops13.size=6/\ops13[5]?=some o13:=⟨by kernel_rfl,by kernel_rfl⟩
theorem sz17:ops17.size=12/\ops17[11]?=some o17:=⟨by kernel_rfl,by kernel_rfl⟩
theorem sz21:ops21.size=6/\ops21[5]?=some o21:=⟨by kernel_rfl,by kernel_rfl⟩
theorem sz25:ops25.size=14/\ops25[13]?=some o25:=⟨by kernel_rfl,by kernel_rfl⟩
theorem op13:o13.op=.store 3 (.tmp 87) (.const (.int .i64 0))/\o13.guard=none/\o13.dst=none:=⟨by kernel_rfl,by kernel_rfl,by kernel_rfl⟩
theorem op17:o17.op=.store 5 (.tmp 109) (.tmp 108)/\o17.guard=none/\o17.dst=none:=⟨by kernel_rfl,by kernel_rfl,by kernel_rfl⟩
theorem op21:o21.op=.store 3 (.tmp 121) (.const (.int .i64 0))/\o21.guard=none/\o21.dst=none:=⟨by kernel_rfl,by kernel_rfl,by kernel_rfl⟩
theorem op25:o25.op=.store 5 (.tmp 145) (.tmp 143)/\o25.guard=none/\o25.dst=none:=⟨by kernel_rfl,by kernel_rfl,by kernel_rfl⟩
theorem inI {k n:Nat} (h:k<n):(decide ((0:Int)<=(k:Int))&&decide ((k:Int)<(n:Int)))=true:=by
 rw [yR];exact ⟨zm (by omega),zm (by omega)⟩
theorem w17 {c k:Nat} {r:zP L0} (hk:k<(yQ r.1).length) (hc:c<(byts ((yQ r.1).getD k ltD)).length) :
  WrG Go.Proofs.Tryz.prog 152 LB ((c:Int),(k:Int),r) LB (relE LB ((c:Int),(k:Int),r)) (.block 3 (.region 17 ops17 false)):=by
 have he:=e17 ((c:Int),(k:Int),r);simp only [yF] at he;rw [inI hk,zI,inI hc,zI,zI] at he;obtain ⟨p1,p2,p3⟩:=op17;exact wr_block (wr_store (k:=.u8) (cold:=.u ((byts ((yQ r.1).getD k ltD)).getD c 0)) he sz17.1 sz17.2 p1 p2 p3 infoN.1 infoN.2.1 rfl rfl (λ_=>⟨_,rfl⟩) rfl rfl rfl rfl rfl rfl).2
theorem w15 {k:Nat} {y0:zP LA} (hy:y0.1=(k:Int)) (hk:k<(yQ y0.2.1).length) (ho:okB y0.2.1) :
  WrG Go.Proofs.Tryz.prog 152 LB ((0:Int),y0) LA (relE LA y0) (.block 2 (.loop (xd [w5 (l2++[false])] (.seq (.block 3 (.region 17 ops17 false)) (w5 (l2++[true,true])))))):=by
 refine wr_loop mixedT (cnt:=(byts ((yQ y0.2.1).getD k ltD)).length) (ho.2 k) rfl (λj y hr=>?_) (λj y=>e16 j y) λj hj y hr=>?_
 ·have hz:Ev.Alike BxR y0.2.1 y.2.1:=hr.2.1;have hk1:y.1=(k:Int):=(show y0.1=y.1 from hr.1).symm.trans hy
  have:=e15 j y
  rw [hk1,inI (show k<(yQ y.2.1).length by rw [<- al_len hz];exact hk),zI,yF,<- al_byt hz] at this;exact this
 ·obtain ⟨ky,r⟩:=y;have hz:Ev.Alike BxR y0.2.1 r.1:=hr.2.1;have hk1:ky=(k:Int):=(show y0.1=ky from hr.1).symm.trans hy;subst hk1;refine tn (w17 (c:=j) (k:=k) (r:=r) (by rw [<- al_len hz];exact hk) (by rw [<- al_byt hz];exact hj)) λz hq=>⟨hq.1.symm,relE.trans hr hq.2⟩
theorem w13 {k:Nat} {y0:zP LA} (hy:y0.1=(k:Int)) (hk:k<(yQ y0.2.1).length) (ho:okB y0.2.1) :
  WrG Go.Proofs.Tryz.prog 152 LA y0 LA (relE LA y0) (.block 1 (.seq (.region 13 ops13 false) (.seq (w5 (b1++[true,false])) (.block 2 (.loop (xd [w5 (l2++[false])] (.seq (.block 3 (.region 17 ops17 false)) (w5 (l2++[true,true]))))))))):=by
 have he:=e13 y0;rw [hy,inI hk,zI,yF] at he;obtain ⟨p1,p2,p3⟩:=op13;refine wr_block (wr_seq (wr_storeC (k:=.i64) (cold:=.i .i64 (((yQ y0.2.1).getD k ltD).1)) he sz13.1 sz13.2 p1 p2 p3 infoN.2.2.1 infoN.2.2.2 (by decide) rfl rfl rfl rfl) λy hr=>?_);have hz:Ev.Alike BxR y0.2.1 y.2.1:=hr.2.1;have hk1:y.1=(k:Int):=(show y0.1=y.1 from hr.1).symm.trans hy;refine wr_seq (wr_piece mixedT (e14 y)) λy' hy'=>?_
 subst hy';exact tn (w15 hk1 (by rw [<- al_len hz];exact hk) (al_okB hz ho)) λz hq=>relE.trans hr hq
theorem w11 {x0:zP L0} (ho:okB x0.1) :
  WrG Go.Proofs.Tryz.prog 152 L0 x0 L0 (relE L0 x0) (.seq (w5 (q0++[false,false])) (.block 0 (.loop (xd [w5 (l0++[false])] (.seq (.block 1 (.seq (.region 13 ops13 false) (.seq (w5 (b1++[true,false])) (.block 2 (.loop (xd [w5 (l2++[false])] (.seq (.block 3 (.region 17 ops17 false)) (w5 (l2++[true,true]))))))))) (w5 (l0++[true,true]))))))):=by
 refine wr_seq (wr_piece mixedT (e10 x0)) λy hy=>?_
 subst hy;refine wr_loop mixedT (cnt:=(yQ x0.1).length) ho.1 rfl (λj y hr=>?_) (λj y=>e12 j y) λj hj y hr=>?_
 ·have hz:Ev.Alike BxR x0.1 y.1:=hr.1
  have:=e11 j y
  rw [<- al_len hz] at this;exact this
 ·have hz:Ev.Alike BxR x0.1 y.1:=hr.1;exact tn (w13 (k:=j) (y0:=((j:Int),y)) rfl (by rw [<- al_len hz];exact hj) (al_okB hz ho)) λz hq=>⟨hq.1.symm,relE.trans hr hq.2⟩
theorem w25 {c k:Nat} {r:zP L0} (hk:k<(bxs r.2.1).length) (hc:c<(yQ ((bxs r.2.1).getD k bxD)).length) :
  WrG Go.Proofs.Tryz.prog 152 LD ((c:Int),(k:Int),r) LD (relE LD ((c:Int),(k:Int),r)) (.block 7 (.region 25 ops25 false)):=by
 have he:=e25 ((c:Int),(k:Int),r);simp only [yF] at he;rw [inI hk,zI,inI hc,zI,zI] at he;obtain ⟨p1,p2,p3⟩:=op25;exact wr_block (wr_store (k:=.u8) (cold:=.u (((yQ ((bxs r.2.1).getD k bxD)).getD c ltD).2.1)) he sz25.1 sz25.2 p1 p2 p3 infoN.1 infoN.2.1 rfl rfl (λ_=>⟨_,rfl⟩) rfl rfl rfl rfl rfl rfl).2
theorem w23 {k:Nat} {y0:zP LC} (hy:y0.1=(k:Int)) (hk:k<(bxs y0.2.2.1).length) (ho:okU y0.2.2.1) :
  WrG Go.Proofs.Tryz.prog 152 LD ((0:Int),y0) LC (relE LC y0) (.block 6 (.loop (xd [w5 (l6++[false])] (.seq (.block 7 (.region 25 ops25 false)) (w5 (l6++[true,true])))))):=by
 refine wr_loop mixedT (cnt:=(yQ ((bxs y0.2.2.1).getD k bxD)).length) (ho.2 k) rfl (λj y hr=>?_) (λj y=>e24 j y) λj hj y hr=>?_
 ·have hz:Ev.Alike UsR y0.2.2.1 y.2.2.1:=hr.2.2.1;have hk1:y.1=(k:Int):=(show y0.1=y.1 from hr.1).symm.trans hy
  have:=e23 j y
  rw [hk1,inI (show k<(bxs y.2.2.1).length by rw [<- al_bxs hz];exact hk),zI,yF,<- al_let hz] at this;exact this
 ·obtain ⟨ky,r⟩:=y;have hz:Ev.Alike UsR y0.2.2.1 r.2.1:=hr.2.2.1;have hk1:ky=(k:Int):=(show y0.1=ky from hr.1).symm.trans hy;subst hk1;refine tn (w25 (c:=j) (k:=k) (r:=r) (by rw [<- al_bxs hz];exact hk) (by rw [<- al_let hz];exact hj)) λz hq=>⟨hq.1.symm,relE.trans hr hq.2⟩
theorem w21 {k:Nat} {y0:zP LC} (hy:y0.1=(k:Int)) (hk:k<(bxs y0.2.2.1).length) (ho:okU y0.2.2.1) :
  WrG Go.Proofs.Tryz.prog 152 LC y0 LC (relE LC y0) (.block 5 (.seq (.region 21 ops21 false) (.seq (w5 (b5++[true,false])) (.block 6 (.loop (xd [w5 (l6++[false])] (.seq (.block 7 (.region 25 ops25 false)) (w5 (l6++[true,true]))))))))):=by
 have he:=e21 y0;rw [hy,inI hk,zI,yF] at he;obtain ⟨p1,p2,p3⟩:=op21;refine wr_block (wr_seq (wr_storeC (k:=.i64) (cold:=.i .i64 (((bxs y0.2.2.1).getD k bxD).2.2.1)) he sz21.1 sz21.2 p1 p2 p3 infoN.2.2.1 infoN.2.2.2 (by decide) rfl rfl rfl rfl) λy hr=>?_);have hz:Ev.Alike UsR y0.2.2.1 y.2.2.1:=hr.2.2.1;have hk1:y.1=(k:Int):=(show y0.1=y.1 from hr.1).symm.trans hy;refine wr_seq (wr_piece mixedT (e22 y)) λy' hy'=>?_
 subst hy';exact tn (w23 hk1 (by rw [<- al_bxs hz];exact hk) (al_okU hz ho)) λz hq=>relE.trans hr hq
theorem w19 {x0:zP L0} (ho:okU x0.2.1) :
  WrG Go.Proofs.Tryz.prog 152 L0 x0 L0 (relE L0 x0) (.seq (w5 (q0++[true,false,false])) (.block 4 (.loop (xd [w5 (l4++[false])] (.seq (.block 5 (.seq (.region 21 ops21 false) (.seq (w5 (b5++[true,false])) (.block 6 (.loop (xd [w5 (l6++[false])] (.seq (.block 7 (.region 25 ops25 false)) (w5 (l6++[true,true]))))))))) (w5 (l4++[true,true]))))))):=by
 refine wr_seq (wr_piece mixedT (e18 x0)) λy hy=>?_
 subst hy;refine wr_loop mixedT (cnt:=(bxs x0.2.1).length) ho.1 rfl (λj y hr=>?_) (λj y=>e20 j y) λj hj y hr=>?_
 ·have hz:Ev.Alike UsR x0.2.1 y.2.1:=hr.2.1
  have:=e19 j y
  rw [<- al_bxs hz] at this;exact this
 ·have hz:Ev.Alike UsR x0.2.1 y.2.1:=hr.2.1;exact tn (w21 (k:=j) (y0:=((j:Int),y)) rfl (by rw [<- al_bxs hz];exact hj) (al_okU hz ho)) λz hq=>⟨hq.1.symm,relE.trans hr hq.2⟩
theorem EV_lit4 {a:BxR.den} {u:UsR.den} {u1 u2 u7 u8:Value} {y:zP L0} (h:relE L0 (a,u,u1,u2,u7,u8,()) y):∀ t∈[1,2,7,8],EV L0 y t=.lit .bad (cond (Nat.beq t 1) u1 (cond (Nat.beq t 2) u2 (cond (Nat.beq t 7) u7 u8))):=by
 obtain ⟨a',u',v1,v2,v7,v8,_⟩:=y;obtain ⟨_,_,h1,h2,h7,h8,_⟩:=h;have h1:u1=v1:=h1;have h2:u2=v2:=h2;have h7:u7=v7:=h7;have h8:u8=v8:=h8;subst h1 h2 h7 h8;intro t ht;simp only [List.mem_cons,List.not_mem_nil,or_false] at ht;rcases ht with rfl | rfl | rfl | rfl <;> rfl
theorem writes5:∀ l,teFit l=true->WrInto Go.Proofs.Tryz.prog 152 [10,14] [1,2,7,8] (teX l) (w5 q0) (some (w5 (q0++[true,true]))):=λl hf=>by
 simp only [teFit,yR] at hf;rw [code5w];refine WrInto.of (k:=λR=>.seq _ (.seq _ R)) (L:=L0) (mk:=λf=>(l.1,l.2.1,f 1,f 2,f 7,f 8,())) (λf=>rfl) (L2:=L0) (Q:=λf=>relE L0 (l.1,l.2.1,f 1,f 2,f 7,f 8,())) (λf y hr t ht=>?_) λf=>?_
 ·rw [EV_lit4 hr t ht];simp only [List.mem_cons,List.not_mem_nil,or_false] at ht;rcases ht with rfl | rfl | rfl | rfl <;> rfl
 ·refine wrk_seq (w11 (x0:=(l.1,l.2.1,f 1,f 2,f 7,f 8,())) (okB_of hf.1)) λy hr=>?_
  have hu:Ev.Alike UsR l.2.1 y.2.1:=hr.2.1;exact wrk_one (tn (w19 (x0:=y) (al_okU hu (okU_of hf.2))) λz hq=>relE.trans hr hq)
end Go.Sw
