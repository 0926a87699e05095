/- Texts that the last one leans on, 5. -/
import Derived.Test.YtipfcejaekfogaaGreatDoorTD
import Derived.Lib.Bytealg
import Derived.Shelf.Unicode.DecodeAny
import Derived.Lib.IndexMore
import Derived.Lib.IndexAny
import Derived.Lib.SlTrimSet
import Derived.Lib.SlFresh
import Derived.Shelf.Strings.FieldsFuncGrows
import Derived.Laws.OwnMore
import Derived.Lib.Join
import Derived.Lib.SlicesCompact
import Derived.Sort.Walk0
import Derived.Sort.EncStr
import Derived.Sort.Grow
import Derived.Sort.Row
import Derived.Test.YtipfcejaekfogaaGreatDoorProg
import Derived.KernelRfl
import Derived.Shelf.Strings.Builder1
import Derived.Shelf.Small.Bits
import Derived.Shelf.Small.Strs
import Derived.Shelf.Small.Wraps
import Derived.Shelf.Strings.BuilderF
import Derived.Shelf.Strings.BuilderK
import Derived.Shelf.Strings.BuilderRune
import Derived.Shelf.Utf8.AppendRune
import Derived.Shelf.Utf8.AppendRunePlain
import Derived.Shelf.Strconv.Itoa0
import Derived.Shelf.Strings.Prefix
import Derived.Shelf.Unicode.Decode
import Derived.Shelf.Unicode.DecodeSlow
import Derived.Shelf.Strings.BuilderCap
import Derived.Ground.Names2Prog
import Derived.Shelf.Slices.SearchI
import Derived.Lib.ValidLaws
import Derived.Lib.TrimUEq
import Derived.Lib.MapLaws
import Derived.WalkKit
import Derived.BigCall
import Derived.Deep.LoopGhost
import Derived.Deep.DeepMust
import Derived.Deep.DeepBigQuietO
import Derived.Deep.CutBlock
import Derived.Deep.DeepCutAuto
import Derived.RangeFuncRecord
import Derived.Laws.IdiomCopy
import Derived.Shelf.SlMaps.Clone
import Derived.Shelf.Spec.SlicesInsertGrow
import Derived.Shelf.Slices.Delete
import Derived.Shelf.SlSortCmp.WholeK
import Derived.Shelf.SlIter.Nil
import Derived.Shelf.SortM.Plain
import Derived.Shelf.SortM.SortNone
import Derived.Ground.GgzProg
import Derived.Ground.SlgmProg
namespace Go.Ev
open Go Go.WideShapes
def wa:(t:Ty)->t.den->Nat
 | .int _,_=>1
 | .u8,_=>1
 | .bool,_=>1
 | .str,l=>List.length l+1
 | .sl t,l=>(List.map (wa t) l).sum
 | .unit,_=>0
 | .pair a b,p=>wa a p.1+wa b p.2
 | .ln t,x=>wa t x
 | .rg t,x=>wa t x
 | .pt _,_=>0
 | .mp _ _ _,_=>0
 | .mx _,_=>0
theorem sizD_u8 (l:List UInt8):wa (.sl .u8) l=l.length:=by
 show (List.map (wa .u8) l).sum=l.length;induction l with
 | nil=>rfl
 | cons a l ih=>rw [List.map_cons,List.sum_cons,ih,List.length_cons];show 1+l.length=_;omega
structure Bulk {H:Type} (bulk:DataW H->Nat):Prop where
 str:∀ b,b.length+1<=bulk (.lit (.string b))
 lit:∀ l,1<=bulk (.lit l)
 sl:∀ es sp,(List.map bulk es).sum<=bulk (.slice es sp)
 agg:∀ ps,(List.map bulk ps).sum<=bulk (.agg ps)
section
variable {P:Program} {w:World} {H:Type} {enc:TypeId×Value->H} {base:Nat} {spare:Nat->Bool} {held:Bool} {bulk:DataW H->Nat}
def OpensB (bulk:DataW H->Nat) (P:Program) (w:World) (enc:TypeId×Value->H) (base:Nat) (spare:Nat->Bool) (held:Bool) (d:Nat):Prop :=
 ∀ (fuel:Nat) (t:TypeId) (y:Ty) (cs:List Value) (x:DataW H×List MemPlace),tyOf P d t=some y->layB P d t=true->DataW.trod enc P w base spare held fuel t cs=some x->∃ v:y.den,RelD w noNN y v cs/\fitD y v/\wa y v<=bulk x.1
theorem open_fieldsB {d:Nat} (ih:OpensB bulk P w enc base spare held d) {n:Nat}:∀ (fs:List Field) (off:Nat) (y:Ty) (cs:List Value) (xs:List (DataW H×List MemPlace)),
  fs.foldr (λf r=>match tyOf P d f.type,r with
    | some a,some b=>some (Ty.pair a b)
    | _,_=>none) (some .unit)=some y ->
  layF P (layB P d) fs off cs.length=true->xs.length=fs.length->(∀ (i:Nat) f,fs[i]?=some f->DataW.trod enc P w base spare held n f.type ((cs.drop f.offset).take (P.cellsOf f.type))=xs[i]?) ->
  ∃ v:y.den,RelD w noNN y v (cs.drop off)/\fitD y v/\wa y v<=(List.map bulk (xs.map (·.1))).sum
 | [],off,y,cs,xs,hy,hl,hx,_=>by
  simp only [List.foldr_nil,y5] at hy;subst hy;simp only [layF] at hl
  have:=xi hl
  subst this;exact ⟨(),by simp [RelD],trivial,Nat.zero_le _⟩
 | f::fs,off,y,cs,[],hy,hl,hx,hm=>by simp at hx
 | f::fs,off,y,cs,x::xs,hy,hl,hx,hm=>by
  simp only [List.foldr_cons] at hy
  cases ha:tyOf P d f.type with
  | none=>simp [ha] at hy
  | some a =>
   cases hb:fs.foldr (λf r=>match tyOf P d f.type,r with
    | some a,some b=>some (Ty.pair a b)
    | _,_=>none) (some .unit) with
   | none=>rw [hb] at hy;simp [ha] at hy
   | some b =>
    rw [hb] at hy;simp only [ha,y5] at hy;subst hy;simp only [layF,yR] at hl;obtain ⟨⟨h1,h2⟩,h3⟩:=hl;have h1:=xi h1;have hz:=hm 0 f (by simp);rw [h1,show (x::xs)[0]?=some x by simp] at hz;obtain ⟨v1,g1,g2,g5⟩:=ih n f.type a _ x ha h2 hz
    obtain ⟨v2,g3,g4,g6⟩:=open_fieldsB ih fs (off+P.cellsOf f.type) b cs xs hb h3 (by simpa using hx) λi f' hf'=>by
     have:=hm (i+1) f' (by simpa using hf')
     simpa using this
    refine ⟨(v1,v2),?_,⟨g2,g4⟩,?_⟩
    ·simp only [RelD];refine ⟨_,_,?_,g1,g3⟩;rw [<- List.drop_drop,List.take_append_drop]
    ·simp only [wa,List.map_cons,List.sum_cons];omega
theorem sum_le_idx {α β:Type} (f:α->Nat) (g:β->Nat):∀ (l:List α) (r:List β),l.length=r.length->(∀ i,(h:i<l.length)->(h':i<r.length)->f l[i]<=g r[i])->(l.map f).sum<=(r.map g).sum
 | [],_,_,_=>Nat.zero_le _
 | a::l,[],h,_=>by simp at h
 | a::l,b::r,h,hi=>by
  have h0:=hi 0 (by simp) (by simp)
  have ih:=sum_le_idx f g l r (by simpa using h) λi h1 h2=>by
   have:=hi (i+1) (by simp<;>omega) (by simp<;>omega)
   simpa using this
  simp only [List.map_cons,List.sum_cons];simp only [List.getElem_cons_zero] at h0;omega
theorem opensB (hB:Bulk bulk):∀ d,OpensB bulk P w enc base spare held d
 | 0=>λfuel t y cs x hy=>by simp [tyOf] at hy
 | d+1=>λfuel t y cs x hy hl h=>by
  have ih:OpensB bulk P w enc base spare held d:=opensB hB d;unfold layB at hl;unfold tyOf at hy
  cases hu:P.underlying t with
  | none=>simp [hu] at hl
  | some u =>
   simp only [hu] at hl hy
   cases u <;> simp only [Bool.false_eq_true] at hl
   case int k =>
    obtain ⟨n,rfl,hx,hw⟩:=DataW.trod_int hu h;have hb:1<=bulk x.1:=by rw [hx];exact hB.lit _
    cases k <;> simp only [y5] at hy <;> subst hy
    case u8 =>
     have hw':0<=n/\n<=255:=by simpa [Lit.wf,IntKind.min,IntKind.max,IntKind.signed,IntKind.bits] using hw
     refine ⟨UInt8.ofNat n.toNat,?_,trivial,hb⟩
     have hn:((UInt8.ofNat n.toNat).toNat:Int)=n:=by
      simp only [UInt8.toNat_ofNat'];omega
     simp only [RelD,hn]
    all_goals exact ⟨n,by simp [RelD],hw,hb⟩
   case bool =>
    obtain ⟨b,rfl,hx⟩:=DataW.trod_bool hu h;have hb:1<=bulk x.1:=by rw [hx];exact hB.lit _
    simp only [y5] at hy;subst hy;exact ⟨b,by simp [RelD],trivial,hb⟩
   case string =>
    obtain ⟨s,rfl,hx,hs⟩:=DataW.trod_string hu h;have hb:s.data.toList.length+1<=bulk x.1:=by rw [hx];exact hB.str _
    simp only [y5] at hy;subst hy;exact ⟨s.data.toList,by simp [RelD],by simpa [fitD] using hs,hb⟩
   case slice e =>
    simp only [yR] at hl;obtain ⟨hl1,hl2⟩:=hl
    cases ht:tyOf P d e with
    | none=>simp [ht] at hy
    | some ye =>
     simp only [ht,Option.map_some,y5] at hy;subst hy;simp only [ht,yR] at hl2;have hsz:=xi hl2.1;have hpos:=Nat.le_of_ble_eq_true hl2.2;rcases DataW.trod_slice hu h with ⟨rfl,_⟩ | ⟨a,len,cap,elems,rest,n,_,rfl,hx,hb,hlc,hcm,hel,heach,_⟩
     ·exact ⟨[],⟨none,0,rfl,Nat.le_refl _,λhp=>absurd hp (by simp)⟩,by simp [fitD],Nat.zero_le _⟩
     ·have hev:∀ i,i<len->∃ (x:ye.den),∃ es,w.cells? base (a.add (i*P.cellsOf e)) (P.cellsOf e)=some es/\RelD w noNN ye x es/\fitD ye x/\∀ z,elems[i]?=some z->wa ye x<=bulk z.1:=λi hi=>by
       have h1:=heach i hi;have h2:elems[i]?=some (elems[i]'(by omega)):=List.getElem?_eq_getElem _;rw [h2,Option.bind_eq_some_iff] at h1;obtain ⟨es,h3,h4⟩:=h1;obtain ⟨v,g1,g2,g3⟩:=ih n e ye es _ ht hl1 h4;exact ⟨v,es,h3,g1,g2,λz hz=>by rw [h2,y5] at hz;rw [<- hz];exact g3⟩
      obtain ⟨l,hl3,hl4⟩:=pick_list len hev
      have hspot:0<len->a.spot=none/\a.block<w.heap.size:=λhp=>by
       obtain ⟨es,h3,_⟩:=hl4 0 (by omega);obtain ⟨_,h5,h6⟩:=World.cells?_some h3;have h7:=h6 0 (by omega);have h8:es[0]?=some (es[0]'(by omega)):=List.getElem?_eq_getElem _;rw [h8] at h7;have h9:(a.add (0*P.cellsOf e)).add 0=a:=by simp [Addr.add]
       rw [h9] at h7;exact ⟨World.cell?_spot h7,World.block_lt_of_cell? w _ h7⟩
      refine ⟨l,?_,?_,?_⟩
      ·simp only [RelD];refine ⟨some a,cap,by rw [hl3],by omega,λhp=>?_⟩;obtain ⟨h1,h2⟩:=hspot (by omega);refine ⟨a.block,a.off,?_,λh=>lnN_le (N:=noNN) (tyOf_rg ht) h,h2,λh=>False.elim h,λi hi=>?_⟩
       ·obtain ⟨b,o,s⟩:=a;simp only at h1;subst h1;rfl
       ·obtain ⟨es,h3,h4,_⟩:=hl4 i hi
        have hsp:(a.add (i*P.cellsOf e)).spot=none:=by
         unfold Addr.add;split
         ·exact h1
         ·rfl
        obtain ⟨h5,h6⟩:=cells_row hsp h3;refine ⟨es,by rw [h5,hsz],?_,h4⟩
        have hbo:(a.add (i*P.cellsOf e)).block=a.block/\(a.add (i*P.cellsOf e)).off=a.off+i*ye.size:=by
         unfold Addr.add;split
         ·rename_i h0;rw [<- hsz,h0];exact ⟨rfl,rfl⟩
         ·rw [<- hsz];exact ⟨rfl,rfl⟩
        rw [hbo.1,hbo.2] at h6;exact h6
      ·simp only [fitD];refine ⟨by omega,λx hx=>?_⟩;obtain ⟨i,hi,rfl⟩:=List.getElem_of_mem hx;obtain ⟨_,_,_,h5,_⟩:=hl4 i hi;exact h5
      ·rw [hx];refine Nat.le_trans ?_ (hB.sl _ _);rw [List.map_map]
       exact sum_le_idx (wa ye) (bulk ∘ λx=>x.1) l elems (by omega) λi h1 h2=>by
        obtain ⟨_,_,_,_,h5⟩:=hl4 i h1;exact h5 _ (List.getElem?_eq_getElem h2)
   case struct fs =>
    obtain ⟨xs,n,_,hx,hlen,hxl,heach⟩:=DataW.trod_struct hu h;obtain ⟨v,h1,h2,h3⟩:=open_fieldsB ih (n:=n) fs.toList 0 y cs xs hy (by rw [hlen];exact hl) (by simpa using hxl) λi f hf=>heach i f (by simpa using hf)
    refine ⟨v,by simpa using h1,h2,Nat.le_trans h3 ?_⟩;rw [hx];exact hB.agg _
theorem open_argB (hB:Bulk bulk) {T:Tb} {t:TypeId} {v:Value} {dv:DataW H} {ps:List MemPlace} (y:Ty) (hy:tyOf P 12 t=some y) (hl:layB P 12 t=true) (h:DataW.Trod enc P w base spare held t v dv ps) :
  ∃ x:y.den,zC w (Not (noF:Frm T) (λ_=>none) λ_=>.dead) (λ_=>none) (λ_=>.dead) (x5 y x) v.cells.toList/\fitD y x/\wa y x<=bulk dv:=by
 obtain ⟨fuel,h⟩:=h;obtain ⟨x,h1,h2,h3⟩:=opensB hB 12 fuel t y _ _ hy hl h;exact ⟨x,ya (h1.keep (Keep.refl w) ⟨λg _ hn=>(noN g hn).elim,λg _ hn=>(noN g (NN.le _ g hn)).elim,λ_ _ h=>False.elim h,λ_ _ h=>False.elim h⟩),h2,h3⟩
end
end Go.Ev
namespace Go.Ev
open Go
def zk {α β τ:Type} (step:α->β->β⊕τ) (fin:β->τ):β->List α->τ
 | b,[]=>fin b
 | b,a::t=>match step a b with
  | .inl c=>zk step fin c t
  | .inr r=>r
theorem walk_iter {α β σ τ:Type} {f:σ->Option (σ⊕τ)} {mk:β->Nat->σ} {ls:List α} {step:α->β->β⊕τ} {fin:β->τ} {I:β->Nat->Prop}
  (h1:∀ b i a,I b i->i<ls.length->(∀ d,ls.getD i d=a)->(∃ c,step a b=.inl c/\I c (i+1)/\f (mk b i)=some (.inl (mk c (i+1))))\/(∃ r,step a b=.inr r/\f (mk b i)=some (.inr r)))
  (h2:∀ b,I b ls.length->f (mk b ls.length)=some (.inr (fin b))):∀ (n:Nat) (b:β) (i:Nat) (t:List α),I b i->i<=ls.length->ls.drop i=t->t.length<n->iter f n (mk b i)=some (zk step fin b t)
 | 0,_,_,_,_,_,_,h=>absurd h (Nat.not_lt_zero _)
 | n+1,b,i,[],hI,hi,ht,_=>by
  have hl:ls.length<=i:=List.drop_eq_nil_iff.mp ht;simp only [iter,zk];obtain rfl:i=ls.length:=by omega
  rw [h2 b hI]
 | n+1,b,i,a::t,hI,_,ht,hn=>by
  have hl:i<ls.length:=by
   rcases Nat.lt_or_ge i ls.length with h | h
   ·exact h
   ·rw [List.drop_eq_nil_iff.mpr h] at ht;cases ht
  have e:=List.drop_eq_getElem_cons hl;rw [ht] at e;obtain ⟨e1,e2⟩:=List.cons.inj e;simp only [iter,zk];rcases h1 b i a hI hl (λd=>by rw [e1,wQ,List.getElem?_eq_getElem hl];rfl) with ⟨c,q1,q2,q3⟩ | ⟨r,q1,q3⟩
  ·rw [q3,q1];exact walk_iter h1 h2 n c (i+1) t q2 hl e2.symm (by simp only [List.length_cons] at hn;omega)
  ·rw [q3,q1]
theorem yC {α β σ τ:Type} {f:σ->Option (σ⊕τ)} (mk:β->Nat->σ) (ls:List α) (step:α->β->β⊕τ) (fin:β->τ) (I:β->Nat->Prop)
  (h1:∀ b i a,I b i->i<ls.length->(∀ d,ls.getD i d=a)->(∃ c,step a b=.inl c/\I c (i+1)/\f (mk b i)=some (.inl (mk c (i+1))))\/(∃ r,step a b=.inr r/\f (mk b i)=some (.inr r)))
  (h2:∀ b,I b ls.length->f (mk b ls.length)=some (.inr (fin b))) (hn:ls.length<xk) {b:β} (hI:I b 0):zY f (mk b 0)=some (zk step fin b ls) :=
 walk_iter h1 h2 xk b 0 ls hI (Nat.zero_le _) rfl hn
theorem yo {α β σ τ:Type} {f:σ->Option (σ⊕τ)} (mk:β->Nat->σ) (ls:List α) (step:α->β->β⊕τ) (fin:β->τ)
  (h1:∀ b i a,i<ls.length->(∀ d,ls.getD i d=a)->f (mk b i)=some (match step a b with | .inl c=>.inl (mk c (i+1)) | .inr r=>.inr r))
  (h2:∀ b,f (mk b ls.length)=some (.inr (fin b))) (hn:ls.length<xk) {b:β}:zY f (mk b 0)=some (zk step fin b ls) :=
 yC mk ls step fin (λ_ _=>True) (λb i a _ hi ha=>by
  have h:=h1 b i a hi ha
  cases e:step a b with
  | inl c=>rw [e] at h;exact .inl ⟨c,rfl,trivial,h⟩
  | inr r=>rw [e] at h;exact .inr ⟨r,rfl,h⟩) (λb _=>h2 b) hn trivial
theorem zV {n:Int} (h1:-9223372036854775808<=n) (h2:n<=9223372036854775807):zh n=n:=by
 unfold zh IntKind.wrap;simp only [IntKind.bits,IntKind.signed];by_cases h:n % 2^64>=2^63
 ·simp;omega
 ·simp;omega
theorem yH {n:Nat} (h:n<9223372036854775807):zh ((n:Int)+1)=((n+1:Nat):Int):=by
 rw [show ((n+1:Nat):Int)=(n:Int)+1 from by omega];exact zV (by omega) (by omega)
theorem yt {i n:Nat}:decide ((i:Int)<(n:Int))=decide (i<n):=by simp
theorem yj {i:Nat}:decide ((0:Int)<=(i:Int))=true:=by simp
end Go.Ev
namespace Go.Ev
open Go
section
variable {P:Program} {f:FuncId} {fn:Func}
end
end Go.Ev
namespace Go.Ev
open Go
def nvDecode:List AV->Option AV
 | [.s l]=>some (.tup [.i .i32 ((Lib.decodeGo ⟨l.toArray⟩).1:Nat),.i .i64 ((Lib.decodeGo ⟨l.toArray⟩).2:Nat)])
 | _=>none
theorem nvDecode_ok {P:Program} {f:FuncId} {g3 g4:Nat} (hen:Enters P f) (h3:vG P "unicode/utf8.first"=some g3) (h4:vG P "unicode/utf8.acceptRanges"=some g4)
  (hc:∀ s w,Lib.Utf8Tabs g3 g4 w->Calls P f #[.string s] w λe w'=>e=.returned (.tuple #[.int .i32 (Lib.decodeGo s).1,.int .i64 (Lib.decodeGo s).2])/\RowKit.Below w.heap.size w w'):YOK P f nvDecode:=by
 refine .inr ⟨hen,λargs v h w N μ H vals ht hr=>?_⟩;unfold nvDecode at h;split at h
 ·rename_i l;simp only [y5] at h;subst h;simp only [zC,zA] at hr;obtain ⟨_,_,rfl,rfl,rfl⟩:=hr;refine (hc _ w (ht.1 g3 g4 h3 h4)).mono λe w' ⟨he,bel⟩=>⟨_,he,λw1 N1 μ1 H1=>?_,bel⟩
  simp only [zA,zC];exact ⟨_,rfl,_,_,rfl,rfl,_,_,rfl,rfl,rfl⟩
 ·cases h
end Go.Ev
namespace Go.Ev
open Go Go.Proofs
abbrev Pvs:=List AV->Option (Bool×AV)
def PvsOK (P:Program) (f:FuncId) (g:Pvs):Prop :=
 Enters P f/\∀ args v,g args=some (true,v)->∀ w N μ H vals,(zJ P).tab w->zC w N μ H args vals ->
  Calls P f vals.toArray w λe w'=>∃ val,e=.returned val/\(∀ w1 N1 μ1 H1,zA w1 N1 μ1 H1 v val)/\RowKit.Below w.heap.size w w'
def zPv (g:Pvs):xV:=λargs S=>match g args with
 | some (b,v)=>some (b,v,S)
 | none=>none
theorem zPv_ok {P:Program} {f:FuncId} {g:Pvs} (h:PvsOK P f g):ZOK P f (zPv g):=by
 refine ⟨h.1,λargs S v S' hz F μ w vals hp hr=>?_⟩;unfold zPv at hz;split at hz
 ·rename_i b v' hg;simp only [y5,Prod.mk.injEq] at hz;obtain ⟨rfl,rfl,rfl⟩:=hz;refine (h.2 args v' hg w _ _ _ vals hp.tab hr).mono λe w' ⟨val,h1,h2,bel⟩=>?_
  exact ⟨μ,[],val,h1,rfl,by simp,hp.keep ⟨bel.size,λg hg _=>bel.block g hg⟩ λg ⟨b,hb,hg⟩=>bel.block g (hp.lt b g hb hg),
   Pl.keep hp ⟨⟨bel.size,λg hg _=>bel.block g hg⟩,bel.os,bel.tape,bel.output⟩,h2 _ _ _ _⟩
 ·cases hz
theorem Orc.OK.none {P:Program} {f:FuncId} {a:VSh} {bs:List (Nat×BSh)} {o:VSh} {obs:List (Nat×BSh)} (hen:Enters P f) (hf:(⟨a,bs,o,obs,λ_=>Option.none⟩:Orc).fits=true):(⟨a,bs,o,obs,λ_=>Option.none⟩:Orc).OK P f:=⟨hen,hf,λp r h=>by cases h⟩
end Go.Ev
namespace Go.Gl
open Go Go.Proofs
abbrev Tx:=List UInt8
def Rise (l:List Tx):Prop:=l.Pairwise (· < ·)
theorem lt_irr (a:Tx):¬ a<a:=List.lt_irrefl a
theorem lt_tr {a b c:Tx} (h1:a<b) (h2:b<c):a<c:=List.lt_trans h1 h2
theorem rise_eq:∀ {a b:List Tx},Rise a->Rise b->(∀ x,x∈a<->x∈b)->a=b
 | [],[],_,_,_=>rfl
 | [],y::b,_,_,h=>absurd ((h y).2 (by simp)) (by simp)
 | x::a,[],_,_,h=>absurd ((h x).1 (by simp)) (by simp)
 | x::a,y::b,h1,h2,h=>by
  rw [Rise,List.pairwise_cons] at h1 h2
  have hxy:x=y:=by
   have m1:=(h x).1 (by simp);have m2:=(h y).2 (by simp);rcases List.mem_cons.1 m1 with e | e
   ·exact e
   rcases List.mem_cons.1 m2 with e' | e'
   ·exact e'.symm
   ·exact absurd (lt_tr (h1.1 y e') (h2.1 x e)) (lt_irr x)
  subst hxy
  have:a=b:=rise_eq h1.2 h2.2 λz=>by
   constructor
   ·intro hz;rcases List.mem_cons.1 ((h z).1 (List.mem_cons_of_mem _ hz)) with e | e
    ·subst e;exact absurd (h1.1 z hz) (lt_irr z)
    ·exact e
   ·intro hz;rcases List.mem_cons.1 ((h z).2 (List.mem_cons_of_mem _ hz)) with e | e
    ·subst e;exact absurd (h2.1 z hz) (lt_irr z)
    ·exact e
  rw [this]
def ins (s:Tx):List Tx->List Tx
 | []=>[s]
 | x::l=>if s<x then s::x::l else x::ins s l
end Go.Gl
namespace Go.Ev
open Go Go.Proofs Go.Sort Go.Gl
section
variable {T:Tb} {F:Frm T} {μ:Nat->Option Nat} {H:Nat->Blk} {nx:Nat} {w:World} {b g:Nat} {l:List Tx}
end
end Go.Ev
namespace Go.Ev
open Go Go.Proofs
set_option maxRecDepth 100000
end Go.Ev
namespace Go.Qw
open Go Go.Ev
set_option maxRecDepth 100000
theorem mixed:Go.Proofs.Tryz.prog.follows .mixedOrders=true:=by kernel_rfl
def F124 (p:(Int×Int×Unit)×Unit):Option (Bool×Unit):=(some ((((decide ((32:Int)<=p.1.1))&&(!(decide (p.1.1=(127:Int)))))&&((!(decide (p.1.1=(65533:Int))))||(decide (p.1.2.1=(3:Int))))),()))
def O124:Orc:=⟨(.cons (.i .i32) (.cons (.i .i64) .nil)),[],.b,[],F124⟩
def H124:HT:=.leaf
def X124:List (FuncId×Orc):=[]
def Y124:List (FuncId×(List AV->Option AV)):=[]
def Z124:List (FuncId×xV):=[]
def I124:List FuncId:=[]
theorem run124 (p):zQ Go.Proofs.Tryz.prog (callX Go.Proofs.Tryz.prog (lookX X124) (wH X124) (wG Y124) (lookZ Z124) (zS I124) 6) (mild (wH X124) (wG Y124)) Go.Proofs.Tryz.f124 H124 O124 p=F124 p:=by kernel_rfl
theorem ok124:O124.OK Go.Proofs.Tryz.prog 124 :=
 ok_of mixed (X:=X124) (Y:=Y124) (Z:=Z124) (I:=I124) (d:=6) trivial trivial trivial trivial (by kernel_rfl) Go.Proofs.Tryz.func124 Go.Proofs.Tryz.call124 (c:=zD Go.Proofs.Tryz.f124) (by kernel_rfl) (h:=H124) (by kernel_rfl)
  (ls:=[]) (by kernel_rfl) trivial run124
def S125_0:Shape:=⟨[(0,.s),(1,(.i .i64)),(9,(.ptr 0 0))],[(0,.iter)],1⟩
def U125_0:yD:=[((.exit 0),⟨[(0,.s),(1,(.i .i64))],[],0⟩),(.ret,⟨[(4,(.i .i64))],[],0⟩)]
def B125_0 (p:(((List UInt8)×Int×Unit×Unit)×((List UInt8×Nat)×Unit))):Option ((((List UInt8)×Int×Unit×Unit)×((List UInt8×Nat)×Unit))⊕((((List UInt8)×Int×Unit)×Unit)⊕((Int×Unit)×Unit))):=(cond (decide (p.2.1.2<List.length p.2.1.1)) (cond (decide ((0:Int)<((p.2.1.2:Nat):Int))) (some (Sum.inr (Sum.inr ((((p.2.1.2:Nat):Int),()),())))) (some (Sum.inl ((p.1.1,p.1.2.1,(),()),((p.2.1.1,(p.2.1.2+(Go.Utf8.decode ⟨List.toArray p.2.1.1⟩ p.2.1.2).2)),()))))) (some (Sum.inr (Sum.inl ((p.1.1,p.1.2.1,()),())))))
def L125_0 (p:(((List UInt8)×Int×Unit×Unit)×((List UInt8×Nat)×Unit))):Option ((((List UInt8)×Int×Unit)×Unit)⊕((Int×Unit)×Unit)):=zY B125_0 p
def H125_0:HT:=.leaf
def F125 (p:((List UInt8)×Int×Unit)×Unit):Option (Int×Unit):=(Option.bind (cond (((decide ((0:Int)<=p.1.2.1))&&(decide (p.1.2.1<=(((List.length p.1.1):Nat):Int))))&&(decide ((((List.length p.1.1):Nat):Int)<=(((List.length p.1.1):Nat):Int)))) (Option.bind (L125_0 ((p.1.1,p.1.2.1,(),()),(((List.take ((Int.toNat (((List.length p.1.1):Nat):Int))-(Int.toNat p.1.2.1)) (List.drop (Int.toNat p.1.2.1) p.1.1)),0),()))) λp1=>(match p1 with | Sum.inl p2=>(some (Sum.inl ((p2.1.1,p2.1.2.1,()),()))) | Sum.inr q2=>(some (Sum.inr ((q2.1.1,()),()))))) none) λ(p3:((((List UInt8)×Int×Unit)×Unit)⊕((Int×Unit)×Unit)))=>(match p3 with | Sum.inl p4=>(some ((zh ((((List.length p4.1.1):Nat):Int)-p4.1.2.1)),())) | Sum.inr q4=>(some (q4.1.1,()))))
def O125:Orc:=⟨(.cons .s (.cons (.i .i64) .nil)),[],(.i .i64),[],F125⟩
def H125:HT:=(.two .leaf (.two (.join [(.normal,⟨[(0,.s),(1,(.i .i64))],[],0⟩),(.ret,⟨[(4,(.i .i64))],[],0⟩)] (.two .leaf (.one (.loop S125_0 U125_0 L125_0 H125_0)))) .leaf))
def X125:List (FuncId×Orc):=[]
def Y125:List (FuncId×(List AV->Option AV)):=[]
def Z125:List (FuncId×xV):=[]
def I125:List FuncId:=[]
theorem round125_0 (p):round Go.Proofs.Tryz.prog (callX Go.Proofs.Tryz.prog (lookX X125) (wH X125) (wG Y125) (lookZ Z125) (zS I125) 6) (mild (wH X125) (wG Y125)) 0 20 (zU (zD Go.Proofs.Tryz.f125) [true,false,true,false,false]) H125_0 S125_0 U125_0 p=B125_0 p:=by kernel_rfl
theorem run125 (p):zQ Go.Proofs.Tryz.prog (callX Go.Proofs.Tryz.prog (lookX X125) (wH X125) (wG Y125) (lookZ Z125) (zS I125) 6) (mild (wH X125) (wG Y125)) Go.Proofs.Tryz.f125 H125 O125 p=F125 p:=by kernel_rfl
theorem ok125:O125.OK Go.Proofs.Tryz.prog 125 :=
 ok_of mixed (X:=X125) (Y:=Y125) (Z:=Z125) (I:=I125) (d:=6) trivial trivial trivial trivial (by kernel_rfl) Go.Proofs.Tryz.func125 Go.Proofs.Tryz.call125 (c:=zD Go.Proofs.Tryz.f125) (by kernel_rfl) (h:=H125) (by kernel_rfl)
  (ls:=[⟨zU (zD Go.Proofs.Tryz.f125) [true,false,true,false,false],H125_0,S125_0,U125_0,L125_0⟩]) (by kernel_rfl) ⟨LoopRec.of rfl round125_0,trivial⟩ run125
end Go.Qw
namespace Go.Proofs
open Go.Shelf
def Tryz.lays169_ren:Go.Shelf.Ren:=⟨fun | 169=>127 | n=>n,fun | 70=>157 | 9=>9 | 0=>0 | 72=>159 | 37=>50 | 127=>178 | 3=>3 | 5=>5 | n=>n,fun | n=>n⟩
theorem Tryz.lays169:Go.Proofs.Lays.n169 Tryz.prog Tryz.lays169_ren:={
  mixed:=by kernel_rfl
  f169:=Tryz.func127.trans (congrArg some (by kernel_rfl))
  t0:=Tryz.underlying0
  a0:=Tryz.isAgg0
  z0:=Tryz.sizeOf0
  v0:=Tryz.zeroValue0
  t3:=Tryz.underlying3
  a3:=Tryz.isAgg3
  z3:=Tryz.sizeOf3
  v3:=Tryz.zeroValue3
  t9:=Tryz.underlying9
  a9:=Tryz.isAgg9
  z9:=Tryz.sizeOf9
  v9:=Tryz.zeroValue9
  t37:=Tryz.underlying50
  a37:=Tryz.isAgg50
  z37:=Tryz.sizeOf50
  v37:=Tryz.zeroValue50
  t70:=Tryz.underlying157
  a70:=Tryz.isAgg157
  z70:=Tryz.sizeOf157
  v70:=Tryz.zeroValue157
  t72:=Tryz.underlying159
  a72:=Tryz.isAgg159
  z72:=Tryz.sizeOf159
  v72:=Tryz.zeroValue159
  t127:=Tryz.underlying178
  a127:=Tryz.isAgg178
  z127:=Tryz.sizeOf178
  v127:=Tryz.zeroValue178 }
def Tryz.lays197_ren:Go.Shelf.Ren:=⟨fun | 197=>120 | 260=>147 | n=>n,fun | 9=>9 | 21=>21 | 3=>3 | 4=>4 | 5=>5 | 105=>155 | 119=>188 | 0=>0 | 46=>117 | 139=>191 | 138=>190 | n=>n,fun | 3=>1 | 4=>2 | n=>n⟩
theorem Tryz.lays197:Go.Proofs.Lays.n197 Tryz.prog Tryz.lays197_ren:={
  mixed:=by kernel_rfl
  f197:=Tryz.func120.trans (congrArg some (by kernel_rfl))
  f260:=Tryz.func147.trans (congrArg some (by kernel_rfl))
  t0:=Tryz.underlying0
  a0:=Tryz.isAgg0
  z0:=Tryz.sizeOf0
  v0:=Tryz.zeroValue0
  t3:=Tryz.underlying3
  a3:=Tryz.isAgg3
  z3:=Tryz.sizeOf3
  v3:=Tryz.zeroValue3
  t4:=Tryz.underlying4
  a4:=Tryz.isAgg4
  z4:=Tryz.sizeOf4
  v4:=Tryz.zeroValue4
  t5:=Tryz.underlying5
  a5:=Tryz.isAgg5
  z5:=Tryz.sizeOf5
  v5:=Tryz.zeroValue5
  t9:=Tryz.underlying9
  a9:=Tryz.isAgg9
  z9:=Tryz.sizeOf9
  v9:=Tryz.zeroValue9
  t21:=Tryz.underlying21
  a21:=Tryz.isAgg21
  z21:=Tryz.sizeOf21
  v21:=Tryz.zeroValue21
  t46:=Tryz.underlying117
  a46:=Tryz.isAgg117
  z46:=Tryz.sizeOf117
  v46:=Tryz.zeroValue117
  t105:=Tryz.underlying155
  a105:=Tryz.isAgg155
  z105:=Tryz.sizeOf155
  v105:=Tryz.zeroValue155
  t119:=Tryz.underlying188
  a119:=Tryz.isAgg188
  z119:=Tryz.sizeOf188
  t138:=Tryz.underlying190
  a138:=Tryz.isAgg190
  z138:=Tryz.sizeOf190
  v138:=Tryz.zeroValue190
  t139:=Tryz.underlying191
  a139:=Tryz.isAgg191
  z139:=Tryz.sizeOf191
  v139:=Tryz.zeroValue191
  g3:=by kernel_rfl
  g4:=by kernel_rfl }
def Tryz.lays260_ren:Go.Shelf.Ren:=⟨fun | 260=>147 | n=>n,fun | 9=>9 | 21=>21 | 3=>3 | 4=>4 | 5=>5 | 119=>188 | 0=>0 | 46=>117 | 139=>191 | 138=>190 | n=>n,fun | 3=>1 | 4=>2 | n=>n⟩
theorem Tryz.lays260:Go.Proofs.Lays.n260 Tryz.prog Tryz.lays260_ren:={
  mixed:=by kernel_rfl
  f260:=Tryz.func147.trans (congrArg some (by kernel_rfl))
  t0:=Tryz.underlying0
  a0:=Tryz.isAgg0
  z0:=Tryz.sizeOf0
  v0:=Tryz.zeroValue0
  t3:=Tryz.underlying3
  a3:=Tryz.isAgg3
  z3:=Tryz.sizeOf3
  v3:=Tryz.zeroValue3
  t4:=Tryz.underlying4
  a4:=Tryz.isAgg4
  z4:=Tryz.sizeOf4
  v4:=Tryz.zeroValue4
  t5:=Tryz.underlying5
  a5:=Tryz.isAgg5
  z5:=Tryz.sizeOf5
  v5:=Tryz.zeroValue5
  t9:=Tryz.underlying9
  a9:=Tryz.isAgg9
  z9:=Tryz.sizeOf9
  v9:=Tryz.zeroValue9
  t21:=Tryz.underlying21
  a21:=Tryz.isAgg21
  z21:=Tryz.sizeOf21
  v21:=Tryz.zeroValue21
  t46:=Tryz.underlying117
  a46:=Tryz.isAgg117
  z46:=Tryz.sizeOf117
  v46:=Tryz.zeroValue117
  t119:=Tryz.underlying188
  a119:=Tryz.isAgg188
  z119:=Tryz.sizeOf188
  t138:=Tryz.underlying190
  a138:=Tryz.isAgg190
  z138:=Tryz.sizeOf190
  v138:=Tryz.zeroValue190
  t139:=Tryz.underlying191
  a139:=Tryz.isAgg191
  z139:=Tryz.sizeOf191
  v139:=Tryz.zeroValue191
  g3:=by kernel_rfl
  g4:=by kernel_rfl }
open Go.RowKit Go.Lib in
theorem Tryz.utf8_DecodeRuneInString (s:ByteArray) (w:World) (hT:Lib.Utf8Tabs 1 2 w) :
  Calls Tryz.prog 120 #[.string s] w λe w'=>e=.returned (.tuple #[.int .i32 (Lib.decodeGo s).1,.int .i64 (Lib.decodeGo s).2])/\Below w.heap.size w w':=Any.utf8_DecodeRuneInString Tryz.lays197 s w hT
end Go.Proofs
namespace Go.Proofs
open Go.Shelf Go.RowKit Go.Lib
set_option maxRecDepth 100000
def Tryz.lays167_ren:Go.Shelf.Ren:=⟨fun | 167=>123 | 240=>149 | 276=>167 | n=>n,fun | 0=>0 | 4=>4 | 5=>5 | 9=>9 | 20=>20 | 37=>50 | 70=>157 | 72=>159 | 75=>161 | 80=>133 | 164=>205 | n=>n,fun | n=>n⟩
theorem Tryz.lays167:Go.Proofs.Lays.n167 Tryz.prog Tryz.lays167_ren:={
  mixed:=by kernel_rfl
  f167:=Tryz.func123.trans (congrArg some (by kernel_rfl))
  f240:=Tryz.func149.trans (congrArg some (by kernel_rfl))
  f276:=Tryz.func167.trans (congrArg some (by kernel_rfl))
  t0:=Tryz.underlying0
  a0:=Tryz.isAgg0
  z0:=Tryz.sizeOf0
  v0:=Tryz.zeroValue0
  t4:=Tryz.underlying4
  a4:=Tryz.isAgg4
  z4:=Tryz.sizeOf4
  v4:=Tryz.zeroValue4
  t5:=Tryz.underlying5
  a5:=Tryz.isAgg5
  z5:=Tryz.sizeOf5
  v5:=Tryz.zeroValue5
  t9:=Tryz.underlying9
  a9:=Tryz.isAgg9
  z9:=Tryz.sizeOf9
  v9:=Tryz.zeroValue9
  t20:=Tryz.underlying20
  a20:=Tryz.isAgg20
  z20:=Tryz.sizeOf20
  v20:=Tryz.zeroValue20
  t37:=Tryz.underlying50
  a37:=Tryz.isAgg50
  z37:=Tryz.sizeOf50
  v37:=Tryz.zeroValue50
  t70:=Tryz.underlying157
  a70:=Tryz.isAgg157
  z70:=Tryz.sizeOf157
  v70:=Tryz.zeroValue157
  t72:=Tryz.underlying159
  a72:=Tryz.isAgg159
  z72:=Tryz.sizeOf159
  v72:=Tryz.zeroValue159
  t75:=Tryz.underlying161
  a75:=Tryz.isAgg161
  z75:=Tryz.sizeOf161
  v75:=Tryz.zeroValue161
  t164:=Tryz.underlying205
  a164:=Tryz.isAgg205
  z164:=Tryz.sizeOf205
  v164:=Tryz.zeroValue205
  }
def Tryz.lays168_ren:Go.Shelf.Ren:=⟨fun | 168=>126 | 240=>149 | 242=>150 | 276=>167 | 278=>168 | n=>n,fun | 0=>0 | 3=>3 | 4=>4 | 5=>5 | 9=>9 | 20=>20 | 21=>21 | 37=>50 | 46=>117 | 51=>152 | 70=>157 | 72=>159 | 75=>161 | 80=>133 | 164=>205 | n=>n,fun | n=>n⟩
theorem Tryz.lays168:Go.Proofs.Lays.n168 Tryz.prog Tryz.lays168_ren:={
  mixed:=by kernel_rfl
  f168:=Tryz.func126.trans (congrArg some (by kernel_rfl))
  f240:=Tryz.func149.trans (congrArg some (by kernel_rfl))
  f242:=Tryz.func150.trans (congrArg some (by kernel_rfl))
  f276:=Tryz.func167.trans (congrArg some (by kernel_rfl))
  f278:=Tryz.func168.trans (congrArg some (by kernel_rfl))
  t0:=Tryz.underlying0
  a0:=Tryz.isAgg0
  z0:=Tryz.sizeOf0
  v0:=Tryz.zeroValue0
  t3:=Tryz.underlying3
  a3:=Tryz.isAgg3
  z3:=Tryz.sizeOf3
  v3:=Tryz.zeroValue3
  t4:=Tryz.underlying4
  a4:=Tryz.isAgg4
  z4:=Tryz.sizeOf4
  v4:=Tryz.zeroValue4
  t5:=Tryz.underlying5
  a5:=Tryz.isAgg5
  z5:=Tryz.sizeOf5
  v5:=Tryz.zeroValue5
  t9:=Tryz.underlying9
  a9:=Tryz.isAgg9
  z9:=Tryz.sizeOf9
  v9:=Tryz.zeroValue9
  t20:=Tryz.underlying20
  a20:=Tryz.isAgg20
  z20:=Tryz.sizeOf20
  v20:=Tryz.zeroValue20
  t21:=Tryz.underlying21
  a21:=Tryz.isAgg21
  z21:=Tryz.sizeOf21
  v21:=Tryz.zeroValue21
  t37:=Tryz.underlying50
  a37:=Tryz.isAgg50
  z37:=Tryz.sizeOf50
  v37:=Tryz.zeroValue50
  t46:=Tryz.underlying117
  a46:=Tryz.isAgg117
  z46:=Tryz.sizeOf117
  v46:=Tryz.zeroValue117
  t51:=Tryz.underlying152
  a51:=Tryz.isAgg152
  z51:=Tryz.sizeOf152
  v51:=Tryz.zeroValue152
  t70:=Tryz.underlying157
  a70:=Tryz.isAgg157
  z70:=Tryz.sizeOf157
  v70:=Tryz.zeroValue157
  t72:=Tryz.underlying159
  a72:=Tryz.isAgg159
  z72:=Tryz.sizeOf159
  v72:=Tryz.zeroValue159
  t75:=Tryz.underlying161
  a75:=Tryz.isAgg161
  z75:=Tryz.sizeOf161
  v75:=Tryz.zeroValue161
  t164:=Tryz.underlying205
  a164:=Tryz.isAgg205
  z164:=Tryz.sizeOf205
  v164:=Tryz.zeroValue205
  }
theorem Tryz.bX167:Builder.Extra Tryz.prog Tryz.lays167_ren:={ sizeBuilder:=by kernel_rfl,liesBuilder:=by kernel_rfl,t5:=Tryz.underlying5,a5:=Tryz.isAgg5,z5:=Tryz.sizeOf5,v5:=Tryz.zeroValue5,infoByte:=by kernel_rfl,cellsByte:=by kernel_rfl,sizeByte:=by kernel_rfl,neB5:=by decide }
theorem Tryz.bX168:Builder.Extra Tryz.prog Tryz.lays168_ren:={ sizeBuilder:=by kernel_rfl,liesBuilder:=by kernel_rfl,t5:=Tryz.underlying5,a5:=Tryz.isAgg5,z5:=Tryz.sizeOf5,v5:=Tryz.zeroValue5,infoByte:=by kernel_rfl,cellsByte:=by kernel_rfl,sizeByte:=by kernel_rfl,neB5:=by decide }
theorem Tryz.bX169:Builder.Extra Tryz.prog Tryz.lays169_ren:={ sizeBuilder:=by kernel_rfl,liesBuilder:=by kernel_rfl,t5:=Tryz.underlying5,a5:=Tryz.isAgg5,z5:=Tryz.sizeOf5,v5:=Tryz.zeroValue5,infoByte:=by kernel_rfl,cellsByte:=by kernel_rfl,sizeByte:=by kernel_rfl,neB5:=by decide }
end Go.Proofs
namespace Go.Ev
open Go Go.Proofs
section
variable {P:Program} {w:World}
theorem hp_none {w:World} (ht:(zJ P).tab w):Hp (noF:Frm (zJ P)) (λ_=>none) (zT [] ()) 0 w :=
 ⟨λb=>by simp [zT,za],λb g h=>absurd rfl h,λb b' g h=>absurd rfl h,λ_ _=>rfl,λb g h=>absurd rfl h,λg h=>h.elim,ht,λb g h=>absurd rfl h,λb g h=>(by cases h),λb g h=>absurd rfl h⟩
theorem toldI {f:FuncId} {A:VSh} {k:IntKind} {run:A.den×yc []->Option (VSh.den (.i k)×yc [])} (ho:Orc.OK P f ⟨A,[],.i k,[],run⟩) {p:A.den} {n:Int} (hrun:run (p,())=some (n,())) {vals:List Value} (ht:(zJ P).tab w)
  (hargs:zC w (Not (noF:Frm (zJ P)) (λ_=>none) λ_=>.dead) (λ_=>none) (λ_=>.dead) (unL A p) vals) :
  Calls P f vals.toArray w λe w'=>e=.returned (.int k n)/\RowKit.Below w.heap.size w w':=by
 refine (ho.run (p,()) _ hrun noF (λ_=>none) w vals (hp_none ht) hargs).mono λe w' ⟨val,μ',nx',h1,h2,h3,h4,_⟩=>⟨?_,h4.os,h4.tape,h4.output,h4.size,λk hk=>h4.keep k hk λ⟨j,h,_⟩=>h rfl⟩
 have h1:e=.returned val:=h1;simp only [w6,zA] at h3;rw [h1,h3]
theorem toldB {f:FuncId} {A:VSh} {run:A.den×yc []->Option (VSh.den .b×yc [])} (ho:Orc.OK P f ⟨A,[],.b,[],run⟩) {p:A.den} {x:Bool} (hrun:run (p,())=some (x,())) {vals:List Value} (ht:(zJ P).tab w)
  (hargs:zC w (Not (noF:Frm (zJ P)) (λ_=>none) λ_=>.dead) (λ_=>none) (λ_=>.dead) (unL A p) vals) :
  Calls P f vals.toArray w λe w'=>e=.returned (.bool x)/\RowKit.Below w.heap.size w w':=by
 refine (ho.run (p,()) _ hrun noF (λ_=>none) w vals (hp_none ht) hargs).mono λe w' ⟨val,μ',nx',h1,h2,h3,h4,_⟩=>⟨?_,h4.os,h4.tape,h4.output,h4.size,λk hk=>h4.keep k hk λ⟨j,h,_⟩=>h rfl⟩
 have h1:e=.returned val:=h1;simp only [w6,zA] at h3;rw [h1,h3]
theorem tab_below {w w':World} (ht:(zJ P).tab w) (hb:RowKit.Below w.heap.size w w'):(zJ P).tab w' :=
 (zJ P).stays w w' (λg hg=>hb.block g ((zJ P).lt w g ht hg)) ht
end
end Go.Ev
namespace Go.Qw
open Go Go.Ev
set_option maxRecDepth 100000
theorem F125_eq (s:List UInt8) (a:Nat) (hs:s.length<=1100000) (ha:a<s.length):F125 ((s,(a:Int),()),())=some (((Lib.decodeL (s.drop a)).2:Int),()):=by
 have e1:(decide ((0:Int)<=(a:Int))&&decide ((a:Int)<=(s.length:Int))&&decide ((s.length:Int)<=(s.length:Int)))=true:=by
  simp;omega
 have ht:List.take ((Int.toNat ((List.length s:Nat):Int))-(Int.toNat (a:Int))) (List.drop (Int.toNat (a:Int)) s)=s.drop a:=List.take_of_length_le (by simp);have hl:(s.drop a).length=s.length-a:=by simp
 have hne:s.drop a≠[]:=λh=>by rw [h] at hl;simp at hl;omega
 have hw:=Lib.decodeL_width (s.drop a);have hle:=Lib.decodeL_le (s.drop a) hne;simp only [F125,e1,zI,ht];generalize s.drop a=t at hl hne hw hle
 obtain ⟨r,h1,h2⟩:=z6 (f:=B125_0) (I:=λp=>∃ pos:Nat,p=((s,(a:Int),(),()),((t,pos),()))/\(pos=0\/pos=(Lib.decodeL t).2)) (μ:=λp=>t.length-p.2.1.2) (Q:=λr=>(r=.inl ((s,(a:Int),()),())/\(Lib.decodeL t).2=t.length)\/r=.inr ((((Lib.decodeL t).2:Int),()),()))
  (step:=λp hp=>by
   obtain ⟨pos,rfl,h⟩:=hp;rcases h with rfl | rfl
   ·have hlt:0<t.length:=by omega
    refine .inl ⟨((s,(a:Int),(),()),((t,0+(Utf8.decode ⟨t.toArray⟩ 0).2),())),?_,⟨_,rfl,.inr (Nat.zero_add _)⟩,?_⟩
    ·have:decide ((0:Int)<((0:Nat):Int))=false:=rfl;simp only [B125_0,zm hlt,zI,zK,this]
    ·show t.length-(0+(Lib.decodeL t).2)<t.length-0;omega
   ·by_cases hlt:(Lib.decodeL t).2<t.length
    ·refine .inr ⟨_,?_,.inr rfl⟩;have:decide ((0:Int)<((Lib.decodeL t).2:Int))=true:=zm (by omega);simp only [B125_0,zm hlt,zI,this]
    ·refine .inr ⟨.inl ((s,(a:Int),()),()),?_,.inl ⟨rfl,by omega⟩⟩
     simp only [B125_0,yv hlt,zK])
  (p:=((s,(a:Int),(),()),((t,0),()))) ⟨0,rfl,.inl rfl⟩ (by
   have:=zR
   show t.length-0<xk
   omega)
 have h1':L125_0 ((s,(a:Int),(),()),((t,0),()))=some r:=h1;simp only [h1',zE];rcases h2 with ⟨rfl,g⟩ | rfl
 ·have w:zh ((s.length:Int)-(a:Int))=((Lib.decodeL t).2:Int):=by
   rw [zV (by omega) (by omega)];omega
  show some (zh ((s.length:Int)-(a:Int)),())=_;rw [w]
 ·rfl
def pln (c w:Nat):Bool:=((decide ((32:Int)<=(c:Int)))&&(!(decide ((c:Int)=(127:Int)))))&&((!(decide ((c:Int)=(65533:Int))))||(decide ((w:Int)=(3:Int))))
theorem F124_eq (c n:Nat):F124 (((c:Int),(n:Int),()),())=some (pln c n,()):=rfl
theorem width_calls (s:ByteArray) (a:Nat) (hs:s.size<=1100000) (ha:a<s.size) (w:World) (ht:(zJ Go.Proofs.Tryz.prog).tab w) :
  Calls Go.Proofs.Tryz.prog 125 #[.string s,.int .i64 a] w λe w'=>e=.returned (.int .i64 ((Lib.decodeL (s.data.toList.drop a)).2:Int))/\RowKit.Below w.heap.size w w':=by
 have hl:s.data.toList.length=s.size:=(Lib.size_eq s).symm;exact toldI ok125 (F125_eq s.data.toList a (by omega) (by omega)) ht ⟨_,_,rfl,rfl,_,_,rfl,rfl,rfl⟩
theorem plain_calls (c n:Nat) (w:World) (ht:(zJ Go.Proofs.Tryz.prog).tab w) :
  Calls Go.Proofs.Tryz.prog 124 #[.int .i32 c,.int .i64 n] w λe w'=>e=.returned (.bool (pln c n))/\RowKit.Below w.heap.size w w' :=
 toldB ok124 (F124_eq c n) ht ⟨_,_,rfl,rfl,_,_,rfl,rfl,rfl⟩
end Go.Qw
namespace Go.Qw
open Go Go.Ev
set_option maxRecDepth 100000
def quoF:Nat->List UInt8->Nat->List UInt8->List UInt8×Int×Int
 | 0,_,_,out=>(out++[34],0,0)
 | k+1,r,place,out =>
  if r=[] then (out++[34],0,0)
  else if pln (Lib.decodeL r).1 (Lib.decodeL r).2=true then
   quoF k (r.drop (Lib.decodeL r).2) (place+1) ((if (Lib.decodeL r).1=34\/(Lib.decodeL r).1=92 then out++[92] else out)++Lib.encodeRune ((Lib.decodeL r).1:Int))
  else ([],(place:Int),4)
def quo (s:List UInt8):List UInt8×Int×Int:=if 1024<s.length then ([],0,6) else quoF s.length s 0 [34]
def vals3 (a:List UInt8×Int×Int):Value:=.tuple #[.string ⟨a.1.toArray⟩,.int .i64 a.2.1,.int .i64 a.2.2]
end Go.Qw
namespace Go.Proofs
open Go.RowKit Go.Ev Go.Qw Go.Lib
theorem builderBelow {T e:TypeId} {B b:Nat} {p:Value} {bs:List Value} {W W':World} (h:Lib.BuilderAtF T e B b p bs W) (hb:Below W.heap.size W W'):Lib.BuilderAtF T e B b p bs W':=by
 have hlt:=h.lt;obtain ⟨hB,v,hv,hown,hne⟩:=h;exact ⟨hB,v,(hb.block b hlt).trans hv,hown.kept (row:=none) ⟨hb.os,hb.tape,hb.output,hb.size,λk hk _=>hb.block k hk⟩ (Classical.em _),hne⟩
theorem cWB (B:Nat) (bs:List Value) (c:Int) (W:World) (h:Lib.IsBuilderF 159 5 B B bs W) (hl:bs.length+1<=140737488355328) (hB:B<=W.heap.size) :
  Calls Tryz.prog 123 #[.pointer (some ⟨B,0,none⟩),.int .u8 c] W λe w'=>e=.returned .nilIface/\(Lib.BuilderAtF 159 5 B B (.pointer (some ⟨B,0,none⟩)) (bs++[.int .u8 c]) w'/\Below B W w'/\Lib.OthersKept 5 (some B) W w') :=
 Any.Builder_WriteByte_k Tryz.lays167 Tryz.bX167 B B bs c W h hl hB
theorem cWR (B:Nat) (bs:List Value) (r:Int) (h0:-2147483648<=r) (h1:r<=2147483647) (W:World) (h:Lib.IsBuilderF 159 5 B B bs W) (hl:bs.length+4<=140737488355328) (hB:B<=W.heap.size) :
  Calls Tryz.prog 126 #[.pointer (some ⟨B,0,none⟩),.int .i32 r] W λe w'=>e=.returned (.tuple #[.int .i64 (Lib.runeCells r).length,.nilIface])/\(Lib.BuilderAtF 159 5 B B (.pointer (some ⟨B,0,none⟩)) (bs++Lib.runeCells r) w'/\Below B W w'/\Lib.OthersKept 5 (some B) W w') :=
 Any.Builder_WriteRune_k Tryz.lays168 Tryz.bX168 B B bs r h0 h1 W h hl hB
theorem cST (B:Nat) (l:List UInt8) (W:World) (h:Lib.IsBuilderF 159 5 B B (Lib.byteCells l) W) (hB:B<=W.heap.size) :
  Calls Tryz.prog 127 #[.pointer (some ⟨B,0,none⟩)] W λe w'=>e=.returned (.string ⟨l.toArray⟩)/\(Lib.IsBuilderF 159 5 B B (Lib.byteCells l) w'/\Below B W w'/\Lib.OthersKept 5 (some B) W w') :=
 Any.Builder_String_any_k Tryz.lays169 Tryz.bX169 B B l W h hB
set_option maxHeartbeats 40000000 in
set_option maxRecDepth 1000000 in
theorem quote_walk (s:ByteArray) (w:World) (ht:(zJ Tryz.prog).tab w) :
  Calls Tryz.prog 89 #[.string s] w λe w'=>e=.returned (vals3 (quo s.data.toList))/\Below w.heap.size w w':=by
 have hlen:s.data.toList.length=s.size:=(Lib.size_eq s).symm;obtain ⟨ANS,hANS⟩:∃ A,quo s.data.toList=A:=⟨_,rfl⟩;rw [hANS];unfold quo at hANS;rw [hlen] at hANS;by_cases hbig:1024<s.size
 ·rw [if_pos hbig] at hANS;subst hANS;have hbz:(1024:Int)<(s.size:Int):=by omega
  go_enter Tryz.func89,Tryz.ntmps89
  go_wp2
  go_ret3
  exact ⟨rfl,Below.refl _ _⟩
 ·rw [if_neg hbig] at hANS;have hbz:¬ (1024:Int)<(s.size:Int):=by omega
  go_enter Tryz.func89,Tryz.ntmps89
  go_wp2_with (go_at_call 123;go_must (refine (cWB _ [] 34 _ (Lib.IsBuilderF.of (Lib.fresh_isBuilder 159 5 w)) (by simp) (by simp)).mono ?_;rintro e W1 ⟨rfl,hb1,bw1,ok1⟩))
  have hsz1:w.heap.size+1<=W1.heap.size:=by have:=bw1.size;simpa using this
  have hbw1:Below w.heap.size w W1:=((Below.refl _ w).alloc (Nat.le_refl _) _).trans bw1
  go_loopg [6] s.size (λgk s6 wx=>∃ (pos place:Nat) (out:List UInt8),s6=.int .i64 place/\Lib.BuilderAtF 159 5 w.heap.size w.heap.size (.pointer (some ⟨w.heap.size,0,none⟩)) (Lib.byteCells out) wx/\wx.heap[W1.heap.size]?=some (.stringIter s pos)/\Below w.heap.size w wx /\
   quoF gk (s.data.toList.drop pos) place out=ANS/\s.size<=pos+gk/\pos<=s.size/\place<=pos/\out.length<=1+5*pos)
  case atStart =>
   refine ⟨0,0,[34],rfl,?_,?_,?_,hANS,by omega,by omega,Nat.le_refl _,by simp⟩
   ·exact hb1.alloc _
   ·have:=World.iter_heap W1 s 0
    simpa using this
   ·exact hbw1.alloc (by omega) _
  case round =>
   obtain ⟨pos,place,out,rfl,hI,hit,hbw,hq,hfu,hps,hpl,hout⟩:=hrel;have hszr:W1.heap.size<wr.heap.size:=(Array.getElem?_eq_some_iff.1 hit).1;by_cases hlt:pos<s.size
   ·obtain ⟨g',rfl⟩:∃ g',gk=g'+1:=⟨gk-1,by omega⟩;have hnx:∀ ty,(Instr.next (.pointer (some ⟨W1.heap.size,0,none⟩)) true ty).run Tryz.prog wr=_:=λty=>Lib.run_next_any_at wr W1.heap.size s pos ty hit hlt
    have hne:s.data.toList.drop pos≠[]:=λh0=>by
     have:=congrArg List.length h0
     rw [sG,hlen] at this;simp at this;omega
    have hdL:Lib.decodeL (s.data.toList.drop pos)=Utf8.decode s pos:=Lib.decodeL_drop s pos;have hwd:=Lib.width_pos s pos
    have hwn:pos+(Utf8.decode s pos).2<=s.size:=by
     have:=Lib.decodeL_le _ hne
     rw [hdL,sG,hlen] at this;omega
    have hrl:=Lib.rune_le s pos;rw [quoF,if_neg hne,hdL] at hq;have hwid:=width_calls s pos (by omega) hlt;rw [hdL] at hwid;obtain ⟨R,hR⟩:∃ R,(Utf8.decode s pos).1=R:=⟨_,rfl⟩;obtain ⟨N,hN⟩:∃ N,(Utf8.decode s pos).2=N:=⟨_,rfl⟩;rw [hR,hN] at hq hnx;rw [hN] at hwd hwn hwid;rw [hR] at hrl;rw [List.drop_drop] at hq;have hI2:=hI.iterAt hit (pos+N);have hit2:=Lib.iterAt_heap wr W1.heap.size s pos (pos+N) hit;have hbw2:=Lib.below_iterAt hbw (k:=W1.heap.size) (by omega) s (pos+N);have hszi:(wr.iterAt W1.heap.size s (pos+N)).heap.size=wr.heap.size:=Lib.iterAt_size _ _ _ _;obtain ⟨W,hW⟩:∃ W,wr.iterAt W1.heap.size s (pos+N)=W:=⟨_,rfl⟩;rw [hW] at hnx hI2 hit2 hbw2 hszi;have htW:(zJ Tryz.prog).tab W:=tab_below ht hbw2
    go_wp2_with (go_at_call 125;go_must (refine (hwid W htW).mono ?_;rintro e W3 ⟨rfl,b3⟩))
    refine (plain_calls R N W3 (tab_below htW b3)).mono ?_;rintro e W4 ⟨rfl,b4⟩;have b34:Below W.heap.size W W4:=b3.trans (b4.mono b3.size);have hI4:=builderBelow hI2 b34;have hit4:W4.heap[W1.heap.size]?=some (.stringIter s (pos+N)):=(b34.block W1.heap.size (by omega)).trans hit2;have hbw4:Below w.heap.size w W4:=hbw2.trans (b34.mono (by omega));have hsz4:w.heap.size<=W4.heap.size:=by have:=hbw4.size;omega
    clear b3 b34 hI2 hit2 hbw2 hnx hwid hI hit hbw hW hdL hszi htW hszr hne hR hN hb1 ok1;obtain ⟨pl,hpl'⟩:∃ x,pln R N=x:=⟨_,rfl⟩;rw [hpl'] at hq ⊢
    cases pl
    ·rw [if_neg (by decide)] at hq;subst hq
     go_wp2
     go_ret3
     exact ⟨rfl,hbw4⟩
    ·rw [if_pos rfl] at hq;by_cases h34:R=34
     ·have e34:((R:Int) == 34)=true:=by simp [h34]
      have e34z:(R:Int)=34:=by omega
      go_wp2_with (go_at_call 123;go_must (refine (cWB _ (Lib.byteCells out) 92 W4 (.inr hI4) (by rw [Lib.byteCells_length];omega) hsz4).mono ?_;rintro e W5 ⟨rfl,hI5,b5,k5⟩))
      have hit5:=k5.iter hit4 (by omega);have hbw5:Below w.heap.size w W5:=hbw4.trans b5;have hsz5:w.heap.size<=W5.heap.size:=by have:=hbw5.size;omega
      have hE:Lib.byteCells out++[Value.int .u8 92]=Lib.byteCells (out++[92]):=by rw [Lib.byteCells_append];rfl
      rw [hE] at hI5;clear k5 b5 hI4 hit4 hbw4
      go_wp2_with (go_at_call 126;go_must (refine (cWR _ (Lib.byteCells (out++[92])) 34 (by decide) (by decide) W5 (.inr hI5) (by rw [Lib.byteCells_length];simp;omega) hsz5).mono ?_;rintro e W6 ⟨rfl,hI6,b6,k6⟩))
      have hit6:=k6.iter hit5 (by omega);have hE6:Lib.byteCells (out++[92])++Lib.runeCells (34:Int)=Lib.byteCells (out++[92]++Lib.encodeRune (R:Int)):=by rw [e34z];rw [Lib.byteCells_append (out++[92]),Lib.byteCells_encodeRune]
      rw [hE6] at hI6;have hl4:=Lib.runeCells_le (R:Int);rw [Lib.runeCells_length] at hl4
      go_roundg g'
      case measure=>omega
      case rel=>exact ⟨pos+N,place+1,out++[92]++Lib.encodeRune (R:Int),by simp,hI6,hit6,hbw5.trans b6,by rw [if_pos (by omega)] at hq;exact hq,by omega,hwn,by omega,by simp;omega⟩
     ·have e34:((R:Int) == 34)=false:=by simp;omega
      have e34z:¬ (R:Int)=34:=by omega
      by_cases h92:R=92
      ·have e92:((R:Int) == 92)=true:=by simp [h92]
       have e92z:(R:Int)=92:=by omega
       go_wp2_with (go_at_call 123;go_must (refine (cWB _ (Lib.byteCells out) 92 W4 (.inr hI4) (by rw [Lib.byteCells_length];omega) hsz4).mono ?_;rintro e W5 ⟨rfl,hI5,b5,k5⟩))
       have hit5:=k5.iter hit4 (by omega);have hbw5:Below w.heap.size w W5:=hbw4.trans b5;have hsz5:w.heap.size<=W5.heap.size:=by have:=hbw5.size;omega
       have hE:Lib.byteCells out++[Value.int .u8 92]=Lib.byteCells (out++[92]):=by rw [Lib.byteCells_append];rfl
       rw [hE] at hI5;clear k5 b5 hI4 hit4 hbw4
       go_wp2_with (go_at_call 126;go_must (refine (cWR _ (Lib.byteCells (out++[92])) 92 (by decide) (by decide) W5 (.inr hI5) (by rw [Lib.byteCells_length];simp;omega) hsz5).mono ?_;rintro e W6 ⟨rfl,hI6,b6,k6⟩))
       have hit6:=k6.iter hit5 (by omega);have hE6:Lib.byteCells (out++[92])++Lib.runeCells (92:Int)=Lib.byteCells (out++[92]++Lib.encodeRune (R:Int)):=by rw [e92z];rw [Lib.byteCells_append (out++[92]),Lib.byteCells_encodeRune]
       rw [hE6] at hI6;have hl4:=Lib.runeCells_le (R:Int);rw [Lib.runeCells_length] at hl4
       go_roundg g'
       case measure=>omega
       case rel=>exact ⟨pos+N,place+1,out++[92]++Lib.encodeRune (R:Int),by simp,hI6,hit6,hbw5.trans b6,by rw [if_pos (by omega)] at hq;exact hq,by omega,hwn,by omega,by simp;omega⟩
      ·have e92:((R:Int) == 92)=false:=by simp;omega
       have e92z:¬ (R:Int)=92:=by omega
       go_wp2_with (go_at_call 126;go_must (refine (cWR _ (Lib.byteCells out) R (by omega) (by omega) W4 (.inr hI4) (by rw [Lib.byteCells_length];omega) hsz4).mono ?_;rintro e W6 ⟨rfl,hI6,b6,k6⟩))
       have hit6:=k6.iter hit4 (by omega);have hE6:Lib.byteCells out++Lib.runeCells (R:Int)=Lib.byteCells (out++Lib.encodeRune (R:Int)):=by rw [Lib.byteCells_append,Lib.byteCells_encodeRune]
       rw [hE6] at hI6;have hl4:=Lib.runeCells_le (R:Int);rw [Lib.runeCells_length] at hl4
       go_roundg g'
       case measure=>omega
       case rel=>exact ⟨pos+N,place+1,out++Lib.encodeRune (R:Int),by simp,hI6,hit6,hbw4.trans b6,by rw [if_neg (by omega)] at hq;exact hq,by omega,hwn,by omega,by simp;omega⟩
   ·have hend:pos=s.size:=by omega
    subst hend;have hnx:∀ ty,(Instr.next (.pointer (some ⟨W1.heap.size,0,none⟩)) true ty).run Tryz.prog wr=_:=λty=>Lib.run_next_end_at wr W1.heap.size s s.size ty hit hlt
    have hq':(out++[34],0,0)=ANS:=by
     rw [List.drop_eq_nil_of_le (by omega)] at hq;rw [<- hq]
     cases gk <;> simp [quoF]
    subst hq';have hsz0:w.heap.size<=wr.heap.size:=by have:=hbw.size;omega
    go_wp2_with (go_at_call 123;go_must (refine (cWB _ (Lib.byteCells out) 34 wr (.inr hI) (by rw [Lib.byteCells_length];omega) hsz0).mono ?_;rintro e W5 ⟨rfl,hI5,b5,k5⟩))
    have hE:Lib.byteCells out++[Value.int .u8 34]=Lib.byteCells (out++[34]):=by rw [Lib.byteCells_append];rfl
    rw [hE] at hI5;have hbw5:Below w.heap.size w W5:=hbw.trans b5;have hsz5:w.heap.size<=W5.heap.size:=by have:=hbw5.size;omega
    go_wp2_with (go_at_call 127;go_must (refine (cST _ (out++[34]) _ (.inr hI5) hsz5).mono ?_;rintro e W6 ⟨rfl,hI6,b6,k6⟩))
    go_ret3
    exact ⟨rfl,hbw5.trans b6⟩
end Go.Proofs
namespace Go.Qw
open Go Go.Ev
def pQuote:Pvs
 | [.s l]=>some (true,.tup [.s (quo l).1,.i .i64 (quo l).2.1,.i .i64 (quo l).2.2])
 | _=>none
theorem zQuote89:ZOK Go.Proofs.Tryz.prog 89 (zPv pQuote):=by
 refine zPv_ok ⟨Go.Proofs.Tryz.call89,λargs v h w N μ H vals ht hr=>?_⟩;unfold pQuote at h;split at h
 ·rename_i l;simp only [y5,Prod.mk.injEq,true_and] at h;subst h;simp only [zC,zA] at hr;obtain ⟨_,_,rfl,rfl,rfl⟩:=hr;refine (Go.Proofs.quote_walk ⟨l.toArray⟩ w ht).mono λe w' ⟨he,bel⟩=>⟨_,he,λw1 N1 μ1 H1=>?_,bel⟩
  simp only [zA,zC,vals3];exact ⟨_,rfl,_,_,rfl,rfl,_,_,rfl,rfl,_,_,rfl,rfl,rfl⟩
 ·cases h
end Go.Qw
namespace Go.Ev
open Go Go.Proofs
theorem tq {T:Tb} {F:Frm T} {μ:Nat->Option Nat} {H:Nat->Blk} {nx:Nat} {w w':World} (hp:Hp F μ H nx w) (hb:Go.RowKit.Below w.heap.size w w') {g':Option Nat} {B:Blk} (hB:B≠.dead) (hg:∀ g,g'=some g->w.heap.size<=g/\g<w'.heap.size) (hmk:unm B=true->∀ g,g'=some g->NoMark w' g) (hwf:∀ g,g'=some g->Wfm w' g) :
  Turned F μ H nx w [] nx g' B (nx+1) w' where
 hp:=hp
 os:=hb.os
 tape:=hb.tape
 output:=hb.output
 size:=hb.size
 keep:=λg hg _=>hb.block g hg
 at_:=λg h=>.inr (hg g h)
 mono:=Nat.le_succ _
 lt:=Nat.lt_succ_self _
 live:=hB
 kind:=λh=>absurd h (Nat.lt_irrefl _)
 mark:=hmk
 wfm:=hwf
 self:=λ_ h=>absurd (hp.dead nx (Nat.le_refl _)) h
theorem new_dataN {P:Program} {F:Frm (zJ P)} {μ:Nat->Option Nat} {S:St} {w w':World} {gb c:Nat} {t:Ty} {l:List t.den} (hp:Hp F μ S.H S.nx w) (hb:Go.RowKit.Below w.heap.size w w') (hg:w.heap.size<=gb) (hg':gb<w'.heap.size) (hcl:l.length<=c) (hroom:room w' gb (c*t.size)) (hmk:decide (t≠.u8)=true->NoMark w' gb) (hwf:Wfm w' gb)
  (hrow:∀ i (h:i<l.length),∃ es:List Value,es.length=t.size/\rowAt w' gb (i*t.size) es/\RelD w' (Not F (xD μ S.nx (some gb)) (zp S.H S.nx (.data t l))) t l[i] es) :
  ∃ μ' kl,(⟨S.E,zp S.H S.nx (.data t l),S.nx+1,S.kl⟩:St).E=yL kl S.E/\(⟨S.E,zp S.H S.nx (.data t l),S.nx+1,S.kl⟩:St).kl=S.kl++kl/\Hp F μ' (zp S.H S.nx (.data t l)) (S.nx+1) w'/\Pl F μ S.H S.nx w kl μ' (zp S.H S.nx (.data t l)) (S.nx+1) w'/\zA w' (Not F μ' (zp S.H S.nx (.data t l))) μ' (zp S.H S.nx (.data t l)) (.wh S.nx) (.slice (some ⟨gb,0,none⟩) l.length c):=by
 have T:=tq hp hb (g':=some gb) (B:=.data t l) (by simp) (λg h=>by cases h;exact ⟨hg,hg'⟩) (λhu g h=>by cases h;exact hmk hu) (λg h=>by cases h;exact hwf);refine ⟨xD μ S.nx (some gb),[],rfl,by simp,T.hp' ?_,T.pl,?_⟩
 ·simp only [za];exact .inr ⟨gb,zN _ _ _,λk hk=>hroom k (Nat.lt_of_lt_of_le hk (uf _ hcl)),λi hi=>hrow i hi⟩
 ·simp only [zA];exact ⟨t,l,zf _ _ _,.inl ⟨gb,c,zN _ _ _,rfl,hcl,hroom⟩⟩
theorem new_nilN {P:Program} {F:Frm (zJ P)} {μ:Nat->Option Nat} {S:St} {w w':World} {t:Ty} (hp:Hp F μ S.H S.nx w) (hb:Go.RowKit.Below w.heap.size w w') :
  ∃ μ' kl,(⟨S.E,zp S.H S.nx (.data t []),S.nx+1,S.kl⟩:St).E=yL kl S.E/\(⟨S.E,zp S.H S.nx (.data t []),S.nx+1,S.kl⟩:St).kl=S.kl++kl/\Hp F μ' (zp S.H S.nx (.data t [])) (S.nx+1) w'/\Pl F μ S.H S.nx w kl μ' (zp S.H S.nx (.data t [])) (S.nx+1) w'/\zA w' (Not F μ' (zp S.H S.nx (.data t []))) μ' (zp S.H S.nx (.data t [])) (.wh S.nx) (.slice none 0 0):=by
 have T:=tq hp hb (g':=none) (B:=.data t []) (by simp) (λg h=>by cases h) (λ_ g h=>by cases h) (λg h=>by cases h);refine ⟨xD μ S.nx none,[],rfl,by simp,T.hp' ?_,T.pl,?_⟩
 ·simp only [za];exact .inl ⟨zN _ _ _,trivial⟩
 ·simp only [zA];exact ⟨t,[],zf _ _ _,.inr ⟨zN _ _ _,rfl,trivial⟩⟩
end Go.Ev
namespace Go.Ev
open Go Go.Proofs Go.RowKit
set_option maxRecDepth 100000
def zClone:xV:=λargs S=>match args with
 | [.mp m]=>match S.H m with
  | .mapd kt vt ag l=>some (true,.mp S.nx,⟨S.E,zp S.H S.nx (.mapd kt vt ag l),S.nx+1,S.kl⟩)
  | _=>none
 | [.fz (.mp kt vt ag) l]=>some (true,.mp S.nx,⟨S.E,zp S.H S.nx (.mapd kt vt ag l),S.nx+1,S.kl⟩)
 | _=>none
theorem zClone_ok {P:Program} {f:FuncId} (hen:Go.Ev.Enters P f)
  (hc:∀ (w:World) (b:Nat) (es:Array MapEntry) (clock:Nat),w.heap[b]?=some (.map es clock)->Calls P f #[.map (some b)] w λe w'=>e=.returned (.map (some w.heap.size))/\w'=w.alloc (.map es clock)):ZOK P f zClone:=by
 refine ⟨hen,λargs S v S' h F μ w vals hp hr=>?_⟩;unfold zClone at h;split at h
 ·rename_i m;split at h
  ·rename_i kt vt ag l hm;rw [y5,Prod.mk.injEq,Prod.mk.injEq] at h;obtain ⟨_,rfl,rfl⟩:=h;simp only [zC,zA] at hr;obtain ⟨v1,_,rfl,⟨hml,gm,hgm,rfl⟩,rfl⟩:=hr;have hM:=hp.blk m;simp only [hm,za] at hM;rcases hM with hM | ⟨gm',es,c,hgm',hh,hst,hrel⟩
   ·rw [hgm] at hM;cases hM
   rw [hgm] at hgm'
   cases hgm';refine (hc w gm es c hh).mono λe w' ⟨he,hw⟩=>?_
   subst hw;have hbl:Go.RowKit.Below w.heap.size w (w.alloc (.map es c)):=(Below.refl _ w).alloc (Nat.le_refl _) _;have T:=tq hp hbl (g':=some w.heap.size) (B:=.mapd kt vt ag l) (by simp) (λg h=>by cases h;exact ⟨Nat.le_refl _,by simp⟩) (λh=>by cases h) (λg h c e m hc=>by cases h;rw [World.alloc_heap_new] at hc;cases hc);refine ⟨xD μ S.nx (some w.heap.size),[],_,he,rfl,by simp,T.hp' ?_,T.pl,?_⟩
   ·simp only [za];refine .inr ⟨w.heap.size,es,c,zN _ _ _,World.alloc_heap_new w _,hst,?_⟩;exact hrel.keep T.keepN T.notN
   ·simp only [zA];exact ⟨by simp [zf],_,zN _ _ _,rfl⟩
  ·cases h
 ·rename_i kt vt ag l;rw [y5,Prod.mk.injEq,Prod.mk.injEq] at h;obtain ⟨_,rfl,rfl⟩:=h;simp only [zC,zA,RelD] at hr;obtain ⟨v1,_,rfl,⟨⟨a,he,gm,es,c,rfl,_,_,hh,hst,hrel⟩,_⟩,rfl⟩:=hr
  cases he;have hrel:RelM w (Not F μ S.H) kt vt ag l es.toList:=hrel;refine (hc w gm es c hh).mono λe w' ⟨he,hw⟩=>?_
  subst hw;have hbl:Go.RowKit.Below w.heap.size w (w.alloc (.map es c)):=(Below.refl _ w).alloc (Nat.le_refl _) _;have T:=tq hp hbl (g':=some w.heap.size) (B:=.mapd kt vt ag l) (by simp) (λg h=>by cases h;exact ⟨Nat.le_refl _,by simp⟩) (λh=>by cases h) (λg h c e m hc=>by cases h;rw [World.alloc_heap_new] at hc;cases hc);refine ⟨xD μ S.nx (some w.heap.size),[],_,he,rfl,by simp,T.hp' ?_,T.pl,?_⟩
  ·simp only [za];refine .inr ⟨w.heap.size,es,c,zN _ _ _,World.alloc_heap_new w _,hst,?_⟩;exact hrel.keep T.keepN T.notN
  ·simp only [zA];exact ⟨by simp [zf],_,zN _ _ _,rfl⟩
 ·cases h
def pCompare:Pvs
 | [.s l,.s c]=>some (true,.i .i64 (Lib.compareBytes l c))
 | _=>none
theorem pCompare_ok {P:Program} {f:FuncId} (hen:Go.Ev.Enters P f)
  (hc:∀ (s c:ByteArray) (w:World),Calls P f #[.string s,.string c] w λe w'=>e=.returned (.int .i64 (Lib.compareBytes s.data.toList c.data.toList))/\w'=w):ZOK P f (zPv pCompare):=by
 refine zPv_ok ⟨hen,λargs v h w N μ H vals ht hr=>?_⟩;unfold pCompare at h;split at h
 ·rename_i l c;simp only [y5,Prod.mk.injEq,true_and] at h;subst h;simp only [zC,zA] at hr;obtain ⟨_,_,rfl,rfl,_,_,rfl,rfl,rfl⟩:=hr;refine (hc ⟨l.toArray⟩ ⟨c.toArray⟩ w).mono λe w' ⟨he,hw⟩=>⟨_,he,λw1 N1 μ1 H1=>?_,hw ▸ RowKit.Below.refl _ _⟩
  simp [zA]
 ·cases h
def insOK {α:Type} (l:List α) (i:Int) (vs:List α):Bool:=decide (0<=i)&&decide (i<=(l.length:Int))&&decide (l.length+vs.length<=1000000)
def tX {α:Type} (l:List α) (i:Int) (vs:List α):List α:=l.take i.toNat++vs++l.drop i.toNat
def delOK {α:Type} (l:List α) (i j:Int):Bool:=decide (0<=i)&&decide (i<=j)&&decide (j<=(l.length:Int))&&decide (l.length<=1000000)
def delL {α:Type} (l:List α) (i j:Int):List α:=l.take i.toNat++l.drop j.toNat
def zInsert (y:Ty):xV:=λargs S=>match args with
 | [.wh b,.i .i64 n,.wh c]=>match S.H b,S.H c with
  | .data t l,.data t' vs=>if h:t=y/\t'=y then
    some ((!(Nat.beq b c))&&decide (vs.length=1)&&insOK (h.1 ▸ l:List y.den) n (h.2 ▸ vs:List y.den),.wh b,⟨yL [b] S.E,zp (zv [b] S.H) b (.data y (tX (h.1 ▸ l:List y.den) n (h.2 ▸ vs:List y.den))),S.nx,S.kl++[b]⟩) else none
  | _,_=>none
 | _=>none
def zDelete (y:Ty):xV:=λargs S=>match args with
 | [.wh b,.i .i64 n,.i .i64 m]=>match S.H b with
  | .data t l=>if h:t=y then some (delOK (h ▸ l:List y.den) n m,.wh b,⟨yL [b] S.E,zp (zv [b] S.H) b (.data y (delL (h ▸ l:List y.den) n m)),S.nx,S.kl++[b]⟩) else none
  | _=>none
 | _=>none
def RowPost (size:Nat) (w:World) (base:Option Nat) (n:Nat) (cs:List Value) (e:Ending) (w':World):Prop :=
 ∃ g' c',e=.returned (.slice (some ⟨g',0,none⟩) n c')/\n<=c'/\room w' g' (c'*size)/\rowAt w' g' 0 cs/\(base=some g'\/(w.heap.size<=g'/\g'<w'.heap.size))/\w'.os=w.os/\w'.tape=w.tape/\w'.output=w.output/\w.heap.size<=w'.heap.size /\
  (∀ k,k<w.heap.size->base≠some k->w'.heap[k]?=w.heap[k]?)/\NoMark w' g'
theorem one_cells {w:World} {N:NN} {y:Ty} {l:List y.den} {cs:List Value} (hl:cs.length=l.length*y.size) (rel:∀ i,(h:i<l.length)->RelD w N y l[i] ((cs.drop (i*y.size)).take y.size)):∀ v∈cs,v.oneCell'=true:=by
 intro v hv;obtain ⟨j,hj⟩:=List.getElem?_of_mem hv;obtain ⟨hjl,hjv⟩:=List.getElem?_eq_some_iff.1 hj
 have hpos:0<y.size:=by
  rcases Nat.eq_zero_or_pos y.size with h0 | h0
  ·rw [hl,h0] at hjl;simp at hjl
  ·exact h0
 have hq:j/y.size<l.length:=by rw [Nat.div_lt_iff_lt_mul hpos];omega
 have hrel:=ya (μ:=λ_=>none) (H:=λ_=>.dead) (rel (j/y.size) hq);have hok:(x5 y l[j/y.size]).all okCell=true:=sP _ _;refine vX hrel hok v ?_;have hmod:=Nat.mod_lt j hpos;have hdm:=Nat.div_add_mod j y.size
 have:((cs.drop (j/y.size*y.size)).take y.size)[j % y.size]?=some v:=by
  rw [List.getElem?_take_of_lt hmod,List.getElem?_drop,Nat.mul_comm,hdm];exact hj
 exact List.mem_of_getElem? this
theorem cells_of {T:Tb} {F:Frm T} {μ:Nat->Option Nat} {H:Nat->Blk} {nx:Nat} {w:World} (hp:Hp F μ H nx w) {b g:Nat} {y:Ty} {l:List y.den} (hb:H b=.data y l) (hm:μ b=some g) :
  ∃ cs:List Value,cs.length=l.length*y.size/\rowAt w g 0 cs/\∀ i,(h:i<l.length)->RelD w (Not F μ H) y l[i] ((cs.drop (i*y.size)).take y.size):=by
 have hB:=hp.blk b;simp only [hb,za] at hB;rcases hB with ⟨hn,_⟩ | ⟨g',hm',_,hrows⟩
 ·rw [hm] at hn;cases hn
 ·rw [hm] at hm'
  cases hm';exact rows_flat l 0 (by simpa using hrows)
theorem drop_take_app {α:Type} (a b:List α) (k s:Nat) (h:k+s<=a.length):((a++b).drop k).take s=(a.drop k).take s:=by
 rw [List.drop_append_of_le_length (by omega),List.take_append_of_le_length (by simp<;>omega)]
theorem uR {α:Type} (a b:List α) (k:Nat) (h:a.length<=k):(a++b).drop k=b.drop (k-a.length):=by
 rw [List.drop_append,List.drop_of_length_le h,List.nil_append]
theorem row_end {P:Program} {F:Frm (zJ P)} {μ:Nat->Option Nat} {S:St} {w w':World} {e:Ending} {b:Nat} {y:Ty} {l0 L:List y.den} {cs:List Value} (hp:Hp F μ S.H S.nx w) (hb:S.H b=.data y l0)
    (h:RowPost y.size w (μ b) L.length cs e w') (hcl:cs.length=L.length*y.size) (hrel:∀ i,(h:i<L.length)->RelD w (Not F μ S.H) y L[i] ((cs.drop (i*y.size)).take y.size)) :
    ∃ μ' kl val,e=.returned val/\(⟨yL [b] S.E,zp (zv [b] S.H) b (.data y L),S.nx,S.kl++[b]⟩:St).E=yL kl S.E/\(⟨yL [b] S.E,zp (zv [b] S.H) b (.data y L),S.nx,S.kl++[b]⟩:St).kl=S.kl++kl /\
      Hp F μ' (zp (zv [b] S.H) b (.data y L)) S.nx w'/\Pl F μ S.H S.nx w kl μ' (zp (zv [b] S.H) b (.data y L)) S.nx w'/\zA w' (Not F μ' (zp (zv [b] S.H) b (.data y L))) μ' (zp (zv [b] S.H) b (.data y L)) (.wh b) val:=by
  obtain ⟨g',c',he,hc,hroom,hrow,hat,hos,htape,hout,hsz,hkeep,hmk⟩:=h;have hl:S.H b≠.dead:=by rw [hb];simp
  have T:Turned F μ S.H S.nx w [b] b (some g') (.data y L) S.nx w' :=
    { hp:=hp,os:=hos,tape:=htape,output:=hout,size:=hsz,live:=by simp,mono:=Nat.le_refl _
      keep:=λk hk hne=>hkeep k hk (hne hl)
      at_:=λk hk=>by
        cases hk;rcases hat with h | h
        . exact .inl ⟨hl,h⟩
        . exact .inr h
      lt:=by
        rcases Nat.lt_or_ge b S.nx with h | h
        . exact h
        . exact absurd (hp.dead b h) hl
      kind:=λ_=>Pin.zero rfl
      mark:=λ_ k hk=>by cases hk;exact hmk
      wfm:=λk hk=>by cases hk;exact hmk.wfm
      self:=λhk _=>by simp [zS] at hk }
  refine ⟨xD μ b (some g'),[b],_,he,rfl,rfl,T.hp' ?_,T.pl,?_⟩
  . simp only [za];refine .inr ⟨g',zN _ _ _,λk hk=>hroom k (Nat.lt_of_lt_of_le hk (uf _ hc)),rows_new hrow λi hi=>⟨?_,(hrel i hi).keep T.keepN T.notN⟩⟩;rw [hcl,<- Nat.succ_mul];exact uf _ hi
  . simp only [zA];exact ⟨y,L,zf _ _ _,.inl ⟨g',c',zN _ _ _,rfl,hc,hroom⟩⟩
theorem zInsert_ok {P:Program} {f:FuncId} (y:Ty) (hy:decide (y≠.u8)=true) (hen:Go.Ev.Enters P f)
  (hc:∀ (base:Option Nat) (n c i vb vc:Nat) (cs vs:List Value) (w:World),(base=none->n=0/\c=0)->i<=n->n+1<=1000000->n<=c->1<=vc->cs.length=n*y.size->vs.length=y.size->(∀ v∈cs,v.oneCell'=true)->(∀ v∈vs,v.oneCell'=true) ->
   (∀ g,base=some g->rowAt w g 0 cs/\room w g (c*y.size)/\g≠vb/\NoMark w g/\g<w.heap.size)->rowAt w vb 0 vs->room w vb y.size->NoMark w vb->vb<w.heap.size ->
   Calls P f #[.slice (base.map λg=>⟨g,0,none⟩) n c,.int .i64 i,.slice (some ⟨vb,0,none⟩) 1 vc] w (RowPost y.size w base (n+1) (cs.take (i*y.size)++vs++cs.drop (i*y.size)))):ZOK P f (zInsert y):=by
 refine ⟨hen,λargs S v S' h F μ w vals hp hr=>?_⟩;unfold zInsert at h;split at h
 ·rename_i b n c;split at h
  ·rename_i t l t' vs hb hcv;split at h
   ·rename_i hty;obtain ⟨rfl,rfl⟩:=hty;simp only [y5,Prod.mk.injEq,yR,xX,insOK,Bool.not_eq_true'] at h;obtain ⟨⟨⟨hbc,hv1⟩,⟨h1,h2⟩,h3⟩,rfl,rfl⟩:=h;have hbc:b≠c:=λh=>by subst h;simp at hbc
    simp only [zC,zA] at hr;obtain ⟨v1,_,rfl,⟨T1,l1,hb1,hx1⟩,v2,_,rfl,rfl,v3,_,rfl,⟨T3,l3,hc3,hx3⟩,rfl⟩:=hr;rw [hb] at hb1;injection hb1 with e1 e2
    subst e1;have e2:=eq_of_heq e2;subst e2;rw [hcv] at hc3;injection hc3 with e1 e2
    subst e1;have e2:=eq_of_heq e2;subst e2;obtain ⟨x,rfl⟩:∃ x,vs=[x]:=List.length_eq_one_iff.mp hv1;obtain ⟨i,rfl⟩:∃ i:Nat,n=(i:Int):=⟨n.toNat,by omega⟩;have hil:i<=l.length:=by omega
    rcases hx3 with ⟨vb,vc,hmc,rfl,hvc,hroomv⟩ | ⟨_,hnil,_⟩
    rotate_left
    ·cases hnil
    obtain ⟨vcs,q1,q2,q3⟩:=cells_of hp hcv hmc;have q1':vcs.length=t'.size:=by simpa using q1
    have q3':RelD w (Not F μ S.H) t' x vcs:=by
     have:=q3 0 (by simp)
     simpa [<- q1'] using this
    have hov:=one_cells q1 q3;have hlc:S.H c≠.dead:=by rw [hcv];simp
    have hlb:S.H b≠.dead:=by rw [hb];simp
    have hvbl:=hp.lt c vb hlc hmc;have hmkv:=hp.mark c vb (by rw [hcv];exact hy) hmc;have hroomv':room w vb t'.size:=λk hk=>hroomv k (Nat.lt_of_lt_of_le hk (by simpa using uf t'.size hvc))
    have hLl:(tX l (i:Int) [x]).length=l.length+1:=by simp [tX];omega
    have fin:∀ (cs:List Value),cs.length=l.length*t'.size->(∀ j,(h:j<l.length)->RelD w (Not F μ S.H) t' l[j] ((cs.drop (j*t'.size)).take t'.size))->∀ e w',RowPost t'.size w (μ b) (l.length+1) (cs.take (i*t'.size)++vcs++cs.drop (i*t'.size)) e w' ->
      ∃ μ' kl val,e=.returned val/\(⟨yL [b] S.E,zp (zv [b] S.H) b (.data t' (tX l (i:Int) [x])),S.nx,S.kl++[b]⟩:St).E=yL kl S.E/\(⟨yL [b] S.E,zp (zv [b] S.H) b (.data t' (tX l (i:Int) [x])),S.nx,S.kl++[b]⟩:St).kl=S.kl++kl /\
       Hp F μ' (zp (zv [b] S.H) b (.data t' (tX l (i:Int) [x]))) S.nx w'/\Pl F μ S.H S.nx w kl μ' (zp (zv [b] S.H) b (.data t' (tX l (i:Int) [x]))) S.nx w'/\zA w' (Not F μ' (zp (zv [b] S.H) b (.data t' (tX l (i:Int) [x])))) μ' (zp (zv [b] S.H) b (.data t' (tX l (i:Int) [x]))) (.wh b) val:=λcs hcl hrel e w' hpost=>by
     have hi1:i*t'.size<=cs.length:=by rw [hcl];exact uf _ hil
     refine row_end hp hb (L:=tX l (i:Int) [x]) (by rw [hLl];exact hpost) ?_ λj hj=>?_
     ·rw [hLl];simp only [xe,xG,sG,Nat.succ_mul,q1',hcl] at *;omega
     ·rw [hLl] at hj;have htl:(cs.take (i*t'.size)).length=i*t'.size:=by rw [xG];omega
      rcases Nat.lt_trichotomy j i with hji | hji | hji
      ·have h4:j*t'.size+t'.size<=i*t'.size:=by rw [<- Nat.succ_mul];exact uf _ hji
       rw [lAs,drop_take_app _ _ _ _ (by rw [htl];exact h4)]
       have h5:((cs.take (i*t'.size)).drop (j*t'.size)).take t'.size=(cs.drop (j*t'.size)).take t'.size:=by
        rw [List.drop_take,List.take_take,Nat.min_eq_left (by omega)]
       rw [h5]
       have h6:(tX l (i:Int) [x])[j]'(by rw [hLl];omega)=l[j]'(by omega):=by
        simp only [tX,yF,lAs];rw [List.getElem_append_left (by rw [xG];omega),List.getElem_take]
       rw [h6];exact hrel j (by omega)
      ·subst hji;rw [lAs,uR _ _ _ (by rw [htl];exact Nat.le_refl _),htl,Nat.sub_self,List.drop_zero,List.take_append_of_le_length (by omega),List.take_of_length_le (by omega)]
       have h6:(tX l (j:Int) [x])[j]'(by rw [hLl];omega)=x:=by
        simp only [tX,yF,lAs];rw [List.getElem_append_right (by rw [xG];omega)];simp [Nat.min_eq_left hil]
       rw [h6];exact q3'
      ·obtain ⟨k,rfl⟩:∃ k,j=k+1:=⟨j-1,by omega⟩;have h4:i*t'.size<=k*t'.size:=uf _ (by omega);rw [uR _ _ _ (by rw [xe,htl,q1',Nat.succ_mul];omega),xe,htl,q1',Nat.succ_mul,List.drop_drop,show i*t'.size+(k*t'.size+t'.size-(i*t'.size+t'.size))=k*t'.size by omega]
       have h6:(tX l (i:Int) [x])[k+1]'(by rw [hLl];omega)=l[k]'(by omega):=by
        simp only [tX,yF];rw [List.getElem_append_right (by simp<;>omega),List.getElem_drop];congr 1;simp;omega
       rw [h6];exact hrel k (by omega)
    rcases hx1 with ⟨g,c',hmb,rfl,hlc',hroomb⟩ | ⟨hmb,rfl,rfl⟩
    ·obtain ⟨cs,p1,p2,p3⟩:=cells_of hp hb hmb;have hgl:=hp.lt b g hlb hmb;refine (hc (some g) l.length c' i vb vc cs vcs w (λh=>by cases h) hil (by simpa using h3) hlc' (by simpa using hvc) p1 q1' (one_cells p1 p3) hov (λg' hg'=>?_) q2 hroomv' hmkv hvbl).mono λe w' hpost=>?_
     ·cases hg';exact ⟨p2,hroomb,λhgv=>hbc (hp.inj b c g hlb hlc hmb (by rw [hgv];exact hmc)),hp.mark b g (by rw [hb];exact hy) hmb,hgl⟩
     ·exact fin cs p1 p3 e w' (by rw [hmb];exact hpost)
    ·refine (hc none 0 0 i vb vc [] vcs w (λ_=>⟨rfl,rfl⟩) (by simpa using hil) (by omega) (Nat.le_refl _) (by simpa using hvc) (by simp) q1' (λv hv=>by cases hv) hov (λg' hg'=>by cases hg') q2 hroomv' hmkv hvbl).mono λe w' hpost=>?_
     exact fin [] (by simp) (λj hj=>absurd hj (by simp)) e w' (by rw [hmb];exact hpost)
   ·cases h
  ·cases h
 ·cases h
theorem zDelete_ok {P:Program} {f:FuncId} (y:Ty) (hy:decide (y≠.u8)=true) (hen:Go.Ev.Enters P f)
    (h0:∀ (w:World),Calls P f #[.slice none 0 0,.int .i64 0,.int .i64 0] w λe w'=>e=.returned (.slice none 0 0)/\w'=w)
    (hc:∀ (g n c i j:Nat) (cs:List Value) (w:World),i<=j->j<=n->n<=1000000->n<=c->cs.length=n*y.size->(∀ v∈cs,v.oneCell'=true)->rowAt w g 0 cs->room w g (c*y.size)->NoMark w g->g<w.heap.size ->
      Calls P f #[.slice (some ⟨g,0,none⟩) n c,.int .i64 i,.int .i64 j] w (RowPost y.size w (some g) (n-(j-i)) (cs.take (i*y.size)++cs.drop (j*y.size)))):ZOK P f (zDelete y):=by
  refine ⟨hen,λargs S v S' h F μ w vals hp hr=>?_⟩;unfold zDelete at h;split at h
  . rename_i b n m;split at h
    . rename_i t l hb;split at h
      . rename_i hty;subst hty;simp only [y5,Prod.mk.injEq,yR,xX,delOK] at h;obtain ⟨⟨⟨⟨h1,h2⟩,h3⟩,h4⟩,rfl,rfl⟩:=h;simp only [zC,zA] at hr;obtain ⟨v1,_,rfl,⟨t1,l1,hb1,hx1⟩,v2,_,rfl,rfl,v3,_,rfl,rfl,rfl⟩:=hr;rw [hb] at hb1;injection hb1 with e1 e2
        subst e1;have e2:=eq_of_heq e2;subst e2;obtain ⟨i,rfl⟩:∃ i:Nat,n=(i:Int):=⟨n.toNat,by omega⟩;obtain ⟨j,rfl⟩:∃ j:Nat,m=(j:Int):=⟨m.toNat,by omega⟩;have hij:i<=j:=by omega
        have hjl:j<=l.length:=by omega
        have hlb:S.H b≠.dead:=by rw [hb];simp
        have hLl:(delL l (i:Int) (j:Int)).length=l.length-(j-i):=by simp [delL];omega
        rcases hx1 with ⟨g,c',hmb,rfl,hlc',hroomb⟩ | ⟨hmb,rfl,rfl⟩
        . obtain ⟨cs,p1,p2,p3⟩:=cells_of hp hb hmb;have hgl:=hp.lt b g hlb hmb;refine (hc g l.length c' i j cs w hij hjl h4 hlc' p1 (one_cells p1 p3) p2 hroomb (hp.mark b g (by rw [hb];exact hy) hmb) hgl).mono λe w' hpost=>?_
          have hi1:i*t.size<=cs.length:=by rw [p1];exact uf _ (by omega)
          have hj1:j*t.size<=l.length*t.size:=uf _ hjl;have htl:(cs.take (i*t.size)).length=i*t.size:=by rw [xG];omega
          refine row_end hp hb (L:=delL l (i:Int) (j:Int)) (by rw [hLl,hmb];exact hpost) ?_ λk hk=>?_
          . rw [hLl,show l.length-(j-i)=i+(l.length-j) by omega,Nat.add_mul,Nat.sub_mul,xe,htl,sG,p1]
          . rw [hLl] at hk;by_cases hki:k<i
            . have h4:k*t.size+t.size<=i*t.size:=by rw [<- Nat.succ_mul];exact uf _ hki
              rw [drop_take_app _ _ _ _ (by rw [htl];exact h4)]
              have h5:((cs.take (i*t.size)).drop (k*t.size)).take t.size=(cs.drop (k*t.size)).take t.size:=by
                rw [List.drop_take,List.take_take,Nat.min_eq_left (by omega)]
              rw [h5]
              have h6:(delL l (i:Int) (j:Int))[k]'(by rw [hLl];omega)=l[k]'(by omega):=by
                simp only [delL,yF];rw [List.getElem_append_left (by rw [xG];omega),List.getElem_take]
              rw [h6];exact p3 k (by omega)
            . have h4:i*t.size<=k*t.size:=uf _ (by omega);have h7:(k-i)*t.size=k*t.size-i*t.size:=Nat.sub_mul _ _ _;rw [uR _ _ _ (by rw [htl];exact h4),htl,List.drop_drop,<- h7,<- Nat.add_mul]
              have h6:(delL l (i:Int) (j:Int))[k]'(by rw [hLl];omega)=l[j+(k-i)]'(by omega):=by
                simp only [delL,yF];rw [List.getElem_append_right (by rw [xG];omega),List.getElem_drop];congr 1;rw [xG];omega
              rw [h6];exact p3 (j+(k-i)) (by omega)
        . have hj0:j=0:=by simpa using hjl
          have hi0:i=0:=by omega
          subst hj0 hi0;refine (h0 w).mono λe w' ⟨he,hw⟩=>?_
          subst hw
          have T:Turned F μ S.H S.nx w' [b] b none (.data t (delL [] ((0:Nat):Int) ((0:Nat):Int))) S.nx w' :=
            { hp:=hp,os:=rfl,tape:=rfl,output:=rfl,size:=Nat.le_refl _,live:=by simp,mono:=Nat.le_refl _
              keep:=λk hk hne=>rfl
              at_:=λk hk=>by cases hk
              lt:=by
                rcases Nat.lt_or_ge b S.nx with h | h
                . exact h
                . exact absurd (hp.dead b h) hlb
              kind:=λ_=>Pin.zero rfl
              mark:=λ_ k hk=>by cases hk
              wfm:=λk hk=>by cases hk
              self:=λhk _=>by simp [zS] at hk }
          refine ⟨xD μ b none,[b],_,he,rfl,rfl,T.hp' ?_,T.pl,?_⟩
          . simp only [za];exact .inl ⟨zN _ _ _,by simp [delL]⟩
          . simp only [zA];exact ⟨t,_,zf _ _ _,.inr ⟨zN _ _ _,by simp [delL],trivial⟩⟩
      . cases h
    . cases h
  . cases h
theorem wL {P:Program} (w:World) (dT sT ty elem:TypeId) (i:TypeInfo) (b o dLen dCap:Nat) (a:Addr) (sLen sCap n:Nat) (cs:List Value)
  (hu:P.underlying dT=some (.slice elem)) (hi:P.info? elem=some i) (hmin:n=Nat.min sLen dLen) (hn:cs.length=n*i.size)
  (hsrc:∀ j v,cs[j]?=some v->w.cell? (a.add j)=some v) (hc:∀ j,j<cs.length->(w.cell? ⟨b,o+j,none⟩).isSome=true) (hf:∀ j,j<cs.length->w.frozen? ⟨b,o+j,none⟩=false) (h1:∀ v∈cs,v.oneCell'=true) :
  (Builtin.copy_ #[dT,sT] ty #[.slice (some ⟨b,o,none⟩) dLen dCap,.slice (some a) sLen sCap]).run P w=.ok (goInt n) (w.setCells b o cs):=by
 have hl:=run_loadCells_list (P:=P) w a cs hsrc;rw [hn] at hl;have hst:=run_storeCells_cells (P:=P) b o cs 0 w (by simpa using hc) (by simpa using hf) h1;simp [Builtin.copy_,run_underlying hu,Builtin.lenOf,Builtin.firstCells,sizeOf,typeInfo,hi,<- hmin,hl,hst]
theorem NoMark.setCells {g b:Nat}:∀ (vs:List Value) (o:Nat) {w:World},NoMark w g->NoMark (w.setCells b o vs) g
 | [],_,_,h=>h
 | v::vs,o,w,h=>by
  refine NoMark.setCells vs (o+1) ?_;by_cases hb:g=b
  ·subst hb;exact h.setCell o v
  ·exact h.of_heap (heap_setCell_other w _ g v hb)
theorem yn {b g:Nat} (hg:g≠b):∀ (vs:List Value) (o:Nat) (w:World),(w.setCells b o vs).heap[g]?=w.heap[g]?
 | [],_,_=>rfl
 | v::vs,o,w=>by
  rw [World.setCells,yn hg vs (o+1)];exact heap_setCell_other w _ g v hg
theorem yS {b:Nat}:∀ (vs:List Value) (o:Nat) (w:World),(w.setCells b o vs).heap.size=w.heap.size
 | [],_,_=>rfl
 | v::vs,o,w=>by
  rw [World.setCells,yS vs (o+1)];simp
theorem zi {b:Nat}:∀ (vs:List Value) (o:Nat) (w:World),(w.setCells b o vs).os=w.os/\(w.setCells b o vs).tape=w.tape/\(w.setCells b o vs).output=w.output
 | [],_,_=>⟨rfl,rfl,rfl⟩
 | v::vs,o,w=>by
  rw [World.setCells];obtain ⟨h1,h2,h3⟩:=zi (b:=b) vs (o+1) (w.setCell ⟨b,o,none⟩ v);exact ⟨h1,h2,h3⟩
theorem u6 {b:Nat} {a:Addr}:∀ (vs:List Value) (o:Nat) (w:World),(w.cell? a).isSome=true->((w.setCells b o vs).cell? a).isSome=true
 | [],_,_,h=>h
 | v::vs,o,w,h=>by
  rw [World.setCells];refine u6 vs (o+1) _ ?_;by_cases he:(⟨b,o,none⟩:Addr)=a
  ·subst he;obtain ⟨u,hu⟩:=Option.isSome_iff_exists.1 h;rw [World.cell?_setCell_same w _ _ hu];rfl
  ·rw [World.cell?_setCell_other w _ _ _ he];exact h
theorem yb {g b n:Nat} {vs:List Value} {o:Nat} {w:World} (h:room w g n):room (w.setCells b o vs) g n:=λk hk =>
 ⟨u6 _ _ _ (h k hk).1,by rw [World.frozen?_setCells];exact (h k hk).2⟩
theorem tz {g o:Nat} {us vs:List Value} {w:World} (hr:rowAt w g 0 us) (hroom:room w g (o+vs.length)) (ho:o<=us.length) :
  rowAt (w.setCells g o vs) g 0 (us.take o++vs++us.drop (o+vs.length)):=λi hi=>by
 rw [Nat.zero_add];simp only [xe,xG,sG] at hi;by_cases h1:i<o
 ·rw [World.cell?_setCells_out _ _ _ _ _ (λ_ _=>.inl h1)]
  have:=hr i (by omega)
  rw [Nat.zero_add] at this;rw [this,List.getElem_append_left (by rw [xe,xG];omega),List.getElem_append_left (by rw [xG];omega),List.getElem_take]
 ·by_cases h2:i<o+vs.length
  ·have:=World.cell?_setCells_in g vs o w (λj hj=>(hroom (o+j) (by omega)).1) (i-o) (by omega)
   rw [show o+(i-o)=i by omega] at this;rw [this,List.getElem_append_left (by rw [xe,xG];omega),List.getElem_append_right (by rw [xG];omega)];congr 2;rw [xG];omega
  ·rw [World.cell?_setCells_out _ _ _ _ _ (λ_ _=>.inr (by show o+vs.length<=i;omega))]
   have:=hr i (by omega)
   rw [Nat.zero_add] at this;rw [this,List.getElem_append_right (by rw [xe,xG];omega),List.getElem_drop];congr 2;rw [xe,xG];omega
end Go.Ev
namespace Go.So
open Go Go.Ev Go.Proofs Go.RowKit
set_option maxRecDepth 100000
theorem sA:Tryz.prog.follows .mixedOrders=true:=by kernel_rfl
theorem compareString27 (a b:ByteArray) (w:World) :
  Calls Tryz.prog 85 #[.string a,.string b] w λe w'=>e=.returned (.int .i64 (Lib.compareBytes a.data.toList b.data.toList))/\w'=w:=by
 have mixed:=sA
 go_enter Tryz.func85,Tryz.ntmps85
 go_wp2
 rw [run_callFunc_extern Tryz.func122 (by kernel_rfl) (by kernel_rfl) (by kernel_rfl) (e:=Extern.BytealgCompare.compare) (by kernel_rfl),Lib.run_compareString];simp only [Result.andThen];rw [Oper.upon_value]
 go_wp2
 go_ret
 exact ⟨rfl,rfl⟩
theorem compare17 (a b:ByteArray) (w:World) :
  Calls Tryz.prog 58 #[.string a,.string b] w λe w'=>e=.returned (.int .i64 (Lib.compareBytes a.data.toList b.data.toList))/\w'=w:=by
 have mixed:=sA;have e27:=Tryz.call85
 go_enter Tryz.func58,Tryz.ntmps58
 have hc:=compareString27 a b
 go_wp2_with (refine (hc _).mono ?_;rintro e w' ⟨rfl,rfl⟩)
 go_ret
 exact ⟨rfl,rfl⟩
theorem zCompare58:ZOK Tryz.prog 58 (zPv pCompare):=pCompare_ok Tryz.call58 compare17
theorem clone13 (w:World) {b:Nat} {es:Array MapEntry} {clock:Nat} (hb:w.heap[b]?=some (.map es clock)) :
  Calls Tryz.prog 42 #[.map (some b)] w λe w'=>e=.returned (.map (some w.heap.size))/\w'=w.alloc (.map es clock):=by
 have mixed:=sA;have hq:=λw=>run_eql_map_nil_sl (P:=Tryz.prog) w 64 _ _ (some b) Tryz.underlying64
 go_enter Tryz.func42,Tryz.ntmps42
 go_wp2
 rw [run_callFunc_extern Tryz.func59 (by kernel_rfl) (by kernel_rfl) (by kernel_rfl) (e:=Extern.MapsClone.clone) (by kernel_rfl),run_maps_clone_sl w 64 hb];simp only [Result.andThen];rw [Oper.upon_value]
 go_wp2
 rw [run_typeAssert_map_sl _ 64 20 _ _ _ Tryz.underlying64];simp only [Result.andThen];rw [Oper.upon_value]
 go_wp2
 go_ret
 exact ⟨rfl,rfl⟩
theorem zClone42:ZOK Tryz.prog 42 zClone:=zClone_ok Tryz.call42 λw _b _es _clock hb=>clone13 w hb
end Go.So
namespace Go.So
open Go Go.Ev Go.Proofs Go.RowKit Go.Lib
set_option maxRecDepth 100000
def zBoxV:Value:=.agg #[.string ⟨#[]⟩,.int .i64 0,.int .i64 0,.slice none 0 0]
theorem sM:Tryz.prog.info? 45=some Tryz.t45:=by kernel_rfl
theorem xx {w:World} {g o:Nat} {cs:List Value} (h:Ev.rowAt w g o cs):∀ j v,cs[j]?=some v->w.cell? ⟨g,o+j,none⟩=some v:=λj v hj=>by
 obtain ⟨hl,rfl⟩:=List.getElem?_eq_some_iff.1 hj;exact h j hl
theorem NoMark.alloc {w:World} {c:Array Value} {e:TypeId}:NoMark (w.alloc (.cells c e)) w.heap.size:=λc' e' m h=>by
 rw [World.alloc_heap_new] at h
 cases h;simp
set_option maxHeartbeats 4000000 in
theorem insert_end_room (g n c vb vc:Nat) (vs:List Value) (w:World) (hroom:n+1<=c) (hvl:vs.length=4) (hrm:room w g (c*4)) (hvs:Ev.rowAt w vb 0 vs) (h1v:∀ v∈vs,v.oneCell'=true) :
  Calls Tryz.prog 100 #[.slice (some ⟨g,0,none⟩) n c,.int .i64 n,.slice (some ⟨vb,0,none⟩) 1 vc] w λe w'=>e=.returned (.slice (some ⟨g,0,none⟩) (n+1) c)/\w'=w.setCells g (n*4) vs:=by
 have mixed:=sA;have hsrc:Go.Src Tryz.prog Tryz.t45.size 32 (.slice (some ⟨vb,0,none⟩) 1 vc) 1 vs w:=Go.Src.ofSlice w Tryz.underlying32 ⟨vb,0,none⟩ 1 vc vs (by rw [hvl];rfl) (λj u hj=>by rw [Addr.add_lit];exact xx hvs j u hj) h1v;have hk:∀ j,j<vs.length->n*4+j<c*4:=λj hj=>by omega
 have hrun:∀ ty,(Builtin.append_ #[32,32] ty #[.slice (some ⟨g,0,none⟩) n c,.slice (some ⟨vb,0,none⟩) 1 vc]).run Tryz.prog w=.ok (.slice (some ⟨g,0,none⟩) (n+1) c) (w.setCells g (n*4) vs):=λty=>by
  have:=run_append_room_src w 32 32 ty 45 Tryz.t45 Tryz.underlying32 sM g 0 n c _ 1 vs hsrc hroom (λj hj=>by rw [show (0:Nat)+n*Tryz.t45.size+j=n*4+j by rw [Nat.zero_add];rfl];exact (hrm _ (hk j hj)).1) (λj hj=>by rw [show (0:Nat)+n*Tryz.t45.size+j=n*4+j by rw [Nat.zero_add];rfl];exact (hrm _ (hk j hj)).2)
  rw [show (0:Nat)+n*Tryz.t45.size=n*4 by rw [Nat.zero_add];rfl] at this;exact this
 go_enter Tryz.func100,Tryz.ntmps100
 go_wp2_with (at_builtin;refine Lib.wpList_append_run _ rfl _ _ _ _ rfl _ _ rfl rfl _ _ (hrun _) ?_)
 go_ret
 exact ⟨rfl,rfl⟩
set_option maxHeartbeats 4000000 in
theorem insert_end_grow (base:Option Nat) (n c vb vc:Nat) (cs vs:List Value) (w:World) (hb:base=none->n=0/\c=0) (hroom:c<n+1) (hn:n+1<=1000000) (hcl:cs.length=n*4) (hvl:vs.length=4) (hcs:∀ g,base=some g->Ev.rowAt w g 0 cs) (hvs:Ev.rowAt w vb 0 vs) (h1v:∀ v∈vs,v.oneCell'=true) :
  Calls Tryz.prog 100 #[.slice (base.map λg=>⟨g,0,none⟩) n c,.int .i64 n,.slice (some ⟨vb,0,none⟩) 1 vc] w λe w'=>e=.returned (.slice (some ⟨w.heap.size,0,none⟩) (n+1) (grownCap w (n+1) c 45))/\w'=w.drew.alloc (.cells ((cs++vs).toArray++Builtin.zeroCells zBoxV.cells (grownCap w (n+1) c 45-(n+1))) 45):=by
 have mixed:=sA;have hsrc:Go.Src Tryz.prog Tryz.t45.size 32 (.slice (some ⟨vb,0,none⟩) 1 vc) 1 vs w:=Go.Src.ofSlice w Tryz.underlying32 ⟨vb,0,none⟩ 1 vc vs (by rw [hvl];rfl) (λj u hj=>by rw [Addr.add_lit];exact xx hvs j u hj) h1v
 have hold:(Builtin.firstCells Tryz.t45.size n (.slice (base.map λg=>⟨g,0,none⟩) n c)).run Tryz.prog w.drew=.ok cs.toArray w.drew:=by
  cases base with
  | none =>
   obtain ⟨h0,h1⟩:=hb rfl;subst h0;rw [List.length_eq_zero_iff.1 (by omega:cs.length=0)];exact run_firstCells_none w.drew _ 0 0 c
  | some g=>exact run_firstCells_some w.drew _ n ⟨g,0,none⟩ n c cs (by rw [hcl];rfl) (λj v hj=>by rw [Addr.add_lit];exact xx (hcs g rfl) j v hj)
 have hrun:∀ ty,(Builtin.append_ #[32,32] ty #[.slice (base.map λg=>⟨g,0,none⟩) n c,.slice (some ⟨vb,0,none⟩) 1 vc]).run Tryz.prog w=_:=λty =>
  run_append_grow_src w 32 32 ty 45 Tryz.t45 zBoxV Tryz.underlying32 sM rfl _ n c cs hold _ 1 vs hsrc hroom (by omega) (by rw [show Tryz.t45.bytes=56 from rfl];exact growslice_fits hroom (by omega))
 go_enter Tryz.func100,Tryz.ntmps100
 cases base with
 | none =>
  obtain ⟨h0,h1⟩:=hb rfl;subst h0;subst h1;simp only [Option.map_none] at hrun ⊢
  go_wp2_with (at_builtin;refine Lib.wpList_append_run _ rfl _ _ _ _ rfl _ _ rfl rfl _ _ (hrun _) ?_)
  go_ret
  exact ⟨rfl,rfl⟩
 | some g =>
  simp only [Option.map_some] at hrun ⊢
  go_wp2_with (at_builtin;refine Lib.wpList_append_run _ rfl _ _ _ _ rfl _ _ rfl rfl _ _ (hrun _) ?_)
  all_goals (go_ret;exact ⟨rfl,rfl⟩)
set_option maxHeartbeats 4000000 in
theorem insert_shift (g n c i vb vc:Nat) (cs vs:List Value) (w:World) (hi:i<n) (hn:n+1<=1000000) (hroom:n+1<=c) (hvb:vb≠g) (hcl:cs.length=n*4) (hvl:vs.length=4) (hcs:Ev.rowAt w g 0 cs) (hrm:room w g (c*4)) (hvs:Ev.rowAt w vb 0 vs)
  (h1c:∀ v∈cs,v.oneCell'=true) (h1v:∀ v∈vs,v.oneCell'=true) (hmv:NoMark w vb) (hrv:room w vb 4) :
  Calls Tryz.prog 100 #[.slice (some ⟨g,0,none⟩) n c,.int .i64 i,.slice (some ⟨vb,0,none⟩) 1 vc] w λe w'=>e=.returned (.slice (some ⟨g,0,none⟩) (n+1) c)/\w'=(w.drew.setCells g ((i+1)*4) (cs.drop (i*4))).setCells g (i*4) vs:=by
 have mixed:=sA;have hz2:¬ ((i:Int)=(n:Int)):=by omega
 obtain ⟨kA,eA,mA,hA⟩:∃ c0 e0 m0,w.heap[vb]?=some (.cells c0 e0 m0):=by
  have:=(hrv 0 (by omega)).1
  unfold World.cell? at this;simp only at this;split at this
  ·rename_i c0 e0 m0 hh;exact ⟨c0,e0,m0,hh⟩
  ·cases this
 obtain ⟨kB,eB,mB,hB⟩:∃ c0 e0 m0,w.heap[g]?=some (.cells c0 e0 m0):=by
  have:=(hrm 0 (by omega)).1
  unfold World.cell? at this;simp only at this;split at this
  ·rename_i c0 e0 m0 hh;exact ⟨c0,e0,m0,hh⟩
  ·cases this
 have hsa:w.shape? vb=some (eA,kA.size):=by unfold World.shape?; rw [hA]
 have hsb:w.shape? g=some (eB,kB.size):=by unfold World.shape?; rw [hB]
 have hkB:kB.size≠0:=by
  have:=(hrm 0 (by omega)).1
  unfold World.cell? at this;simp only [hB] at this;intro h0;simp [h0] at this
 have hfa:=(hrv 0 (by omega)).2
 have hfe:w.frozen? { block:=vb,off:=kA.size }=false:=by
  unfold World.frozen?;simp only [hA]
  have:=(hmv kA eA mA hA).2
  obtain ⟨m1,m2⟩:=mA;simpa using this
 have hov:∀ lb cb,(callFunc 133 #[.slice (some ⟨vb,0,none⟩) 1 vc,.slice (some ⟨g,(i+1)*4,none⟩) lb cb]).run Tryz.prog w=.ok (.value (.bool false)) w:=λlb cb=>by
  rw [run_callFunc_extern Tryz.func133 (by kernel_rfl) (by kernel_rfl) (by kernel_rfl) (e:=Extern.SlicesOverlaps.overlaps #[32,32] #[4]) (by kernel_rfl),
   Lib.run_overlaps_apart w 32 4 45 Tryz.underlying32 4 Tryz.sizeOf45 ⟨vb,0,none⟩ ⟨g,(i+1)*4,none⟩ 1 vc lb cb hvb eA eB kA.size kB.size hsa hsb hkB hfa hfe]
  rfl
 have hdl:(cs.drop (i*4)).length=(n-i)*4:=by rw [sG,hcl];omega
 have hcp1:∀ ty dc sc,(Builtin.copy_ #[32,32] ty #[.slice (some ⟨g,(i+1)*4,none⟩) (n-i) dc,.slice (some ⟨g,i*4,none⟩) (n+1-i) sc]).run Tryz.prog w.drew=.ok (goInt ((n-i:Nat))) (w.drew.setCells g ((i+1)*4) (cs.drop (i*4))):=λty dc sc =>
  wL w.drew _ _ ty 45 Tryz.t45 g ((i+1)*4) (n-i) dc ⟨g,i*4,none⟩ (n+1-i) sc (n-i) (cs.drop (i*4)) Tryz.underlying32 sM (by simp only [Nat.min_def];split <;> omega) hdl
   (λj v hj=>by
    rw [Addr.add_lit]
    have:=xx hcs (i*4+j) v (by rwa [List.getElem?_drop] at hj)
    rw [Nat.zero_add] at this
    exact this)
   (λj hj=>(hrm _ (by omega)).1) (λj hj=>(hrm _ (by omega)).2) (λv hv=>h1c v (List.mem_of_mem_drop hv))
 obtain ⟨W1,hW1⟩:∃ W1,W1=w.drew.setCells g ((i+1)*4) (cs.drop (i*4)):=⟨_,rfl⟩;have hrm1:room W1 g (c*4):=by rw [hW1];exact yb hrm
 have hcp2:∀ (W:World),(∀ x,W.cell? x=W1.cell? x)->(∀ x,W.frozen? x=W1.frozen? x)->∀ ty dc,(Builtin.copy_ #[32,32] ty #[.slice (some ⟨g,i*4,none⟩) (n+1-i) dc,.slice (some ⟨vb,0,none⟩) 1 vc]).run Tryz.prog W=.ok (goInt 1) (W.setCells g (i*4) vs):=λW hWc hWf ty dc =>
  wL W _ _ ty 45 Tryz.t45 g (i*4) (n+1-i) dc ⟨vb,0,none⟩ 1 vc 1 vs Tryz.underlying32 sM (by simp only [Nat.min_def];split <;> omega) (by rw [hvl];rfl)
   (λj v hj=>by
    rw [Addr.add_lit,hWc,hW1,World.cell?_setCells_out g _ _ _ _ (λh _=>absurd h hvb)]
    exact xx hvs j v hj)
   (λj hj=>by rw [hWc];exact (hrm1 _ (by omega)).1) (λj hj=>by rw [hWf];exact (hrm1 _ (by omega)).2) h1v
 rw [<- hW1] at hcp1;have hw1:IntKind.i64.wrap ((i:Int)+1)=(i:Int)+1:=by rw [IntKind.wrap_i64];omega
 have hb1:(0:Int)<=(i:Int)+1:=by omega
 have hin:i<=n:=by omega
 have htn:((i:Int)+1).toNat=i+1:=by omega
 have hb2:¬ (c=i+1):=by omega
 have hb3:(i:Int)<=(n:Int)+1:=by omega
 have hb4:¬ (c=i):=by omega
 have hw2:IntKind.i64.wrap ((n:Int)+1)=(n:Int)+1:=by rw [IntKind.wrap_i64];omega
 go_enter Tryz.func100,Tryz.ntmps100
 go_wp2_with (simp only [hov])
 go_region_law_o (refine step_copy_runI rfl _ _ 32 32 rfl _ _ (by simp [Act.eval,Act.put]) (by simp [Act.eval,Act.put]) (hcp1 _ _ _) ?_)
 go_wp2_with (at_builtin;refine wpList_copy_runI _ rfl _ _ 32 32 rfl _ _ rfl rfl (hcp2 _ (λ_=>rfl) (λ_=>rfl) _ _) ?_)
 go_ret
 first | exact ⟨rfl,rfl⟩ | exact ⟨rfl,by rw [hW1]⟩
set_option maxHeartbeats 4000000 in
theorem insert_grow (g n c i vb vc:Nat) (cs vs:List Value) (w:World) (hi:i<n) (hn:n+1<=1000000) (hnc:n<=c) (hroom:c<n+1) (hcl:cs.length=n*4) (hvl:vs.length=4) (hcs:Ev.rowAt w g 0 cs) (hvs:Ev.rowAt w vb 0 vs)
  (h1c:∀ v∈cs,v.oneCell'=true) (h1v:∀ v∈vs,v.oneCell'=true) (hgw:g<w.heap.size) (hvw:vb<w.heap.size) :
  Calls Tryz.prog 100 #[.slice (some ⟨g,0,none⟩) n c,.int .i64 i,.slice (some ⟨vb,0,none⟩) 1 vc] w λe w'=>e=.returned (.slice (some ⟨w.heap.size,0,none⟩) (n+1) (grownCap w (n+1) c 45)) /\
   w'=(((w.alloc (.cells ((cs.take (i*4)).toArray++Builtin.zeroCells zBoxV.cells (n+1-i)++Builtin.zeroCells zBoxV.cells (grownCap w (n+1) c 45-(n+1))) 45)).drew.setCells w.heap.size (i*4) vs).drew).setCells w.heap.size ((i+1)*4) (cs.drop (i*4)):=by
 have mixed:=sA;have hz2:¬ ((i:Int)=(n:Int)):=by omega
 have hz3:(c:Int)<(n:Int)+1:=by omega
 have hkk:(n:Int)+1-(i:Int)=((n+1-i:Nat):Int):=by omega
 have hik:i+(n+1-i)=n+1:=by omega
 have hold:(Builtin.firstCells Tryz.t45.size i (.slice (some ⟨g,0,none⟩) i c)).run Tryz.prog w.drew=.ok (cs.take (i*4)).toArray w.drew :=
  run_firstCells_some w.drew _ i ⟨g,0,none⟩ i c (cs.take (i*4)) (by rw [xG,show Tryz.t45.size=4 from rfl];omega) (λj v hj=>by
   rw [Addr.add_lit];rw [List.getElem?_take] at hj;split at hj
   ·exact xx hcs j v hj
   ·cases hj)
 have hrz:∀ ty,(Builtin.append_ #[32,3] ty #[.slice (some ⟨g,0,none⟩) i c,.int .i64 ((n:Int)+1-(i:Int))]).run Tryz.prog w =
   .ok (.slice (some ⟨w.heap.size,0,none⟩) (n+1) (grownCap w (n+1) c 45)) (w.drew.alloc (.cells ((cs.take (i*4)).toArray++Builtin.zeroCells zBoxV.cells (n+1-i)++Builtin.zeroCells zBoxV.cells (grownCap w (n+1) c 45-(n+1))) 45)):=λty=>by
  have h:=Lib.run_append_grow_zeros w 32 3 ty 45 Tryz.t45 zBoxV .i64 .i64 Tryz.underlying32 Tryz.underlying3 sM rfl (some ⟨g,0,none⟩) i c (cs.take (i*4)) hold (n+1-i) (by omega) (by decide) (by omega) (by omega) (by rw [show Tryz.t45.bytes=56 from rfl];omega) (by rw [show Tryz.t45.bytes=56 from rfl,hik];exact growslice_fits hroom (by omega));rw [hik] at h;rw [hkk];exact h
 obtain ⟨G,hG⟩:∃ G,G=grownCap w (n+1) c 45:=⟨_,rfl⟩;obtain ⟨ROW,hROW⟩:∃ ROW:Array Value,ROW=(cs.take (i*4)).toArray++Builtin.zeroCells zBoxV.cells (n+1-i)++Builtin.zeroCells zBoxV.cells (G-(n+1)):=⟨_,rfl⟩;rw [<- hG] at hrz ⊢;rw [<- hROW] at hrz ⊢
 have hRl:(n+1)*4<=ROW.size:=by
  rw [hROW];simp only [Array.size_append,List.size_toArray,xG,size_zeroCells,show zBoxV.cells.size=4 from rfl];omega
 obtain ⟨W1,hW1⟩:∃ W1,W1=w.drew.alloc (.cells ROW 45):=⟨_,rfl⟩;rw [<- hW1] at hrz
 have hN:∀ j,j<(n+1)*4->(W1.cell? ⟨w.heap.size,j,none⟩).isSome=true:=λj hj=>by
  rw [hW1,World.cell?_alloc_at (w:=w.drew) ROW _ w.heap.size j rfl,Array.getElem?_eq_getElem (by omega)];rfl
 have hNf:∀ j,W1.frozen? ⟨w.heap.size,j,none⟩=false:=λj=>by rw [hW1];exact World.frozen?_alloc_at (w:=w.drew) ROW _ w.heap.size j rfl
 have hOb:∀ j v,w.cell? ⟨g,j,none⟩=some v->W1.cell? ⟨g,j,none⟩=some v:=λj v h=>by rw [hW1,World.cell?_alloc_past (w:=w.drew) _ g j hgw];exact h
 have hOv:∀ j v,w.cell? ⟨vb,j,none⟩=some v->W1.cell? ⟨vb,j,none⟩=some v:=λj v h=>by rw [hW1,World.cell?_alloc_past (w:=w.drew) _ vb j hvw];exact h
 have hcpA:∀ (W:World),(∀ x,W.cell? x=W1.cell? x)->(∀ x,W.frozen? x=W1.frozen? x)->∀ ty dc,(Builtin.copy_ #[32,32] ty #[.slice (some ⟨w.heap.size,i*4,none⟩) (n+1-i) dc,.slice (some ⟨vb,0,none⟩) 1 vc]).run Tryz.prog W=.ok (goInt 1) (W.setCells w.heap.size (i*4) vs):=λW hWc hWf ty dc =>
  wL W _ _ ty 45 Tryz.t45 w.heap.size (i*4) (n+1-i) dc ⟨vb,0,none⟩ 1 vc 1 vs Tryz.underlying32 sM (by simp only [Nat.min_def];split <;> omega) (by rw [hvl];rfl)
   (λj v hj=>by rw [Addr.add_lit,hWc,Nat.zero_add];exact hOv _ v (by have:=xx hvs j v hj;rwa [Nat.zero_add] at this))
   (λj hj=>by rw [hWc];exact hN _ (by omega)) (λj hj=>by rw [hWf];exact hNf _) h1v
 have hGn:n+1<=G:=by rw [hG];exact grownCap_ge w _ _ _
 have hG63:G<=9223372036854775807:=by
  have:=grownCap_le_maxLen w (n+1) c 45 (by unfold maxLen;omega)
  rw [<- hG] at this;unfold maxLen at this;omega
 have hGi:¬ (G=i):=by omega
 have hGim:¬ (G=i+1):=by omega
 have hci:¬ (c=i):=by omega
 have hbN:g≠w.heap.size:=by omega
 have hdl:(cs.drop (i*4)).length=(n-i)*4:=by rw [sG,hcl];omega
 have hcpB:∀ (W:World),(∀ x,W.cell? x=(W1.setCells w.heap.size (i*4) vs).cell? x)->(∀ x,W.frozen? x=(W1.setCells w.heap.size (i*4) vs).frozen? x)->∀ ty dc sc,(Builtin.copy_ #[32,32] ty #[.slice (some ⟨w.heap.size,(i+1)*4,none⟩) (n-i) dc,.slice (some ⟨g,i*4,none⟩) (n-i) sc]).run Tryz.prog W=.ok (goInt ((n-i:Nat))) (W.setCells w.heap.size ((i+1)*4) (cs.drop (i*4))):=λW hWc hWf ty dc sc =>
  wL W _ _ ty 45 Tryz.t45 w.heap.size ((i+1)*4) (n-i) dc ⟨g,i*4,none⟩ (n-i) sc (n-i) (cs.drop (i*4)) Tryz.underlying32 sM (by simp only [Nat.min_def];split <;> omega) hdl
   (λj v hj=>by
    rw [Addr.add_lit,hWc,World.cell?_setCells_out _ _ _ _ _ (λh _=>absurd h hbN)]
    have:=xx hcs (i*4+j) v (by rwa [List.getElem?_drop] at hj)
    rw [Nat.zero_add] at this
    exact hOb _ v this)
   (λj hj=>by rw [hWc];exact u6 _ _ _ (hN _ (by omega)))
   (λj hj=>by rw [hWf,World.frozen?_setCells];exact hNf _) (λv hv=>h1c v (List.mem_of_mem_drop hv))
 subst hW1;have hE1:∀ x,((w.alloc (.cells ROW 45)).drew).cell? x=(w.drew.alloc (.cells ROW 45)).cell? x:=λx=>rfl
 have hE2:∀ x,((w.alloc (.cells ROW 45)).drew).frozen? x=(w.drew.alloc (.cells ROW 45)).frozen? x:=λx=>rfl
 have hF1:∀ x,(((w.alloc (.cells ROW 45)).drew.setCells w.heap.size (i*4) vs).drew).cell? x=((w.drew.alloc (.cells ROW 45)).setCells w.heap.size (i*4) vs).cell? x:=λx=>rfl
 have hF2:∀ x,(((w.alloc (.cells ROW 45)).drew.setCells w.heap.size (i*4) vs).drew).frozen? x=((w.drew.alloc (.cells ROW 45)).setCells w.heap.size (i*4) vs).frozen? x:=λx=>rfl
 have hw1:IntKind.i64.wrap ((i:Int)+1)=(i:Int)+1:=by rw [IntKind.wrap_i64];omega
 have hb1:(0:Int)<=(i:Int)+1:=by omega
 have hin:i<=n:=by omega
 have htn:((i:Int)+1).toNat=i+1:=by omega
 have hb3:(i:Int)<=(n:Int):=by omega
 clear hkk hik hold hROW hG hRl
 go_enter Tryz.func100,Tryz.ntmps100
 go_wp2_with (first
  | (at_builtin;refine Lib.wpList_append_run _ rfl _ _ _ _ rfl _ _ rfl rfl _ _ (hrz _) ?_)
  | (at_builtin;refine wpList_copy_runI _ rfl _ _ 32 32 rfl _ _ rfl rfl (hcpA _ hE1 hE2 _ _) ?_)
  | (at_builtin;refine wpList_copy_runI _ rfl _ _ 32 32 rfl _ _ rfl rfl (hcpB _ (λ_=>rfl) (λ_=>rfl) _ _ _) ?_))
 go_region_law_o (refine step_copy_runI rfl _ _ 32 32 rfl (.slice (some ⟨w.heap.size,(i+1)*4,none⟩) (n-i) (G-(i+1))) (.slice (some ⟨g,i*4,none⟩) (n-i) (c-i)) (by simp [Act.eval,Act.put]) (by simp [Act.eval,Act.put]) (hcpB _ hF1 hF2 3 (G-(i+1)) (c-i)) ?_)
 go_wp2
 go_ret
 exact ⟨rfl,rfl⟩
abbrev BoxT:Ty:=.pair .str (.pair (.int .i64) (.pair (.int .i64) (.pair (.sl (.pair (.int .i64) (.pair .u8 (.pair (.sl .u8) .unit)))) .unit)))
theorem run_clear_boxes (w:World) (ty:TypeId) (b o n c:Nat) (hn:0<n) (hc:∀ j,j<n*4->(w.cell? ⟨b,o+j,none⟩).isSome=true) (hf:∀ j,j<n*4->w.frozen? ⟨b,o+j,none⟩=false) :
  (Builtin.clear_ #[32] ty #[.slice (some ⟨b,o,none⟩) n c]).run Tryz.prog w=.ok (.tuple #[]) (w.setCells b o (Builtin.zeroCells zBoxV.cells n).toList):=by
 have hv:∀ w,(zeroValue 45).run Tryz.prog w=.ok zBoxV w:=λw=>by simp [zeroValue,typeInfo,sM,Tryz.t45,zBoxV]
 have hl:(Builtin.zeroCells zBoxV.cells n).toList.length=n*4:=by rw [Array.length_toList,size_zeroCells];rfl
 have h1:∀ v∈(Builtin.zeroCells zBoxV.cells n).toList,v.oneCell'=true:=by
  intro v hv;obtain ⟨j,hj,rfl⟩:=List.getElem_of_mem hv;have h4:j % 4<4:=Nat.mod_lt _ (by decide);simp only [Builtin.zeroCells,Array.getElem_toList,Array.getElem_map,Array.getElem_range]
  have:∀ k,k<4->(zBoxV.cells[k]!).oneCell'=true:=by
   intro k hk;rcases k with _ | _ | _ | _ | k
   ·rfl
   ·rfl
   ·rfl
   ·rfl
   ·omega
  exact this _ h4
 have hst:=run_storeCells_cells (P:=Tryz.prog) b o _ 0 w (by rw [hl];simpa using hc) (by rw [hl];simpa using hf) h1;simp only [Nat.add_zero] at hst;obtain ⟨m,rfl⟩:∃ m,n=m+1:=⟨n-1,by omega⟩;simp [Builtin.clear_,run_underlying Tryz.underlying32,hv,hst]
set_option maxHeartbeats 4000000 in
theorem delete_none (b:Option Addr) (n c i:Nat) (w:World) (hi:i<=n) (hnc:n<=c):Calls Tryz.prog 101 #[.slice b n c,.int .i64 i,.int .i64 i] w λe w'=>e=.returned (.slice b n c)/\w'=w:=by
 have mixed:=sA;have hic:i<=c:=by omega
 go_enter Tryz.func101,Tryz.ntmps101
 cases b with
 | none =>
  go_wp2
  all_goals (go_ret;exact ⟨rfl,rfl⟩)
 | some a =>
  go_wp2
  all_goals (go_ret;exact ⟨rfl,rfl⟩)
set_option maxHeartbeats 4000000 in
theorem delete_some (g n c i j:Nat) (cs:List Value) (w:World) (hij:i<j) (hj:j<=n) (_hn:n<=1000000) (hnc:n<=c) (hcl:cs.length=n*4) (h1c:∀ v∈cs,v.oneCell'=true) (hcs:Ev.rowAt w g 0 cs) (hrm:room w g (c*4)) :
  Calls Tryz.prog 101 #[.slice (some ⟨g,0,none⟩) n c,.int .i64 i,.int .i64 j] w λe w'=>e=.returned (.slice (some ⟨g,0,none⟩) (i+(n-j)) c) /\
   w'=(w.drew.setCells g (i*4) (cs.drop (j*4))).setCells g ((i+(n-j))*4) (Builtin.zeroCells zBoxV.cells (n-(i+(n-j)))).toList:=by
 have mixed:=sA;have hdl:(cs.drop (j*4)).length=(n-j)*4:=by rw [sG,hcl];omega
 obtain ⟨A,hA,hsrc⟩:∃ A:Addr,(if c=j then some (⟨g,0,none⟩:Addr) else some ⟨g,j*4,none⟩)=some A/\Hid (∀ t u,(cs.drop (j*4))[t]?=some u->w.drew.cell? (A.add t)=some u):=by
  by_cases h:c=j
  ·refine ⟨⟨g,0,none⟩,by simp [h],λt u hu=>?_⟩;have h0:(cs.drop (j*4)).length=0:=by rw [hdl];omega
   rw [List.length_eq_zero_iff.1 h0] at hu;simp at hu
  ·refine ⟨⟨g,j*4,none⟩,by simp [h],λt u hu=>?_⟩;rw [Addr.add_lit]
   have:=xx hcs (j*4+t) u (by rwa [List.getElem?_drop] at hu)
   rw [Nat.zero_add] at this;exact this
 have s1:Hid ((cs.drop (j*4)).length=(n-j)*4):=hdl;have s2:Hid (∀ u∈cs.drop (j*4),u.oneCell'=true):=λu hu=>h1c u (List.mem_of_mem_drop hu)
 have s3:Hid (∀ t,t<(cs.drop (j*4)).length->(w.drew.cell? ⟨g,0+i*4+t,none⟩).isSome=true/\w.drew.frozen? ⟨g,0+i*4+t,none⟩=false):=by
  intro t ht;rw [hdl] at ht;exact hrm _ (by omega)
 obtain ⟨W1,hW1⟩:∃ W1,W1=w.drew.setCells g (0+i*4) (cs.drop (j*4)):=⟨_,rfl⟩;have hrm1:room W1 g (c*4):=by rw [hW1];exact yb hrm
 have hcl2:∀ ty,(Builtin.clear_ #[32] ty #[.slice (some ⟨g,(i+(n-j))*4,none⟩) (n-(i+(n-j))) (c-(i+(n-j)))]).run Tryz.prog W1=.ok (.tuple #[]) (W1.setCells g ((i+(n-j))*4) (Builtin.zeroCells zBoxV.cells (n-(i+(n-j)))).toList) :=
  λty=>run_clear_boxes W1 ty g _ _ _ (by omega) (λt ht=>(hrm1 _ (by omega)).1) (λt ht=>(hrm1 _ (by omega)).2)
 have hW:Hid (W1=w.drew.setCells g (0+i*4) (cs.drop (j*4))):=hW1;have hW0:w.drew.setCells g (i*4) (cs.drop (j*4))=W1:=by rw [hW1,Nat.zero_add]
 rw [hW0];have hic:i<=c:=by omega
 have hjc:j<=c:=by omega
 have hne:¬ ((i:Int)=(j:Int)):=by omega
 generalize zBoxV.cells=Z at hcl2 ⊢;clear hW1 hW0 hrm1 hrm hcs hcl
 go_enter Tryz.func101,Tryz.ntmps101
 go_wp2_with fail
 go_region_law_o (refine step_append_room rfl (.tmp 22) (.tmp 25) 32 rfl 45 Tryz.t45 4 Tryz.underlying32 sM rfl g 0 i c (by simp [Act.eval,Act.put]) A (n-j) (c-j) (cs.drop (j*4)) (by simp [Act.eval,Act.put]) s1.out hsrc.out s2.out (by omega) s3.out ?_;rw [<- hW.out])
 go_wp2
 go_ret
 exact ⟨rfl,rfl⟩
theorem zeroCells_len (n:Nat):(Builtin.zeroCells zBoxV.cells n).toList.length=n*4:=by rw [Array.length_toList,size_zeroCells];rfl
theorem zDelete101:ZOK Tryz.prog 101 (zDelete BoxT):=by
 refine zDelete_ok BoxT rfl Tryz.call101 (λw=>(delete_none none 0 0 0 w (Nat.le_refl _) (Nat.le_refl _)).mono λe w' h=>h) λg n c i j cs w hij hj hn hnc hcl h1c hrow hrm hmk hg=>?_
 replace hcl:cs.length=n*4:=hcl;replace hrm:room w g (c*4):=hrm;show Calls _ _ _ _ (RowPost 4 w (some g) (n-(j-i)) (cs.take (i*4)++cs.drop (j*4)));by_cases he:i=j
 ·subst he;refine (delete_none (some ⟨g,0,none⟩) n c i w hj hnc).mono λe w' ⟨h1,h2⟩=>?_
  subst h2;rw [Nat.sub_self,Nat.sub_zero,List.take_append_drop];exact ⟨g,c,h1,hnc,hrm,hrow,.inl rfl,rfl,rfl,rfl,Nat.le_refl _,λ_ _ _=>rfl,hmk⟩
 ·refine (delete_some g n c i j cs w (by omega) hj hn hnc hcl h1c hrow hrm).mono λe w' ⟨h1,h2⟩=>?_
  have hdl:(cs.drop (j*4)).length=(n-j)*4:=by rw [sG,hcl];omega
  have hrd:Ev.rowAt w.drew g 0 cs:=hrow;have hrmd:room w.drew g (c*4):=hrm;have hmkd:NoMark w.drew g:=hmk;have r1:=tz (o:=i*4) (vs:=cs.drop (j*4)) hrd (λk hk=>hrmd k (by omega)) (by omega);have rm1:room (w.drew.setCells g (i*4) (cs.drop (j*4))) g (c*4):=yb hrmd;have hz:=zeroCells_len (n-(i+(n-j)));have r2:=tz (o:=(i+(n-j))*4) (vs:=(Builtin.zeroCells zBoxV.cells (n-(i+(n-j)))).toList) r1 (λk hk=>rm1 k (by omega)) (by simp only [xe,xG,sG];omega);refine ⟨g,c,by rw [show n-(j-i)=i+(n-j) by omega];exact h1,by omega,by rw [h2];exact yb rm1,?_,.inl rfl,?_,?_,?_,?_,?_,?_⟩
  ·rw [h2];intro k hk;simp only [xe,xG,sG] at hk
   have:=r2 k (by simp only [xe,xG,sG];omega)
   rw [this];congr 1;rw [List.getElem_append_left (by simp only [xe,xG,sG];omega),List.getElem_append_left (by simp only [xe,xG,sG];omega),List.getElem_take];rw [List.getElem_append_left (by simp only [xe,xG,sG];omega)]
  ·rw [h2];exact (zi _ _ _).1.trans (zi _ _ _).1
  ·rw [h2];exact (zi _ _ _).2.1.trans (zi _ _ _).2.1
  ·rw [h2];exact (zi _ _ _).2.2.trans (zi _ _ _).2.2
  ·rw [h2,yS,yS];exact Nat.le_refl _
  ·intro k _ hk;have hkg:k≠g:=λh=>hk (by rw [h])
   rw [h2,yn hkg,yn hkg];rfl
  ·rw [h2];exact NoMark.setCells _ _ (NoMark.setCells _ _ hmkd)
theorem zInsert100:ZOK Tryz.prog 100 (zInsert BoxT):=by
 refine zInsert_ok BoxT rfl Tryz.call100 λbase n c i vb vc cs vs w hb hin hn hnc hvc hcl hvl h1c h1v hg hrv hrmv hmv hvw=>?_
 replace hcl:cs.length=n*4:=hcl;replace hvl:vs.length=4:=hvl;replace hrmv:room w vb 4:=hrmv;replace hg:∀ g,base=some g->Ev.rowAt w g 0 cs/\room w g (c*4)/\g≠vb/\NoMark w g/\g<w.heap.size:=hg;show Calls _ _ _ _ (RowPost 4 w base (n+1) (cs.take (i*4)++vs++cs.drop (i*4)));by_cases he:i=n
 ·subst he
  have hcs:cs.take (i*4)++vs++cs.drop (i*4)=cs++vs:=by
   rw [List.take_of_length_le (by omega),List.drop_of_length_le (by omega),List.append_nil]
  rw [hcs];by_cases hr:i+1<=c
  ·cases base with
   | none=>have:=hb rfl;omega
   | some g =>
    obtain ⟨g1,g2,g3,g4,g5⟩:=hg g rfl;refine (insert_end_room g i c vb vc vs w hr hvl g2 hrv h1v).mono λe w' ⟨h1,h2⟩=>?_
    have r1:=tz (o:=i*4) (vs:=vs) g1 (λk hk=>g2 k (by omega)) (by omega);rw [List.take_of_length_le (by omega),List.drop_of_length_le (by omega),List.append_nil] at r1;refine ⟨g,c,h1,hr,by rw [h2];exact yb g2,by rw [h2];exact r1,.inl rfl,by rw [h2];exact (zi _ _ _).1,by rw [h2];exact (zi _ _ _).2.1,by rw [h2];exact (zi _ _ _).2.2,by rw [h2,yS];exact Nat.le_refl _,λk _ hk=>?_,by rw [h2];exact NoMark.setCells _ _ g4⟩;rw [h2,yn λh=>hk (by rw [h])]
  ·refine (insert_end_grow base i c vb vc cs vs w hb (by omega) hn hcl hvl (λg hb=>(hg g hb).1) hrv h1v).mono λe w' ⟨h1,h2⟩=>?_
   have hcap:i+1<=grownCap w (i+1) c 45:=grownCap_ge w _ _ _;have hG:Ev.Grew w (.cells ((cs++vs).toArray++Builtin.zeroCells zBoxV.cells (grownCap w (i+1) c 45-(i+1))) 45) w':=by rw [h2];exact Ev.Grew.drew w _
   have hcz:((cs++vs).toArray++Builtin.zeroCells zBoxV.cells (grownCap w (i+1) c 45-(i+1))).size=grownCap w (i+1) c 45*4:=by
    simp only [Array.size_append,List.size_toArray,xe,size_zeroCells,show zBoxV.cells.size=4 from rfl];omega
   have hrm:=hG.room (.inl rfl);rw [hcz] at hrm;refine ⟨w.heap.size,_,h1,hcap,hrm,λk hk=>?_,.inr ⟨Nat.le_refl _,by rw [hG.size];omega⟩,hG.os,hG.tape,hG.output,by rw [hG.size];omega,λk hk _=>hG.old hk,λc' e' m' hc'=>?_⟩
   ·have:=hG.row k (by rw [Array.length_toList,hcz];simp only [xe] at hk;omega)
    rw [this];congr 1;rw [Array.getElem_toList,Array.getElem_append_left (by simpa using hk)];simp
   ·rw [hG.new] at hc'
    cases hc';simp
 ·have hlt:i<n:=by omega
  cases base with
  | none=>have:=hb rfl;omega
  | some g =>
   obtain ⟨g1,g2,g3,g4,g5⟩:=hg g rfl;have hdl:(cs.drop (i*4)).length=(n-i)*4:=by rw [sG,hcl];omega
   by_cases hr:n+1<=c
   ·refine (insert_shift g n c i vb vc cs vs w hlt hn hr (λh=>g3 h.symm) hcl hvl g1 g2 hrv h1c h1v hmv hrmv).mono λe w' ⟨h1,h2⟩=>?_
    have hrmd:room w.drew g (c*4):=g2;have hmkd:NoMark w.drew g:=g4;have rm1:room (w.drew.setCells g ((i+1)*4) (cs.drop (i*4))) g (c*4):=yb hrmd;refine ⟨g,c,h1,hr,by rw [h2];exact yb rm1,λk hk=>?_,.inl rfl,?_,?_,?_,?_,?_,?_⟩
    ·simp only [xe,xG,hdl,hvl] at hk;rw [h2,Nat.zero_add];by_cases k1:k<i*4
     ·rw [World.cell?_setCells_out _ _ _ _ _ (λ_ _=>.inl k1),World.cell?_setCells_out _ _ _ _ _ (λ_ _=>.inl (by show k<(i+1)*4;omega))]
      have:=g1 k (by omega)
      rw [Nat.zero_add] at this;refine this.trans ?_;rw [List.getElem_append_left (by rw [xe,xG];omega),List.getElem_append_left (by rw [xG];omega),List.getElem_take]
     ·by_cases k2:k<(i+1)*4
      ·have:=World.cell?_setCells_in g vs (i*4) (w.drew.setCells g ((i+1)*4) (cs.drop (i*4))) (λj hj=>(rm1 (i*4+j) (by omega)).1) (k-i*4) (by omega)
       rw [show i*4+(k-i*4)=k by omega] at this;rw [this,List.getElem_append_left (by rw [xe,xG];omega),List.getElem_append_right (by rw [xG];omega)];congr 2;rw [xG];omega
      ·rw [World.cell?_setCells_out _ _ _ _ _ (λ_ _=>.inr (by show i*4+vs.length<=k;omega))]
       have:=World.cell?_setCells_in g (cs.drop (i*4)) ((i+1)*4) w.drew (λj hj=>(hrmd _ (by omega)).1) (k-(i+1)*4) (by omega)
       rw [show (i+1)*4+(k-(i+1)*4)=k by omega] at this;rw [this,List.getElem_append_right (by rw [xe,xG];omega)];congr 2;rw [xe,xG];omega
    ·rw [h2];exact (zi _ _ _).1.trans (zi _ _ _).1
    ·rw [h2];exact (zi _ _ _).2.1.trans (zi _ _ _).2.1
    ·rw [h2];exact (zi _ _ _).2.2.trans (zi _ _ _).2.2
    ·rw [h2,yS,yS];exact Nat.le_refl _
    ·intro k _ hk;have hkg:k≠g:=λh=>hk (by rw [h])
     rw [h2,yn hkg,yn hkg];rfl
    ·rw [h2];exact NoMark.setCells _ _ (NoMark.setCells _ _ hmkd)
   ·refine (insert_grow g n c i vb vc cs vs w hlt hn hnc (by omega) hcl hvl g1 hrv h1c h1v g5 hvw).mono λe w' ⟨h1,h2⟩=>?_
    have hcap:n+1<=grownCap w (n+1) c 45:=grownCap_ge w _ _ _;obtain ⟨G,hGe⟩:∃ G,G=grownCap w (n+1) c 45:=⟨_,rfl⟩;rw [<- hGe] at h1 h2 hcap;obtain ⟨ROW,hROW⟩:∃ ROW:Array Value,ROW=(cs.take (i*4)).toArray++Builtin.zeroCells zBoxV.cells (n+1-i)++Builtin.zeroCells zBoxV.cells (G-(n+1)):=⟨_,rfl⟩;rw [<- hROW] at h2
    have hcz:ROW.size=G*4:=by
     rw [hROW];simp only [Array.size_append,List.size_toArray,xG,size_zeroCells,show zBoxV.cells.size=4 from rfl];omega
    obtain ⟨W1,hW1⟩:∃ W1,W1=(w.alloc (.cells ROW 45)).drew:=⟨_,rfl⟩;have hG:Ev.Grew w (.cells ROW 45) W1:=by rw [hW1];exact ⟨rfl,rfl,rfl,rfl⟩
    rw [<- hW1] at h2
    have hrm:room W1 w.heap.size (G*4):=by
     have:=hG.room (.inl rfl)
     rwa [hcz] at this
    have hmk:NoMark W1 w.heap.size:=λc' e' m' hc'=>by
     rw [hG.new] at hc'
     cases hc';simp
    have rm1:room (W1.setCells w.heap.size (i*4) vs).drew w.heap.size (G*4):=yb hrm;have mk1:NoMark (W1.setCells w.heap.size (i*4) vs).drew w.heap.size:=NoMark.setCells _ _ hmk;refine ⟨w.heap.size,G,h1,hcap,by rw [h2];exact yb rm1,λk hk=>?_,.inr ⟨Nat.le_refl _,?_⟩,?_,?_,?_,?_,?_,?_⟩
    ·simp only [xe,xG,hdl,hvl] at hk;rw [h2,Nat.zero_add];by_cases k1:k<i*4
     ·rw [World.cell?_setCells_out _ _ _ _ _ (λ_ _=>.inl (by show k<(i+1)*4;omega)),World.cell?_drew,World.cell?_setCells_out _ _ _ _ _ (λ_ _=>.inl k1)]
      have:=hG.row k (by rw [Array.length_toList,hcz];omega)
      rw [Nat.zero_add] at this;refine this.trans ?_;rw [List.getElem_append_left (by rw [xe,xG];omega),List.getElem_append_left (by rw [xG];omega),List.getElem_take];congr 1;rw [Array.getElem_toList];subst hROW;rw [Array.getElem_append_left (by simp only [Array.size_append,List.size_toArray,xG];omega),Array.getElem_append_left (by simp only [List.size_toArray,xG];omega)];simp
     ·by_cases k2:k<(i+1)*4
      ·rw [World.cell?_setCells_out _ _ _ _ _ (λ_ _=>.inl k2),World.cell?_drew]
       have:=World.cell?_setCells_in w.heap.size vs (i*4) W1 (λj hj=>(hrm (i*4+j) (by omega)).1) (k-i*4) (by omega)
       rw [show i*4+(k-i*4)=k by omega] at this;rw [this,List.getElem_append_left (by rw [xe,xG];omega),List.getElem_append_right (by rw [xG];omega)];congr 2;rw [xG];omega
      ·have:=World.cell?_setCells_in w.heap.size (cs.drop (i*4)) ((i+1)*4) (W1.setCells w.heap.size (i*4) vs).drew (λj hj=>(rm1 _ (by omega)).1) (k-(i+1)*4) (by omega)
       rw [show (i+1)*4+(k-(i+1)*4)=k by omega] at this;rw [this,List.getElem_append_right (by rw [xe,xG];omega)];congr 2;rw [xe,xG];omega
    ·rw [h2,yS];show w.heap.size<(W1.setCells w.heap.size (i*4) vs).heap.size;rw [yS,hG.size];omega
    ·rw [h2];exact (zi _ _ _).1.trans ((zi _ _ W1).1.trans hG.os)
    ·rw [h2];exact (zi _ _ _).2.1.trans ((zi _ _ W1).2.1.trans hG.tape)
    ·rw [h2];exact (zi _ _ _).2.2.trans ((zi _ _ W1).2.2.trans hG.output)
    ·rw [h2,yS];show w.heap.size<=(W1.setCells w.heap.size (i*4) vs).heap.size;rw [yS,hG.size];omega
    ·intro k hk _;have hkg:k≠w.heap.size:=by omega
     rw [h2,yn hkg];show (W1.setCells w.heap.size (i*4) vs).heap[k]?=_;rw [yn hkg];exact hG.old hk
    ·rw [h2];exact NoMark.setCells _ _ mk1
end Go.So
namespace Go.Ev
open Go Go.Proofs Go.Sort
set_option maxRecDepth 100000
theorem cbs:∀ (a b:List UInt8),Lib.compareBytes a b=if a<b then -1 else if a=b then 0 else 1
 | [],[]=>by simp [Lib.compareBytes]
 | [],b::bs=>by simp [Lib.compareBytes]
 | a::r,[]=>by simp [Lib.compareBytes]
 | a::r,b::bs=>by
  have ih:=cbs r bs;simp only [Lib.compareBytes,List.cons_lt_cons_iff,List.cons.injEq];by_cases h1:a<b
  ·simp [h1]
  ·by_cases h2:b<a
   ·have h3:a≠b:=λe=>by subst e;exact h1 h2
    simp [h1,h2,h3]
   ·have h3:a=b:=by
     apply UInt8.toNat_inj.1;have k1:¬ a.toNat<b.toNat:=λh=>h1 (UInt8.lt_iff_toNat_lt.2 h)
     have k2:¬ b.toNat<a.toNat:=λh=>h2 (UInt8.lt_iff_toNat_lt.2 h)
     omega
    subst h3;simp [h1,ih]
theorem cbs_neg (a b:List UInt8):Lib.compareBytes a b<0<->a<b:=by
 rw [cbs];split
 ·simp [*]
 ·split <;> simp [*]
def byT (nm:Nat->List UInt8) (i j:Nat):Int:=Lib.compareBytes (nm i) (nm j)
theorem swoT (nm:Nat->List UInt8):SWO (ltOf (byT nm)) where
 irrefl:=λi=>by
  simp only [ltOf,byT,decide_eq_false_iff_not,cbs_neg];exact List.lt_irrefl _
 trans:=λi j k h1 h2=>by
  simp only [ltOf,byT,xX,cbs_neg] at *;exact List.lt_trans h1 h2
 ntrans:=λi j k h1 h2=>by
  simp only [ltOf,byT,decide_eq_false_iff_not,cbs_neg,List.not_lt] at *;exact List.le_trans h2 h1
def srtI (nm:Nat->List UInt8) (n:Nat):List Nat:=(pdq (ltOf (byT nm)) (Array.range n) 0 n (Lib.bitLen n) true true).toList
def nmAt {α:Type} (key:α->List UInt8) (d0:α) (l:List α) (i:Nat):List UInt8:=key (l.getD i (l.headD d0))
def srtBy {α:Type} (key:α->List UInt8) (d0:α) (l:List α):List α:=(srtI (nmAt key d0 l) l.length).map λi=>l.getD i (l.headD d0)
theorem srtI_perm (nm:Nat->List UInt8) (n:Nat):(srtI nm n).Perm (List.range n)/\(srtI nm n).length=n:=by
 have h:=(pdq_sorts (ltOf (byT nm)) (swoT nm) (Array.range n) 0 n (Lib.bitLen n) true true (Nat.zero_le _) (by simp) (Or.inl rfl)).1;obtain ⟨h1,_,h2⟩:=h;have hs:(pdq (ltOf (byT nm)) (Array.range n) 0 n (Lib.bitLen n) true true).size=n:=by simpa using h1
 have e1:(pdq (ltOf (byT nm)) (Array.range n) 0 n (Lib.bitLen n) true true).extract 0 n=pdq (ltOf (byT nm)) (Array.range n) 0 n (Lib.bitLen n) true true:=by
  conv=>lhs;arg 3;rw [<- hs]
  exact Array.extract_size
 have e2:(Array.range n).extract 0 n=Array.range n:=by
  conv=>lhs;arg 3;rw [show n=(Array.range n).size by simp]
  exact Array.extract_size
 rw [e1,e2] at h2;refine ⟨?_,by simpa [srtI] using hs⟩;have:(Array.range n).toList=List.range n:=by simp
 rw [this] at h2;exact h2
theorem srtI_sorted (nm:Nat->List UInt8) (n:Nat):(srtI nm n).Pairwise λi j=>¬ nm j<nm i:=by
 have h:=(pdq_sorts (ltOf (byT nm)) (swoT nm) (Array.range n) 0 n (Lib.bitLen n) true true (Nat.zero_le _) (by simp) (Or.inl rfl)).2;rw [List.pairwise_iff_getElem];intro i j hi hj hij;have hn:=(srtI_perm nm n).2;have hs:(pdq (ltOf (byT nm)) (Array.range n) 0 n (Lib.bitLen n) true true).size=n:=by simpa [srtI] using hn
 have:=h i j (Nat.zero_le _) hij (by omega)
 simp only [ltOf,byT,decide_eq_false_iff_not,cbs_neg] at this;rw [getElem!_pos _ i (by omega),getElem!_pos _ j (by omega)] at this;simpa [srtI] using this
theorem srtBy_perm {α:Type} (key:α->List UInt8) (d0:α) (l:List α):(srtBy key d0 l).Perm l:=by
 have h:=((srtI_perm (nmAt key d0 l) l.length).1).map λi=>l.getD i (l.headD d0)
 refine h.trans (List.Perm.of_eq ?_);apply List.ext_getElem
 ·simp
 ·intro i h1 h2;simp only [List.getElem_map,List.getElem_range];rw [wQ,List.getElem?_eq_getElem h2];rfl
theorem srtBy_sorted {α:Type} (key:α->List UInt8) (d0:α) (l:List α):(srtBy key d0 l).Pairwise λa b=>¬ key b<key a:=by
 unfold srtBy;rw [List.pairwise_map];exact srtI_sorted (nmAt key d0 l) l.length
def srtBOK {α:Type} (l:List α):Bool:=decide (l.length<=1000000)&&!l.isEmpty
def zSortBy (y:Ty) (key:y.den->List UInt8) (d0:y.den) (g:FuncId):xV:=λargs S=>match args with
 | [.wh b,.fn g' []]=>match S.H b with
  | .data t l=>if h:t=y then cond (Nat.beq g' g) (some (srtBOK (h ▸ l:List y.den),.tup [],⟨S.E,zp S.H b (.data y (srtBy key d0 (h ▸ l:List y.den))),S.nx,S.kl⟩)) none else none
  | _=>none
 | _=>none
theorem heap_putRow_oth (enc:Value->Value) (w:World) (blk off:Nat) (d:Array Value) {k:Nat} (h:k≠blk):(putRow enc w blk off d).heap[k]?=w.heap[k]?:=by
 simp only [putRow,mapBlock,Array.getElem?_modify];rw [if_neg (λe=>h e.symm)]
theorem zSortBy_ok {P:Program} {f g:FuncId} (y:Ty) (hy:decide (y≠.u8)=true) (key:y.den->List UInt8) (d0:y.den) (hen:Go.Ev.Enters P f)
    (hkey:∀ (w:World) (N:NN) (x:y.den) (es:List Value),RelD w N y x es->∃ r,es=.string ⟨(key x).toArray⟩::r)
    (hg:∀ (w:World) (a b:List UInt8) (r s:List Value),r.length+1=y.size->s.length+1=y.size->Calls P g #[.agg (Value.string ⟨a.toArray⟩::r).toArray,.agg (Value.string ⟨b.toArray⟩::s).toArray] w λe w'=>e=.returned (.int .i64 (Lib.compareBytes a b))/\∃ q os',w'=grow (w.drewN q) os')
    (hc:∀ (enc:Nat->List Value) (cf:Nat->Nat->Int),(∀ x,(enc x).length=y.size)->(∀ x,∀ v∈enc x,v.oneCell'=true)->SWO (ltOf cf)->∀ (blk cap:Nat) (d:Array Nat) (w:World),CmpLays P g #[] enc y.size cf blk 0 d.size w->HoldsK enc y.size w blk 0 d->blk<w.heap.size->d.size<4611686018427387904 ->
      Calls P f #[.slice (some ⟨blk,0,none⟩) d.size cap,.func (.func g) #[] #[]] w λe w'=>e=.returned (.tuple #[])/\∃ n os,w'=sortWorldK enc y.size w blk 0 n (pdq (ltOf cf) d 0 d.size (Lib.bitLen d.size) true true) os):ZOK P f (zSortBy y key d0 g):=by
  refine ⟨hen,λargs S v S' h F μ w vals hp hr=>?_⟩;unfold zSortBy at h;split at h
  . rename_i b g';split at h
    . rename_i t l hb;split at h
      . rename_i hty;subst hty;obtain ⟨hgg,h2⟩:=zB h;clear h;have hgg:=xi hgg;subst hgg;rw [y5,Prod.mk.injEq,Prod.mk.injEq] at h2;obtain ⟨hok,rfl,rfl⟩:=h2;simp only [srtBOK,yR,xX,Bool.not_eq_true',List.isEmpty_eq_false_iff] at hok;obtain ⟨hlen,hne⟩:=hok;simp only [zC,zA] at hr;obtain ⟨v1,_,rfl,⟨t1,l1,hb1,hx1⟩,v2,_,rfl,⟨vs2,rfl,hvs2⟩,rfl⟩:=hr;subst hvs2;rw [hb] at hb1;injection hb1 with e1 e2
        subst e1;have e2:=eq_of_heq e2;subst e2;have hlpos:0<l.length:=List.length_pos_iff.2 hne;rcases hx1 with ⟨gb,c,hm,rfl,hcl,hroom⟩ | ⟨_,hnil,_⟩
        rotate_left
        . exact absurd hnil hne
        have hlive:S.H b≠.dead:=by rw [hb];simp
        have hlt':=hp.lt b gb hlive hm;obtain ⟨cs,p1,p2,p3⟩:=cells_of hp hb hm;have hone:=one_cells p1 p3;obtain ⟨ix,hix⟩:∃ ix:Nat->Nat,∀ i,ix i=if i<l.length then i else 0:=⟨_,λ_=>rfl⟩
        have hixl:∀ i,ix i<l.length:=λi=>by rw [hix];split <;> omega
        obtain ⟨enc,henc⟩:∃ enc:Nat->List Value,∀ i,enc i=(cs.drop (ix i*t.size)).take t.size:=⟨_,λ_=>rfl⟩;have hcsl:∀ i,i<l.length->i*t.size+t.size<=cs.length:=λi hi=>by rw [p1,<- Nat.succ_mul];exact uf _ hi
        have hk:∀ x,(enc x).length=t.size:=λx=>by
          rw [henc,xG,sG]
          have:=hcsl (ix x) (hixl x)
          omega
        have h1:∀ x,∀ v∈enc x,v.oneCell'=true:=λx v hv=>by
          rw [henc] at hv;exact hone v (List.mem_of_mem_drop (List.mem_of_mem_take hv))
        have hnm:∀ i,nmAt key d0 l i=key (l[ix i]'(hixl i)):=λi=>by
          unfold nmAt;by_cases hi:i<l.length
          . have e:ix i=i:=by rw [hix,if_pos hi]
            rw [wQ,List.getElem?_eq_getElem hi];simp only [Option.getD_some,e]
          . have e:ix i=0:=by rw [hix,if_neg hi]
            rw [wQ,List.getElem?_eq_none (by omega)];simp only [Option.getD_none,e]
            cases l with
            | nil=>exact absurd rfl hne
            | cons a r=>rfl
        have hhead:∀ i,∃ r,enc i=.string ⟨(nmAt key d0 l i).toArray⟩::r/\r.length+1=t.size:=λi=>by
          obtain ⟨r,hr⟩:=hkey _ _ _ _ (p3 (ix i) (hixl i));rw [<- henc,<- hnm] at hr;refine ⟨r,hr,?_⟩
          have:=hk i
          rw [hr] at this;simpa using this
        have hH:HoldsK enc t.size w gb 0 (Array.range l.length):=λj hj=>by
          rw [size_flatK] at hj;have hj':j<l.length*t.size:=by simpa using hj
          have hpos:0<t.size:=by
            rcases Nat.eq_zero_or_pos t.size with h0 | h0
            . rw [h0] at hj';omega
            . exact h0
          have hd:j/t.size<l.length:=by rw [Nat.div_lt_iff_lt_mul hpos];exact hj'
          have hmod:=Nat.mod_lt j hpos;have hdm:=Nat.div_add_mod j t.size;have hrm:=hroom j (by have:=uf t.size hcl;omega);refine ⟨?_,by rw [Nat.zero_add];exact hrm.2⟩;rw [get_flatK _ _ _ _ hj,Nat.zero_add];have hl:(Array.range l.length)[j/t.size]! = j/t.size:=by simp [hd]
          rw [hl];have hjc:j<cs.length:=by rw [p1];exact hj'
          have:=p2 j hjc
          rw [Nat.zero_add] at this;rw [this];congr 1;have e:ix (j/t.size)=j/t.size:=by rw [hix,if_pos hd]
          rw [getElem!_pos _ _ (by rw [hk];exact hmod)];simp only [henc,e,List.getElem_take,List.getElem_drop];show cs[j]=id _;simp only [id];congr 1;rw [Nat.mul_comm];omega
        have hsz:(Array.range l.length).size=l.length:=by simp
        have hcall:=hc enc (byT (nmAt key d0 l)) hk h1 (swoT _) gb c (Array.range l.length) w (λm os dk _ x z=>by
          obtain ⟨r,hr,hrl⟩:=hhead x;obtain ⟨s,hs,hsl⟩:=hhead z;rw [hr,hs]
          exact hg _ _ _ r s hrl hsl) hH hlt' (by rw [hsz];omega)
        rw [hsz] at hcall;refine hcall.mono λe w' ⟨he,n,os,hw⟩=>?_
        generalize hd':pdq (ltOf (byT (nmAt key d0 l))) (Array.range l.length) 0 l.length (Lib.bitLen l.length) true true=d' at hw;have hI:srtI (nmAt key d0 l) l.length=d'.toList:=by unfold srtI;rw [hd']
        have hperm:=srtI_perm (nmAt key d0 l) l.length;rw [hI] at hperm;have hds:d'.size=l.length:=by simpa using hperm.2
        have hin:∀ i (hi:i<d'.size),d'[i]<l.length:=λi hi=>by
          have:d'[i]∈List.range l.length:=hperm.1.mem_iff.1 (by simp);simpa using this
        have hsrt:srtBy key d0 l=d'.toList.map λi=>l.getD i (l.headD d0):=by unfold srtBy;rw [hI]
        have hsl:(srtBy key d0 l).length=l.length:=by rw [hsrt,List.length_map];simpa using hds
        have hsize:(putRowK enc t.size (Go.Sort.ahead w n) gb 0 d').heap.size=w.heap.size:=by simp [putRowK,putRow,mapBlock,Go.Sort.ahead]
        have hold:∀ k,k<w.heap.size->k≠gb->w'.heap[k]?=w.heap[k]?:=λk hk hne=>by
          rw [hw];unfold sortWorldK
          have:(grow (putRowK enc t.size (Go.Sort.ahead w n) gb 0 d') os).heap[k]?=(putRowK enc t.size (Go.Sort.ahead w n) gb 0 d').heap[k]?:=by
            simp only [grow];rw [Array.getElem?_append_left (by rw [hsize];exact hk)]
          rw [this];exact heap_putRow_oth _ _ _ _ _ hne
        have hsz':w.heap.size<=w'.heap.size:=by rw [hw];unfold sortWorldK;rw [Go.Sort.size_grow,hsize];omega
        have hH':HoldsK enc t.size w' gb 0 d':=by
          rw [hw];unfold sortWorldK;exact holdsK_grow enc t.size _ os gb 0 d' (by rw [hsize];exact hlt') (holdsK_putRowK enc t.size _ gb 0 (Array.range l.length) d' (holdsK_ahead enc t.size w n gb 0 _ hH) (by rw [hds];simp))
        have hroom':∀ m,room w gb m->room w' gb m:=λm hr k hk=>by
          obtain ⟨r1,r2⟩:=hr k hk
          have hcell:w'.frozen? ⟨gb,k,none⟩=w.frozen? ⟨gb,k,none⟩:=by
            rw [hw];unfold sortWorldK;rw [Go.Sort.frozen?_grow _ _ _ (by rw [hsize];exact hlt')];exact frozen?_putRow _ _ _ _ _ _
          refine ⟨?_,by rw [hcell];exact r2⟩;by_cases hkk:k<l.length*t.size
          . have:=hH' k (by rw [size_flatK,hds];exact hkk)
            rw [Nat.zero_add] at this;rw [this.1];rfl
          . have:w'.cell? ⟨gb,k,none⟩=w.cell? ⟨gb,k,none⟩:=by
              rw [hw];unfold sortWorldK;rw [Go.Sort.cell?_grow _ _ _ (by rw [hsize];exact hlt')];exact cell?_putRow_other _ _ _ _ _ _ (.inr (.inr (by rw [size_flatK,hds];simpa using hkk)))
            rw [this];exact r1
        have hmk:∀ k,some gb=some k->NoMark w' k:=λk hk c e m hc=>by
            cases hk;have hg0:w.heap[gb]?≠none:=by rw [Array.getElem?_eq_getElem hlt'];simp
            rw [hw] at hc
            have hc2:(putRowK enc t.size (Go.Sort.ahead w n) gb 0 d').heap[gb]?=some (.cells c e m):=by
              rw [<- hc];simp only [sortWorldK,grow];rw [Array.getElem?_append_left (by rw [hsize];exact hlt')]
            simp only [putRowK,putRow,mapBlock,Array.getElem?_modify,if_true] at hc2
            cases hh:w.heap[gb]? with
            | none=>exact absurd hh hg0
            | some ob =>
              have hh':(Go.Sort.ahead w n).heap[gb]?=some ob:=hh;rw [hh'] at hc2
              cases ob with
              | cells c0 e0 m0 =>
                have:=hp.mark b gb (by rw [hb];exact hy) hm c0 e0 m0 hh
                simp only [Option.map_some,y5] at hc2;injection hc2 with h1 h2 h3
                rw [<- h1,<- h3];simpa [putCells] using this
              | _=>simp [onCells] at hc2
        have T:Turned F μ S.H S.nx w [] b (some gb) (.data t (srtBy key d0 l)) S.nx w':={
          hp:=hp
          os:=by rw [hw];rfl
          tape:=by rw [hw];rfl
          output:=by rw [hw];rfl
          size:=hsz'
          keep:=λk hk hne=>hold k hk λe=>hne hlive (by rw [e];exact hm)
          at_:=λk hk=>by cases hk;exact .inl ⟨hlive,hm⟩
          mono:=Nat.le_refl _
          lt:=by
            rcases Nat.lt_or_ge b S.nx with h | h
            . exact h
            . exact absurd (hp.dead b h) hlive
          live:=by simp
          kind:=λ_=>Pin.zero rfl
          mark:=λ_ k hk=>hmk k hk
          wfm:=λk hk=>(hmk k hk).wfm
          self:=λ_ _=>by
            refine ⟨by rw [zN,hm],?_⟩;rw [hb];simp only [zf]
            exact ⟨⟨_,rfl,hsl⟩,λk m hk hr=>by rw [hm] at hk;cases hk;exact hroom' m hr⟩ }
        refine ⟨xD μ b (some gb),[],.tuple #[],he,rfl,by simp,T.hp' ?_,T.pl,by simp [zA,zC]⟩;simp only [za];refine .inr ⟨gb,zN _ _ _,?_,λi hi=>?_⟩
        . rw [hsl];exact hroom' _ λk hk=>hroom k (Nat.lt_of_lt_of_le hk (uf _ hcl))
        . have hi':i<d'.size:=by omega
          have hdi:=hin i hi'
          have hgi:(srtBy key d0 l)[i]=l[d'[i]]:=by
            simp only [hsrt,List.getElem_map,Array.getElem_toList];rw [wQ,List.getElem?_eq_getElem hdi];rfl
          have e:ix d'[i]=d'[i]:=by rw [hix,if_pos hdi]
          refine ⟨enc d'[i],hk _,λk hk2=>?_,?_⟩
          . have hk3:k<t.size:=by rw [hk] at hk2;exact hk2
            have:=HoldsK.cell hH' (i:=i) (c:=k) hi' hk3
            rw [Nat.zero_add] at this;rw [this.1,getElem!_pos d' i hi',getElem!_pos (enc d'[i]) k hk2]
          . rw [hgi,henc,e];exact (p3 d'[i] hdi).keep T.keepN T.notN
      . cases h
    . cases h
  . cases h
end Go.Ev
namespace Go.Proofs
set_option maxRecDepth 100000
def Tryz.laysSlF06_f103_ren:Go.Shelf.Ren:=⟨fun | 6=>103 | 14=>136 | 15=>81 | 20=>154 | 21=>155 | 22=>156 | 23=>157 | 24=>158 | 25=>159 | 26=>160 | 27=>161 | 28=>118 | 29=>119 | 46=>170 | 47=>142 | 48=>143 | 49=>171 | 50=>172 | 57=>174 | n=>n,fun | 0=>0 | 3=>3 | 4=>4 | 5=>5 | 9=>9 | 22=>32 | 24=>45 | 25=>141 | 39=>117 | 45=>144 | 46=>145 | 50=>79 | 53=>152 | 55=>154 | 66=>181 | 70=>185 | 76=>202 | 77=>203 | n=>n,fun | n=>n⟩
theorem Tryz.laysSlF06_f103:Go.Proofs.SlLaysF0.n6 Tryz.prog Tryz.laysSlF06_f103_ren:={
  mixed:=by kernel_rfl
  f6:=⟨Tryz.f103.name,by decide,Tryz.func103.trans (congrArg some (by kernel_rfl))⟩
  f14:=⟨Tryz.f136.name,by decide,Tryz.func136.trans (congrArg some (by kernel_rfl))⟩
  f15:=Tryz.func81.trans (congrArg some (by kernel_rfl))
  f20:=⟨Tryz.f154.name,by decide,Tryz.func154.trans (congrArg some (by kernel_rfl))⟩
  f21:=⟨Tryz.f155.name,by decide,Tryz.func155.trans (congrArg some (by kernel_rfl))⟩
  f22:=⟨Tryz.f156.name,by decide,Tryz.func156.trans (congrArg some (by kernel_rfl))⟩
  f23:=⟨Tryz.f157.name,by decide,Tryz.func157.trans (congrArg some (by kernel_rfl))⟩
  f24:=⟨Tryz.f158.name,by decide,Tryz.func158.trans (congrArg some (by kernel_rfl))⟩
  f25:=⟨Tryz.f159.name,by decide,Tryz.func159.trans (congrArg some (by kernel_rfl))⟩
  f26:=⟨Tryz.f160.name,by decide,Tryz.func160.trans (congrArg some (by kernel_rfl))⟩
  f27:=⟨Tryz.f161.name,by decide,Tryz.func161.trans (congrArg some (by kernel_rfl))⟩
  f28:=Tryz.func118.trans (congrArg some (by kernel_rfl))
  f29:=Tryz.func119.trans (congrArg some (by kernel_rfl))
  f46:=⟨Tryz.f170.name,by decide,Tryz.func170.trans (congrArg some (by kernel_rfl))⟩
  f47:=Tryz.func142.trans (congrArg some (by kernel_rfl))
  f48:=Tryz.func143.trans (congrArg some (by kernel_rfl))
  f49:=⟨Tryz.f171.name,by decide,Tryz.func171.trans (congrArg some (by kernel_rfl))⟩
  f50:=⟨Tryz.f172.name,by decide,Tryz.func172.trans (congrArg some (by kernel_rfl))⟩
  f57:=⟨Tryz.f174.name,by decide,Tryz.func174.trans (congrArg some (by kernel_rfl))⟩
  t0:=Tryz.underlying0
  a0:=Tryz.isAgg0
  z0:=Tryz.sizeOf0
  v0:=Tryz.zeroValue0
  t3:=Tryz.underlying3
  a3:=Tryz.isAgg3
  z3:=Tryz.sizeOf3
  v3:=Tryz.zeroValue3
  t4:=Tryz.underlying4
  a4:=Tryz.isAgg4
  z4:=Tryz.sizeOf4
  v4:=Tryz.zeroValue4
  t5:=Tryz.underlying5
  a5:=Tryz.isAgg5
  z5:=Tryz.sizeOf5
  v5:=Tryz.zeroValue5
  t9:=Tryz.underlying9
  a9:=Tryz.isAgg9
  z9:=Tryz.sizeOf9
  v9:=Tryz.zeroValue9
  t22:=Tryz.underlying32
  a22:=Tryz.isAgg32
  z22:=Tryz.sizeOf32
  v22:=Tryz.zeroValue32
  t25:=Tryz.underlying141
  a25:=Tryz.isAgg141
  z25:=Tryz.sizeOf141
  v25:=Tryz.zeroValue141
  t39:=Tryz.underlying117
  a39:=Tryz.isAgg117
  z39:=Tryz.sizeOf117
  v39:=Tryz.zeroValue117
  t45:=Tryz.underlying144
  a45:=Tryz.isAgg144
  z45:=Tryz.sizeOf144
  v45:=Tryz.zeroValue144
  t46:=Tryz.underlying145
  a46:=Tryz.isAgg145
  z46:=Tryz.sizeOf145
  v46:=Tryz.zeroValue145
  t50:=Tryz.underlying79
  a50:=Tryz.isAgg79
  z50:=Tryz.sizeOf79
  v50:=Tryz.zeroValue79
  t53:=Tryz.underlying152
  a53:=Tryz.isAgg152
  z53:=Tryz.sizeOf152
  v53:=Tryz.zeroValue152
  t55:=Tryz.underlying154
  a55:=Tryz.isAgg154
  z55:=Tryz.sizeOf154
  v55:=Tryz.zeroValue154
  t66:=Tryz.underlying181
  a66:=Tryz.isAgg181
  z66:=Tryz.sizeOf181
  v66:=Tryz.zeroValue181
  t70:=Tryz.underlying185
  a70:=Tryz.isAgg185
  z70:=Tryz.sizeOf185
  v70:=Tryz.zeroValue185
  t76:=Tryz.underlying202
  a76:=Tryz.isAgg202
  z76:=Tryz.sizeOf202
  v76:=Tryz.zeroValue202
  t77:=Tryz.underlying203
  a77:=Tryz.isAgg203
  z77:=Tryz.sizeOf203
  v77:=Tryz.zeroValue203 }
end Go.Proofs
namespace Go.So
open Go Go.Ev Go.Proofs Go.Sort
set_option maxRecDepth 100000
theorem mixedS:Tryz.prog.follows .mixedOrders=true:=by kernel_rfl
abbrev LttT:Ty:=.pair (.int .i64) (.pair .u8 (.pair (.sl .u8) .unit))
abbrev BoxTs:Ty:=.pair .str (.pair (.int .i64) (.pair (.int .i64) (.pair (.sl LttT) .unit)))
def boxKey (b:BoxTs.den):List UInt8:=b.1
def boxDf:BoxTs.den:=([],(0,(0,([],()))))
theorem boxHead (w:World) (N:NN) (x:BoxTs.den) (es:List Value) (h:RelD w N BoxTs x es):∃ r,es=.string ⟨(boxKey x).toArray⟩::r:=by
 simp only [RelD] at h;obtain ⟨xs,ys,rfl,rfl,_⟩:=h;exact ⟨ys,rfl⟩
theorem walk104 (w:World) (a b:List UInt8) (r1 r2 r3 s1 s2 s3:Value) :
  Calls Tryz.prog 104 #[.agg #[.string ⟨a.toArray⟩,r1,r2,r3],.agg #[.string ⟨b.toArray⟩,s1,s2,s3]] w λe w'=>e=.returned (.int .i64 (Lib.compareBytes a b))/\∃ q os',w'=grow (w.drewN q) os':=by
 have mixed:=mixedS
 have hc:∀ W,Calls Tryz.prog 58 #[.string ⟨a.toArray⟩,.string ⟨b.toArray⟩] W λe w'=>e=.returned (.int .i64 (Lib.compareBytes a b))/\w'=W:=λW=>by
  have:=compare17 ⟨a.toArray⟩ ⟨b.toArray⟩ W
  simpa using this
 go_enter Tryz.func104,Tryz.ntmps104
 go_wp2_with (refine (hc _).mono ?_;rintro e w' ⟨rfl,rfl⟩)
 go_ret
 refine ⟨rfl,0,#[.cells #[.string ⟨a.toArray⟩,r1,r2,r3] 45,.cells #[.string ⟨b.toArray⟩,s1,s2,s3] 45],?_⟩;rw [alloc_eq_grow,alloc_eq_grow,grow_grow];rfl
abbrev zSortBoxes:xV:=zSortBy BoxTs boxKey boxDf 104
abbrev srtB:List BoxTs.den->List BoxTs.den:=srtBy boxKey boxDf
theorem three {r:List Value} (h:r.length+1=BoxTs.size):∃ a b c,r=[a,b,c]:=by
 have h:r.length=3:=by have h:r.length+1=4:=h;omega
 match r,h with
 | [a,b,c],_=>exact ⟨a,b,c,rfl⟩
theorem zSort103:ZOK Tryz.prog 103 zSortBoxes :=
 zSortBy_ok BoxTs rfl boxKey boxDf Tryz.call103 boxHead (λw a b r s hr hs=>by
   obtain ⟨r1,r2,r3,rfl⟩:=three hr;obtain ⟨s1,s2,s3,rfl⟩:=three hs
   exact walk104 w a b r1 r2 r3 s1 s2 s3)
  λenc cf hk h1 hO blk cap d w hcmp hH hblk hsz=>AnyQ.slices_SortFunc_eq Tryz.laysSlF06_f103 4 Tryz.isAgg45 Tryz.sizeOf45 enc hk h1 cf hO 104 #[] blk 0 cap d w (λargs w=>Tryz.call104 args w) hcmp hH hblk hsz
end Go.So
namespace Go.Proofs
open Go.Shelf
def Tryz.keysA_ren:Go.Shelf.Ren:=⟨fun | 7=>29 | 10=>51 | n=>n,fun | 23=>64 | 26=>9 | 3=>34 | 28=>69 | 0=>0 | 27=>68 | 33=>74 | 4=>4 | n=>n,fun | n=>n⟩
theorem Tryz.keysA:Go.Proofs.SlLaysZ.n7 Tryz.prog Tryz.keysA_ren:={
  mixed:=by kernel_rfl
  f7:=⟨Tryz.f29.name,by decide,Tryz.func29.trans (congrArg some (by kernel_rfl))⟩
  f10:=⟨Tryz.f51.name,by decide,Tryz.func51.trans (congrArg some (by kernel_rfl))⟩
  t0:=Tryz.underlying0
  a0:=Tryz.isAgg0
  z0:=Tryz.sizeOf0
  v0:=Tryz.zeroValue0
  t4:=Tryz.underlying4
  a4:=Tryz.isAgg4
  z4:=Tryz.sizeOf4
  v4:=Tryz.zeroValue4
  t23:=Tryz.underlying64
  a23:=Tryz.isAgg64
  z23:=Tryz.sizeOf64
  v23:=Tryz.zeroValue64
  t26:=Tryz.underlying9
  a26:=Tryz.isAgg9
  z26:=Tryz.sizeOf9
  v26:=Tryz.zeroValue9
  t27:=Tryz.underlying68
  a27:=Tryz.isAgg68
  z27:=Tryz.sizeOf68
  v27:=Tryz.zeroValue68
  t28:=Tryz.underlying69
  a28:=Tryz.isAgg69
  z28:=Tryz.sizeOf69
  v28:=Tryz.zeroValue69
  t33:=Tryz.underlying74
  a33:=Tryz.isAgg74
  z33:=Tryz.sizeOf74
  v33:=Tryz.zeroValue74 }
def Tryz.sortedA_ren:Go.Shelf.Ren:=⟨fun | 6=>28 | 8=>49 | 9=>50 | 11=>79 | 13=>81 | 12=>80 | 23=>118 | 24=>119 | 14=>109 | 15=>110 | 16=>111 | 17=>112 | 18=>113 | 19=>114 | 20=>115 | 21=>116 | 22=>117 | 25=>141 | 26=>142 | 27=>143 | 28=>144 | 29=>145 | 30=>146 | 31=>166 | n=>n,fun | 26=>9 | 28=>69 | 24=>30 | 0=>0 | 3=>3 | 37=>117 | 48=>152 | 50=>154 | 4=>4 | 40=>145 | 39=>144 | 45=>79 | 5=>5 | 9=>9 | 51=>181 | 55=>185 | 57=>202 | 58=>203 | 33=>74 | n=>n,fun | n=>n⟩
theorem Tryz.sortedA:Go.Proofs.SlLaysZ.n6 Tryz.prog Tryz.sortedA_ren:={
  mixed:=by kernel_rfl
  f6:=⟨Tryz.f28.name,by decide,Tryz.func28.trans (congrArg some (by kernel_rfl))⟩
  f8:=⟨Tryz.f49.name,by decide,Tryz.func49.trans (congrArg some (by kernel_rfl))⟩
  f11:=⟨Tryz.f79.name,by decide,Tryz.func79.trans (congrArg some (by kernel_rfl))⟩
  t0:=Tryz.underlying0
  a0:=Tryz.isAgg0
  z0:=Tryz.sizeOf0
  v0:=Tryz.zeroValue0
  t24:=Tryz.underlying30
  a24:=Tryz.isAgg30
  z24:=Tryz.sizeOf30
  v24:=Tryz.zeroValue30
  t26:=Tryz.underlying9
  a26:=Tryz.isAgg9
  z26:=Tryz.sizeOf9
  v26:=Tryz.zeroValue9
  t28:=Tryz.underlying69
  a28:=Tryz.isAgg69
  z28:=Tryz.sizeOf69
  v28:=Tryz.zeroValue69
  i26:=by kernel_rfl }
def Tryz.sortA_ren:Go.Shelf.Ren:=⟨fun | 6=>50 | 8=>81 | 9=>80 | 19=>118 | 20=>119 | 21=>109 | 22=>110 | 23=>111 | 24=>112 | 25=>113 | 26=>114 | 27=>115 | 28=>116 | 29=>117 | 36=>141 | 31=>142 | 32=>143 | 37=>144 | 38=>145 | 39=>146 | 41=>166 | n=>n,fun | 27=>30 | 29=>9 | 3=>3 | 32=>117 | 26=>30 | 0=>0 | 44=>152 | 46=>154 | 4=>4 | 36=>145 | 35=>144 | 41=>79 | 5=>5 | 9=>9 | 53=>181 | 57=>185 | 63=>202 | 64=>203 | n=>n,fun | n=>n⟩
theorem Tryz.sortA:Go.Proofs.SlLaysM.n6 Tryz.prog Tryz.sortA_ren:={
  mixed:=by kernel_rfl
  f6:=⟨Tryz.f50.name,by decide,Tryz.func50.trans (congrArg some (by kernel_rfl))⟩
  f8:=Tryz.func81.trans (congrArg some (by kernel_rfl))
  f9:=⟨Tryz.f80.name,by decide,Tryz.func80.trans (congrArg some (by kernel_rfl))⟩
  f19:=Tryz.func118.trans (congrArg some (by kernel_rfl))
  f20:=Tryz.func119.trans (congrArg some (by kernel_rfl))
  f21:=⟨Tryz.f109.name,by decide,Tryz.func109.trans (congrArg some (by kernel_rfl))⟩
  f22:=⟨Tryz.f110.name,by decide,Tryz.func110.trans (congrArg some (by kernel_rfl))⟩
  f23:=⟨Tryz.f111.name,by decide,Tryz.func111.trans (congrArg some (by kernel_rfl))⟩
  f24:=⟨Tryz.f112.name,by decide,Tryz.func112.trans (congrArg some (by kernel_rfl))⟩
  f25:=⟨Tryz.f113.name,by decide,Tryz.func113.trans (congrArg some (by kernel_rfl))⟩
  f26:=⟨Tryz.f114.name,by decide,Tryz.func114.trans (congrArg some (by kernel_rfl))⟩
  f27:=⟨Tryz.f115.name,by decide,Tryz.func115.trans (congrArg some (by kernel_rfl))⟩
  f28:=⟨Tryz.f116.name,by decide,Tryz.func116.trans (congrArg some (by kernel_rfl))⟩
  f29:=⟨Tryz.f117.name,by decide,Tryz.func117.trans (congrArg some (by kernel_rfl))⟩
  f31:=Tryz.func142.trans (congrArg some (by kernel_rfl))
  f32:=Tryz.func143.trans (congrArg some (by kernel_rfl))
  f36:=⟨Tryz.f141.name,by decide,Tryz.func141.trans (congrArg some (by kernel_rfl))⟩
  f37:=⟨Tryz.f144.name,by decide,Tryz.func144.trans (congrArg some (by kernel_rfl))⟩
  f38:=⟨Tryz.f145.name,by decide,Tryz.func145.trans (congrArg some (by kernel_rfl))⟩
  f39:=⟨Tryz.f146.name,by decide,Tryz.func146.trans (congrArg some (by kernel_rfl))⟩
  f41:=⟨Tryz.f166.name,by decide,Tryz.func166.trans (congrArg some (by kernel_rfl))⟩
  t0:=Tryz.underlying0
  a0:=Tryz.isAgg0
  z0:=Tryz.sizeOf0
  v0:=Tryz.zeroValue0
  t3:=Tryz.underlying3
  a3:=Tryz.isAgg3
  z3:=Tryz.sizeOf3
  v3:=Tryz.zeroValue3
  t4:=Tryz.underlying4
  a4:=Tryz.isAgg4
  z4:=Tryz.sizeOf4
  v4:=Tryz.zeroValue4
  t5:=Tryz.underlying5
  a5:=Tryz.isAgg5
  z5:=Tryz.sizeOf5
  v5:=Tryz.zeroValue5
  t9:=Tryz.underlying9
  a9:=Tryz.isAgg9
  z9:=Tryz.sizeOf9
  v9:=Tryz.zeroValue9
  t26:=Tryz.underlying30
  a26:=Tryz.isAgg30
  z26:=Tryz.sizeOf30
  v26:=Tryz.zeroValue30
  t27:=Tryz.underlying30
  a27:=Tryz.isAgg30
  z27:=Tryz.sizeOf30
  v27:=Tryz.zeroValue30
  t29:=Tryz.underlying9
  a29:=Tryz.isAgg9
  z29:=Tryz.sizeOf9
  v29:=Tryz.zeroValue9
  t32:=Tryz.underlying117
  a32:=Tryz.isAgg117
  z32:=Tryz.sizeOf117
  v32:=Tryz.zeroValue117
  t35:=Tryz.underlying144
  a35:=Tryz.isAgg144
  z35:=Tryz.sizeOf144
  v35:=Tryz.zeroValue144
  t36:=Tryz.underlying145
  a36:=Tryz.isAgg145
  z36:=Tryz.sizeOf145
  v36:=Tryz.zeroValue145
  t41:=Tryz.underlying79
  a41:=Tryz.isAgg79
  z41:=Tryz.sizeOf79
  v41:=Tryz.zeroValue79
  t44:=Tryz.underlying152
  a44:=Tryz.isAgg152
  z44:=Tryz.sizeOf152
  v44:=Tryz.zeroValue152
  t46:=Tryz.underlying154
  a46:=Tryz.isAgg154
  z46:=Tryz.sizeOf154
  v46:=Tryz.zeroValue154
  t53:=Tryz.underlying181
  a53:=Tryz.isAgg181
  z53:=Tryz.sizeOf181
  v53:=Tryz.zeroValue181
  t57:=Tryz.underlying185
  a57:=Tryz.isAgg185
  z57:=Tryz.sizeOf185
  v57:=Tryz.zeroValue185
  t63:=Tryz.underlying202
  a63:=Tryz.isAgg202
  z63:=Tryz.sizeOf202
  v63:=Tryz.zeroValue202
  t64:=Tryz.underlying203
  a64:=Tryz.isAgg203
  z64:=Tryz.sizeOf203
  v64:=Tryz.zeroValue203 }
end Go.Proofs
namespace Go.Ev
open Go
def KE (t:Ty):Prop:=∀ a b:t.den,yw t a b=true<->a=b
theorem xH:KE .str:=λa b=>by simp [yw]
section
variable {t:Ty} {β:Type}
theorem KE.ne (h:KE t) {a b:t.den} (hn:a≠b):yw t a b=false:=by
 cases e:yw t a b with
 | false=>rfl
 | true=>exact absurd ((h a b).1 e) hn
theorem KE.eq (h:KE t) (a:t.den):yw t a a=true:=(h a a).2 rfl
theorem wU (h:KE t) {k:t.den}:∀ {l:List (t.den×β)},zO t l k=none<->∀ p∈l,p.1≠k
 | []=>by simp [zO]
 | e::r=>by
  by_cases he:e.1=k
  ·simp only [zO,(h e.1 k).2 he,zI];constructor
   ·intro h';cases h'
   ·intro h';exact absurd he (h' e (by simp))
  ·simp only [zO,h.ne he,zK,wU h (l:=r),List.mem_cons,forall_eq_or_imp,ne_eq];exact ⟨λh'=>⟨he,h'⟩,λh'=>h'.2⟩
theorem uo (h:KE t) {k:t.den} {x:β}:∀ {l:List (t.den×β)},zO t l k=some x->(k,x)∈l
 | [],e=>by simp [zO] at e
 | e::r,h'=>by
  by_cases he:e.1=k
  ·simp only [zO,(h e.1 k).2 he,zI,y5] at h';obtain ⟨a,b⟩:=e;simp only at he h';subst he;subst h';simp
  ·simp only [zO,h.ne he,zK] at h';exact List.mem_cons_of_mem _ (uo h h')
theorem vE (h:KE t) {k:t.den} {x:β}:∀ {l:List (t.den×β)},(l.map (·.1)).Nodup->(k,x)∈l->zO t l k=some x
 | [],_,hm=>by simp at hm
 | e::r,hn,hm=>by
  simp only [List.map_cons,List.nodup_cons,List.mem_map,not_exists,not_and] at hn;rcases List.mem_cons.1 hm with rfl | hm
  ·simp only [zO,h.eq,zI]
  ·have he:e.1≠k:=λe'=>hn.1 (k,x) hm e'.symm
   simp only [zO,h.ne he,zK];exact vE h hn.2 hm
theorem mapSet_new (h:KE t) {k:t.den} {x:β}:∀ {l:List (t.den×β)},zO t l k=none->yA t l k x=l++[(k,x)]
 | [],_=>rfl
 | e::r,hg=>by
  have he:e.1≠k:=(wU h).1 hg e (by simp);simp only [zO,h.ne he,zK] at hg;simp only [yA,h.ne he,zK,mapSet_new h hg,List.cons_append]
theorem mapSet_keys (h:KE t) {k:t.den} {x y:β}:∀ {l:List (t.den×β)},zO t l k=some y->(yA t l k x).map (·.1)=l.map (·.1)
 | [],e=>by simp [zO] at e
 | e::r,hg=>by
  by_cases he:e.1=k
  ·have hk:yw t e.1 k=true:=(h e.1 k).2 he;simp only [yA,hk,zI,List.map_cons];rw [he]
  ·simp only [zO,h.ne he,zK] at hg;simp only [yA,h.ne he,zK,List.map_cons,mapSet_keys h hg]
theorem mapSet_nd (h:KE t) {k:t.den} {x:β} {l:List (t.den×β)} (hn:(l.map (·.1)).Nodup):((yA t l k x).map (·.1)).Nodup:=by
 cases hg:zO t l k with
 | none =>
  rw [mapSet_new h hg,List.map_append,List.nodup_append];refine ⟨hn,by simp,λa ha b hb=>?_⟩;simp only [List.map_cons,List.map_nil,List.mem_singleton] at hb;subst hb;obtain ⟨p,hp,rfl⟩:=List.mem_map.1 ha;exact (wU h).1 hg p hp
 | some y=>rw [mapSet_keys h hg];exact hn
theorem sD (h:KE t) {k:t.den} {x:β} {l:List (t.den×β)}:(yA t l k x).length=cond (zO t l k).isSome l.length (l.length+1):=by
 cases hg:zO t l k with
 | none=>simp [mapSet_new h hg]
 | some y =>
  have:=congrArg List.length (mapSet_keys h (x:=x) hg)
  simpa using this
theorem sC (h:KE t) {k:t.den} {x:β}:∀ {l:List (t.den×β)},(l.map (·.1)).Nodup->∀ p,p∈yA t l k x<->p=(k,x)\/(p∈l/\p.1≠k)
 | [],_,p=>by simp [yA]
 | e::r,hn,p=>by
  simp only [List.map_cons,List.nodup_cons,List.mem_map,not_exists,not_and] at hn;by_cases he:e.1=k
  ·simp only [yA,(h e.1 k).2 he,zI,List.mem_cons];constructor
   ·rintro (rfl | hp)
    ·exact .inl rfl
    ·exact .inr ⟨.inr hp,λe'=>hn.1 p hp (by rw [e',he])⟩
   ·rintro (rfl | ⟨rfl | hp,hne⟩)
    ·exact .inl rfl
    ·exact absurd he hne
    ·exact .inr hp
  ·simp only [yA,h.ne he,zK,List.mem_cons,sC h hn.2 p];constructor
   ·rintro (rfl | rfl | ⟨hp,hne⟩)
    ·exact .inr ⟨.inl rfl,he⟩
    ·exact .inl rfl
    ·exact .inr ⟨.inr hp,hne⟩
   ·rintro (rfl | ⟨rfl | hp,hne⟩)
    ·exact .inr (.inl rfl)
    ·exact .inl rfl
    ·exact .inr (.inr ⟨hp,hne⟩)
theorem mapDel_sub:∀ (l:List (t.den×β)) (k:t.den),(yk t l k).Sublist l
 | [],_=>by simp [yk]
 | e::r,k=>by
  cases he:yw t e.1 k with
  | true=>simp only [yk,he,zI];exact List.sublist_cons_self _ _
  | false=>simp only [yk,he,zK];exact (mapDel_sub r k).cons_cons _
theorem mapDel_nd {k:t.den} {l:List (t.den×β)} (hn:(l.map (·.1)).Nodup):((yk t l k).map (·.1)).Nodup:=((mapDel_sub l k).map _).nodup hn
theorem sE (h:KE t) {k:t.den}:∀ {l:List (t.den×β)},(l.map (·.1)).Nodup->∀ p,p∈yk t l k<->p∈l/\p.1≠k
 | [],_,p=>by simp [yk]
 | e::r,hn,p=>by
  simp only [List.map_cons,List.nodup_cons,List.mem_map,not_exists,not_and] at hn;by_cases he:e.1=k
  ·simp only [yk,(h e.1 k).2 he,zI,List.mem_cons];constructor
   ·intro hp;exact ⟨.inr hp,λe'=>hn.1 p hp (by rw [e',he])⟩
   ·rintro ⟨rfl | hp,hne⟩
    ·exact absurd he hne
    ·exact hp
  ·simp only [yk,h.ne he,zK,List.mem_cons,sE h hn.2 p];constructor
   ·rintro (rfl | ⟨hp,hne⟩)
    ·exact ⟨.inl rfl,he⟩
    ·exact ⟨.inr hp,hne⟩
   ·rintro ⟨rfl | hp,hne⟩
    ·exact .inl rfl
    ·exact .inr ⟨hp,hne⟩
theorem mapDel_len (h:KE t) {k:t.den} {y:β}:∀ {l:List (t.den×β)},zO t l k=some y->(yk t l k).length+1=l.length
 | [],e=>by simp [zO] at e
 | e::r,hg=>by
  by_cases he:e.1=k
  ·simp only [yk,(h e.1 k).2 he,zI,List.length_cons]
  ·simp only [zO,h.ne he,zK] at hg;simp only [yk,h.ne he,zK,List.length_cons,mapDel_len h hg]
theorem mapGet_set (h:KE t) {l:List (t.den×β)} (hn:(l.map (·.1)).Nodup) {k k':t.den} {x:β}:zO t (yA t l k x) k'=cond (yw t k' k) (some x) (zO t l k'):=by
 by_cases hk:k'=k
 ·subst hk;rw [h.eq,zI];exact vE h (mapSet_nd h hn) ((sC h hn _).2 (.inl rfl))
 ·rw [h.ne hk,zK]
  cases hg:zO t l k' with
  | none =>
   rw [wU h] at hg ⊢;intro p hp;rcases (sC h hn p).1 hp with rfl | ⟨hp,_⟩
   ·exact λe=>hk e.symm
   ·exact hg p hp
  | some y=>exact vE h (mapSet_nd h hn) ((sC h hn _).2 (.inr ⟨uo h hg,hk⟩))
theorem mapGet_del (h:KE t) {l:List (t.den×β)} (hn:(l.map (·.1)).Nodup) {k k':t.den}:zO t (yk t l k) k'=cond (yw t k' k) none (zO t l k'):=by
 by_cases hk:k'=k
 ·subst hk;rw [h.eq,zI,wU h];exact λp hp=>((sE h hn p).1 hp).2
 ·rw [h.ne hk,zK]
  cases hg:zO t l k' with
  | none =>
   rw [wU h] at hg ⊢;exact λp hp=>hg p ((sE h hn p).1 hp).1
  | some y=>exact vE h (mapDel_nd hn) ((sE h hn _).2 ⟨uo h hg,hk⟩)
end
end Go.Ev
namespace Go.So
open Go Go.Ev Go.Proofs Go.RowKit Go.Maps Go.Sort Go.MapKept Go.ChangeMaps Go.WideShapes Go.Shelf
open Go.WideElems (Fit rd rg pl rd_val rd_mk rg_of)
set_option maxRecDepth 100000
def R0:Value->Option (DataW Unit×List MemPlace):=λ_=>some (.nil,[])
def keysOK {β:Type} (l:List (List UInt8×β)):Bool:=decide (l.length<=1048576)&&l.all λp=>decide (p.1.length<=maxLen)
def wV {β:Type} (l:List (List UInt8×β)):List (List UInt8):=(l.map (·.1)).mergeSort λx y=>decide (x<=y)
theorem keys_at {w:World} {N:NN} {vt:Ty} {ag:Bool} {l:List (List UInt8×vt.den)} {es:List MapEntry} (h:RelM w N .str vt ag l es):es.length=l.length/\∀ i,(h1:i<l.length)->(h2:i<es.length)->es[i].key=encStr l[i].1:=by
 refine ⟨h.1,λi h1 h2=>?_⟩;obtain ⟨r1,cs,r2,r3⟩:=h.2 i h1 h2;simp only [RelD] at r1;simpa [encStr] using r1
theorem ownsK {w:World} {N:NN} {vt:Ty} {ag:Bool} {l:List (List UInt8×vt.den)} {es:Array MapEntry} {c g:Nat} (hg:w.heap[g]?=some (.map es c)) (hs:Stamped es c) (h:RelM w N .str vt ag l es.toList) (hn:l.length<=maxLen) (hk:∀ p∈l,p.1.length<=maxLen) :
  ∃ D0:DataW Unit,w.ownsMap Tryz.prog 9 R0 g l.length D0/\Maps.size D0=l.length/\(strKeys D0).Perm (l.map (·.1)):=by
 obtain ⟨hl,hent⟩:=keys_at h;have hsz:es.size=l.length:=by simpa using hl
 have hread:∀ x∈es.toList,∃ p∈l,x.key=encStr p.1:=λx hx=>by
  obtain ⟨i,hi,rfl⟩:=List.getElem_of_mem hx;have hi':i<l.length:=by omega
  exact ⟨l[i],List.getElem_mem _,hent i hi' hi⟩
 have hread':∀ p∈l,∃ x∈es.toList,x.key=encStr p.1:=λp hp=>by
  obtain ⟨i,hi,rfl⟩:=List.getElem_of_mem hp;have hi':i<es.toList.length:=by omega
  exact ⟨es.toList[i],List.getElem_mem _,hent i hi hi'⟩
 have hkey:∀ p∈l,keyOf Tryz.prog 9 (encStr p.1)=some (.string p.1):=λp hp=>by
  have:=Go.WideMaps.keyOf_string_mk Tryz.underlying9 (s:=⟨p.1.toArray⟩) (by have:=hk p hp;show p.1.toArray.size<=maxLen;rw [List.size_toArray];exact this)
  simpa [encStr] using this
 have hrd:∀ p∈l,∀ x:MapEntry,x.key=encStr p.1->rd Tryz.prog 9 R0 x=some (.string p.1,.nil):=λp hp x h1=>by
  have:=rd_mk (P:=Tryz.prog) (k:=9) (R:=R0) (key:=x.key) (val:=x.val) (born:=x.born) (by rw [h1];exact hkey p hp) rfl
  exact this
 have F:Fit Tryz.prog 9 R0 es c:=⟨by omega,hs,λx hx=>by
  obtain ⟨p,hp,h1⟩:=hread x hx
  exact ⟨_,hrd p hp x h1⟩⟩
 have K:=string_keyed Tryz.underlying9;have hown:w.ownsMap Tryz.prog 9 R0 g l.length (.map ((es.toList.map (rg Tryz.prog 9 R0)).foldr DataW.insert [])):=⟨es,c,hg,F,by omega,rfl⟩;refine ⟨_,hown,by simp [Maps.size,length_sorted,hsz],?_⟩
 have hnodk:(l.map (·.1)).Nodup:=by
  have hn:=hs.2.2
  have:es.toList.map (·.key)=(l.map (·.1)).map encStr:=by
   apply List.ext_getElem
   ·simp [hsz]
   ·intro i h1 h2;simp only [List.getElem_map];exact hent i (by simpa using h2) (by simpa using h1)
  rw [this] at hn;rw [List.Nodup,List.pairwise_map] at hn;exact hn.imp λh e=>h (by rw [e])
 have hkeys:∀ x,x∈strKeys (DataW.map ((es.toList.map (rg Tryz.prog 9 R0)).foldr DataW.insert []):DataW Unit)<->x∈l.map (·.1):=λx=>by
  simp only [strKeys,List.mem_map];constructor
  ·rintro ⟨q,hq,rfl⟩;obtain ⟨y,hy,rfl⟩:=List.mem_map.1 (mem_sorted.1 hq);obtain ⟨p,hp,h1⟩:=hread y hy;rw [rg_of (hrd p hp y h1)];exact ⟨p,hp,rfl⟩
  ·rintro ⟨p,hp,rfl⟩;obtain ⟨y,hy,h1⟩:=hread' p hp;refine ⟨rg Tryz.prog 9 R0 y,mem_sorted.2 (List.mem_map.2 ⟨y,hy,rfl⟩),?_⟩;rw [rg_of (hrd p hp y h1)];rfl
 refine (List.perm_ext_iff_of_nodup ?_ hnodk).2 hkeys;obtain ⟨es',e1,e2,e3⟩:=hown.entries K
 cases e1;show (List.map (λ(p:Lit×DataW Unit)=>strOf p.1) _).Nodup;rw [List.Nodup,List.pairwise_map];refine e2.imp_of_mem λ{p q} hp hq hne e=>hne ?_
 obtain ⟨y,hy,rfl⟩:=List.mem_map.1 (mem_sorted.1 hp);obtain ⟨z,hz,rfl⟩:=List.mem_map.1 (mem_sorted.1 hq);obtain ⟨p',hp',h1⟩:=hread y hy;obtain ⟨q',hq',h3⟩:=hread z hz;rw [rg_of (hrd p' hp' y h1),rg_of (hrd q' hq' z h3)] at e ⊢;simpa [strOf] using e
theorem merge_perm {a b:List (List UInt8)} (h:a.Perm b):a.mergeSort (λx y=>decide (x<=y))=b.mergeSort λx y=>decide (x<=y):=by
 have tr:∀ x y z:List UInt8,decide (x<=y)=true->decide (y<=z)=true->decide (x<=z)=true:=λx y z h1 h2=>by
  simp only [xX] at *;exact List.le_trans h1 h2
 have tl:∀ x y:List UInt8,(decide (x<=y)||decide (y<=x))=true:=λx y=>by
  simp only [Bool.or_eq_true,xX];exact List.le_total _ _
 refine List.Perm.eq_of_pairwise (le:=λx y=>decide (x<=y)=true) (λx y _ _ h1 h2=>?_) (List.pairwise_mergeSort tr tl a) (List.pairwise_mergeSort tr tl b) (((List.mergeSort_perm a _).trans h).trans (List.mergeSort_perm b _).symm);simp only [xX] at h1 h2;exact List.le_antisymm h1 h2
theorem sortsA (m:Nat):AnyZ.SortsIn Tryz.prog Tryz.sortedA_ren Fence.wide m :=
  ⟨λblk off cap ss W hH hblk hsz=>callsIn_wide.2 (AnyM.slices_Sort_string Tryz.sortA blk off cap ss W hH hblk hsz),
   λp cap W=>callsIn_wide.2 (AnyM.slices_Sort_string_none Tryz.sortA p cap W)⟩
theorem sortedK (w:World) {Bm b:Nat} {N:NN} {vt:Ty} {ag:Bool} {l:List (List UInt8×vt.den)} {es:Array MapEntry} {c:Nat} (hBm:Bm<w.heap.size) (hm:w.cell? ⟨Bm,0,none⟩=some (.map (some b)))
  (hg:w.heap[b]?=some (.map es c)) (hs:Stamped es c) (hM:RelM w N .str vt ag l es.toList) (hOK:keysOK l=true) :
  Calls Tryz.prog 28 #[.func (.func 51) #[] #[.pointer (some ⟨Bm,0,none⟩)]] w λe w'=>∃ v:Value,e=.returned v/\w'.ownsRow w.heap.size 9 1 v (wV l).length ((wV l).map encStr)/\Go.RowKit.Below w.heap.size w w':=by
 simp only [keysOK,yR,xX,List.all_eq_true] at hOK;obtain ⟨hlen,hOK⟩:=hOK;have hmx:(1048576:Nat)<=maxLen:=by decide
 obtain ⟨D0,hown,hsize,hperm⟩:=ownsK hg hs hM (by omega) hOK
 have hseq:SeqGives Fence.wide 2 Tryz.prog 51 #[.pointer (some ⟨Bm,0,none⟩)] encStr (λss=>ss.Perm (strKeys D0)) (Maps.size D0) w :=
  AnyZ.keys_gives (ρ:=Tryz.keysA_ren) { Tryz.keysA with } Fence.wide _ trivial rfl (by omega) Bm b l.length D0 _ hBm hm hown
 have cS:=AnyZ.sorted_in Tryz.sortedA Fence.wide 5 trivial trivial trivial trivial rfl (by omega) (sortsA _) (enters_of Tryz.func50 (by kernel_rfl) rfl) 51 #[.pointer (some ⟨Bm,0,none⟩)] trivial (enters_of Tryz.func51 (by kernel_rfl) rfl) _ _ (by rw [hsize];omega) (by rw [hsize];omega) _ hseq;change CallsIn _ _ Tryz.prog 28 _ _ _ at cS;refine ((callsIn_wide (n:=5)).1 cS).mono λe w' ⟨v,ss,he,hS,hrow,_,hb⟩=>⟨v,he,?_,hb⟩
 have e1:ss.mergeSort (λx y=>decide (x<=y))=wV l:=merge_perm (hS.trans hperm);rw [e1] at hrow;have e2:ss.length=(wV l).length:=by rw [<- e1,List.length_mergeSort]
 rw [e2] at hrow;exact hrow
def mapSome (H:Nat->Blk):AV->Option (Sigma λkt:Ty=>Sigma λvt:Ty=>List (kt.den×vt.den))
 | .mp m=>match H m with
  | .mapd kt vt _ l=>some ⟨kt,vt,l⟩
  | _=>none
 | .fz (.mp kt vt _) l=>some ⟨kt,vt,l⟩
 | _=>none
theorem mapSome_ok {T:Tb} {F:Frm T} {μ:Nat->Option Nat} {H:Nat->Blk} {nx:Nat} {w:World} (hp:Hp F μ H nx w) {x:AV} {v:Value} {kt vt:Ty} {l:List (kt.den×vt.den)} (hx:zA w (Ev.Not F μ H) μ H x v) (h:mapSome H x=some ⟨kt,vt,l⟩) :
  ∃ g es c ag,v=.map (some g)/\w.heap[g]?=some (.map es c)/\Stamped es c/\RelM w (Ev.Not F μ H) kt vt ag l es.toList:=by
 cases x <;> simp only [mapSome,reduceCtorEq] at h
 ·rename_i m;split at h
  ·rename_i kt' vt' ag l' hm
   cases h;simp only [zA] at hx;obtain ⟨_,gm,hgm,rfl⟩:=hx;have hM:=hp.blk m;simp only [hm,za] at hM;rcases hM with hM | ⟨gm',es,c,hgm',hh,hst,hrel⟩
   ·rw [hgm] at hM;cases hM
   rw [hgm] at hgm'
   cases hgm';exact ⟨gm,es,c,ag,rfl,hh,hst,hrel⟩
  ·cases h
 ·rename_i t y
  cases t <;> simp only [reduceCtorEq] at h;rename_i kt' vt' ag
  cases h;simp only [zA,RelD] at hx;obtain ⟨⟨a,he,g,es,c,rfl,_,_,g4,g5,g6,g7⟩,_⟩:=hx
  cases he;exact ⟨g,es,c,ag,rfl,g4,g5,g6,g7⟩
def zSortedKeys:xV:=λargs S=>match args with
 | [.fn f [.ptr b o]]=>cond (Nat.beq f 51&&Nat.beq o 0) (match S.H b with
  | .vars [m]=>match mapSome S.H m with
   | some ⟨kt,vt,l⟩=>if h:kt=.str then some (keysOK (β:=vt.den) (castM h rfl l),.wh S.nx,⟨S.E,zp S.H S.nx (.data .str (wV (β:=vt.den) (castM h rfl l))),S.nx+1,S.kl⟩) else none
   | _=>none
  | _=>none) none
 | _=>none
theorem zSorted28:ZOK Tryz.prog 28 zSortedKeys:=by
 refine ⟨Tryz.call28,λargs S v S' h F μ w vals hp hr=>?_⟩;unfold zSortedKeys at h;split at h
 ·rename_i f b o;obtain ⟨h1,h2⟩:=zB h;clear h;simp only [yR] at h1;obtain ⟨hf,ho⟩:=h1;have hf:=xi hf;have ho:=xi ho;subst hf;subst ho;split at h2
  ·rename_i m hb;split at h2
   ·rename_i kt vt l hm;split at h2
    ·rename_i e1;subst e1;rw [y5,Prod.mk.injEq,Prod.mk.injEq] at h2;obtain ⟨hOK,rfl,rfl⟩:=h2;simp only [castM] at hOK ⊢;simp only [zC,zA] at hr;obtain ⟨v1,_,rfl,⟨vs1,rfl,vp,_,rfl,⟨hlive,gp,hgp,rfl⟩,rfl⟩,rfl⟩:=hr;have hB:=hp.blk b;simp only [hb,za] at hB;rcases hB with hB | ⟨gp',cs,hgp',hcs,hrow,hroom⟩
     ·rw [hgp] at hB;cases hB
     rw [hgp] at hgp'
     cases hgp';simp only [zC] at hcs;obtain ⟨cv,_,rfl,hcv,rfl⟩:=hcs;obtain ⟨gm,es,c,ag,rfl,hh,hst,hrel⟩:=mapSome_ok hp hcv hm;have hcell:w.cell? ⟨gp,0,none⟩=some (.map (some gm)):=hrow 0 (by simp);refine (sortedK w (hp.lt b gp hlive hgp) hcell hh hst hrel hOK).mono λe w' ⟨v,he,hres,hbl⟩=>?_
     subst he;rcases hres.2 with ⟨rfl,hz⟩ | ⟨gb,cap,cur,rfl,hbase,hgb,r1,r2,r3,r4⟩
     ·have hnil:wV l=[]:=List.eq_nil_of_length_eq_zero hz;rw [hnil];obtain ⟨μ',kl,r1,r2,r3,r4,r5⟩:=new_nilN (S:=S) (t:=.str) hp hbl;exact ⟨μ',kl,_,rfl,r1,r2,r3,r4,r5⟩
     ·have hgl:gb<w'.heap.size:=(Array.getElem?_eq_some_iff.1 hgb).1
      have hcell2:∀ i (hi:i<(wV l).length),w'.cell? ⟨gb,i,none⟩=some (encStr (wV l)[i]):=λi hi=>by
       have h5:cur.toList[i]?=some (encStr (wV l)[i]):=by
        have h6:((wV l).map encStr)[i]?=some (encStr (wV l)[i]):=by
         rw [List.getElem?_map,List.getElem?_eq_getElem hi];rfl
        rw [<- r4,List.getElem?_take_of_lt (by omega)] at h6;exact h6
       simp only [World.cell?,hgb];rw [<- Array.getElem?_toList];exact h5
      obtain ⟨μ',kl,k1,k2,k3,k4,k5⟩:=new_dataN (S:=S) (t:=.str) (l:=wV l) hp hbl hbase hgl r1 (λk hk=>by
        have hk':k<cur.size:=by rw [r3];exact hk
        refine ⟨?_,by simp [World.frozen?,hgb]⟩;simp only [World.cell?,hgb]
        simp [hk'])
       (λ_ c e m hc=>by
        rw [hgb] at hc
        cases hc
        simp)
       (λc e m hc=>by
        rw [hgb] at hc
        cases hc
        exact Nat.le_refl _)
       (λi hi=>⟨[encStr (wV l)[i]],rfl,λk hk=>by
        have hk0:k=0:=by simpa using hk
        subst hk0
        simpa [Ty.size] using hcell2 i hi,by simp [RelD,encStr]⟩)
      exact ⟨μ',kl,_,rfl,k1,k2,k3,k4,k5⟩
    ·cases h2
   ·cases h2
  ·cases h2
 ·cases h
end Go.So
