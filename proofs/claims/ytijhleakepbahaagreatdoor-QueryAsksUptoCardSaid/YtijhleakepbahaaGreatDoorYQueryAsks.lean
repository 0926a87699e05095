/- Texts that the last one leans on: its own. -/
import Derived.Test.YtijhleakepbahaaGreatDoorZK
namespace Go.Qy
open Go Go.Ev Go.Proofs
set_option maxRecDepth 100000
noncomputable def F3 (p:Q62×Unit):Option Q31:=(Option.bind (F6 ((p.1.1,p.1.2.1,()),())) λr1=>(Option.bind (F7 ((p.1.1,p.1.2.1,()),())) λr2=>(some (((r1.1.1 == r2.1.1)&&(decide (r1.1.2.1=r2.1.2.1))),()))))
noncomputable def O3:Orc:=⟨Q58,[],.b,[],F3⟩
noncomputable def H3:HT:=.leaf
noncomputable def X3:List (FuncId×Orc):=[(6,O6),(7,O7)]
noncomputable def Z3:List (FuncId×Deed):=[(8,(zOrc O8t))]
theorem run3 (p):evTop Tryz.prog (CX X3 [] Z3 []) (MX X3 []) Tryz.f3 H3 O3 p=F3 p:=by kernel_rfl
theorem ok3:O3.OK Tryz.prog 3:=ok0 run3 Tryz.func3 Tryz.call3 (hX:=⟨ok6,⟨ok7,trivial⟩⟩) (hZ:=⟨(zOrc_ok ok8t),trivial⟩)
end Go.Qy
namespace Go.Qy
open Go Go.Ev
set_option maxRecDepth 100000
theorem law3 (l:List Key) (x:SX) (hl:∀ k∈l,small k) (hb:x.2.2.2.2.2.1.length<=1100000):F3 ((l,x,()),())=some (true,()):=by
 obtain ⟨r,h1,h2,_⟩:=eval2 l x hl hb
 simp only [F3,h1,h2,oBs,BEq.rfl,dTr,bAs]
theorem law3' (l:List Key) (x:ST.den) (hl:sizD (.sl KT) l<=1100000) (hx:sizD ST x<=1100000) :
  F3 ((l,(x.1,x.2.1,x.2.2.1,x.2.2.2.1.1,x.2.2.2.1.2.1,x.2.2.2.1.2.2.1,()),()),())=some (true,()) :=
 law3 l _ (small_of hl) (small_x hx)
end Go.Qy
