/- Texts that the last one leans on, 2. -/
import Derived.Test.YtipfcejaekfogaaGreatDoorTA
import Derived.Laws.BytesString
import Derived.Laws.Rows
import Derived.Laws.MakeOwn
import Derived.Laws.AppendOwn
namespace Go.Ev
open Go
section
variable {P:Program} {w:World} {N:NN} {μ:Nat->Option Nat} {H:Nat->Blk} {α:Type} {r:α}
theorem isNilSl_eq {u:Value} (h:ux u=true):u=.slice none 0 0:=by
 unfold ux at h;split at h
 ·rfl
 ·cases h
theorem pickIx_at {i:Int} {K:Nat->Option α}:∀ {n k:Nat},pickIx i K n k=some r->(k:Int)<=i/\i<(k:Int)+(n:Int)/\K i.toNat=some r
 | 0,_,h=>by cases h
 | n+1,k,h=>by
  simp only [pickIx] at h;by_cases e:i=(k:Int)
  ·subst e;rw [zm rfl] at h;exact ⟨Int.le_refl _,by omega,by simpa using h⟩
  ·rw [yv e] at h;obtain ⟨h1,h2,h3⟩:=pickIx_at (n:=n) (k:=k+1) h;exact ⟨by omega,by omega,h3⟩
theorem wT {i:Int} {K:Nat->Option α} {n:Nat} (h:pickIx i K n 0=some r):0<=i/\i<(n:Int)/\K i.toNat=some r:=by
 obtain ⟨h1,h2,h3⟩:=pickIx_at h;exact ⟨by omega,by omega,h3⟩
theorem nilEq_ok {e q:Bool} {K:Bool->Option α} (hq:e=false->q=false) (h:nilEq e K=some r):K q=some r:=by
 unfold nilEq at h
 cases e with
 | false=>rw [hq rfl];exact h
 | true =>
  obtain ⟨h1,h2⟩:=agr_some h
  cases q
  ·exact h2
  ·exact h1
theorem run_equalIn_nil {t e:TypeId} (hu:P.underlying t=some (.slice e)) (ad:Option Addr) (n c d:Nat) (w':World):(Op.equalIn (d+1) t (.slice ad n c) (.slice none 0 0)).run P w'=.ok ad.isNone w':=by
 unfold Op.equalIn
 cases ad <;> simp [run_underlying hu]
theorem nil_yields {t:TypeId} {ty:Ty} {l:List ty.den} {a:Value} (ht:isSlTy P t=true) (hx:zA w N μ H (.sl ty l) a) :
  ∃ q:Bool,(l.isEmpty=false->q=false)/\zs P w .eql t a (.slice none 0 0) (.bool q)/\zs P w .neq t a (.slice none 0 0) (.bool (!q)):=by
 simp only [zA,RelD] at hx;obtain ⟨ad,c,hv,hc,hr⟩:=hx;simp only [List.cons.injEq,and_true] at hv;subst hv;unfold isSlTy at ht;split at ht
 ·rename_i e hu;refine ⟨ad.isNone,λhe=>?_,?_,?_⟩
  ·have hp:0<l.length:=by
    cases l with
    | nil=>simp at he
    | cons _ _=>simp
   obtain ⟨g,o,h1,_⟩:=hr hp;rw [h1];rfl
  ·refine zg (by simp) (by simp) λw' _=>?_
   have:=run_equalIn_nil hu ad l.length c 9999 w'
   simp only [binOp,Op.equal,Op.maxDepth,Sem.run_bind,this,Result.andThen_ok,Sem.run_pure]
  ·refine zg (by simp) (by simp) λw' _=>?_
   have:=run_equalIn_nil hu ad l.length c 9999 w'
   simp only [binOp,Op.equal,Op.maxDepth,Sem.run_bind,this,Result.andThen_ok,Sem.run_pure]
 ·cases ht
theorem nilB_rel {x:AV} {q:Bool}:zA w N μ H (nilB x q) (.bool q):=by
 unfold nilB;split <;> simp [zA]
theorem run_equalIn_ptr {t e:TypeId} (hu:P.underlying t=some (.pointer e)) (ad:Option Addr) (d:Nat) (w':World):(Op.equalIn (d+1) t (.pointer ad) (.pointer none)).run P w'=.ok ad.isNone w':=by
 unfold Op.equalIn
 cases ad <;> simp [run_underlying hu]
theorem run_equalIn_map {t k e:TypeId} (hu:P.underlying t=some (.map k e)) (ad:Option Nat) (d:Nat) (w':World):(Op.equalIn (d+1) t (.map ad) (.map none)).run P w'=.ok ad.isNone w':=by
 unfold Op.equalIn
 cases ad <;> simp [run_underlying hu]
theorem nilRef_yields {t:TypeId} {x:AV} {a v:Value} {q:Bool} (h:nilRef P t x v=some q) (hx:zA w N μ H x a):zs P w .eql t a v (.bool q)/\zs P w .neq t a v (.bool (!q)):=by
 have ptr:∀ {e:TypeId} (ad:Option Addr),P.underlying t=some (.pointer e)->ad.isNone=q->zs P w .eql t (.pointer ad) (.pointer none) (.bool q)/\zs P w .neq t (.pointer ad) (.pointer none) (.bool (!q)):=λad hu hq=>by
  subst hq;constructor
  ·refine zg (by simp) (by simp) λw' _=>?_
   have:=run_equalIn_ptr hu ad 9999 w'
   simp only [binOp,Op.equal,Op.maxDepth,Sem.run_bind,this,Result.andThen_ok,Sem.run_pure]
  ·refine zg (by simp) (by simp) λw' _=>?_
   have:=run_equalIn_ptr hu ad 9999 w'
   simp only [binOp,Op.equal,Op.maxDepth,Sem.run_bind,this,Result.andThen_ok,Sem.run_pure]
 have map:∀ {k e:TypeId} (ad:Option Nat),P.underlying t=some (.map k e)->ad.isNone=q->zs P w .eql t (.map ad) (.map none) (.bool q)/\zs P w .neq t (.map ad) (.map none) (.bool (!q)):=λad hu hq=>by
  subst hq;constructor
  ·refine zg (by simp) (by simp) λw' _=>?_
   have:=run_equalIn_map hu ad 9999 w'
   simp only [binOp,Op.equal,Op.maxDepth,Sem.run_bind,this,Result.andThen_ok,Sem.run_pure]
  ·refine zg (by simp) (by simp) λw' _=>?_
   have:=run_equalIn_map hu ad 9999 w'
   simp only [binOp,Op.equal,Op.maxDepth,Sem.run_bind,this,Result.andThen_ok,Sem.run_pure]
 unfold nilRef at h;split at h
 ·rename_i e b o hu
  cases h;simp only [zA] at hx;obtain ⟨_,g,_,rfl⟩:=hx;exact ptr _ hu rfl
 ·rename_i e c b o hu
  cases h;simp only [zA] at hx;obtain ⟨_,⟨rfl,g,_,rfl⟩ | ⟨rfl,rfl⟩⟩:=hx
  ·exact ptr _ hu rfl
  ·exact ptr _ hu rfl
 ·rename_i e _ x hu
  cases h;simp only [zA,RelD] at hx;obtain ⟨⟨p,he,⟨h1,rfl⟩ | ⟨g,o,y,es,h1,_,rfl,_⟩⟩,_⟩:=hx
  ·cases he;exact ptr _ hu (by cases x <;> simp_all)
  ·cases he;exact ptr _ hu (by cases x <;> simp_all)
 ·rename_i e hu
  cases h;simp only [zA] at hx;subst hx;exact ptr _ hu rfl
 ·rename_i k e b hu
  cases h;simp only [zA] at hx;obtain ⟨_,g,_,rfl⟩:=hx;exact map _ hu rfl
 ·rename_i k e _ _ _ _ hu
  cases h;simp only [zA,RelD] at hx;obtain ⟨⟨p,he,g,_,_,rfl,_⟩,_⟩:=hx
  cases he;exact map _ hu rfl
 ·rename_i k e hu
  cases h;simp only [zA] at hx;subst hx;exact map _ hu rfl
 ·cases h
theorem evBinS_ok {op:BinOp} {t:TypeId} {x y:AV} {a b:Value} {K:Bool->AV->Option α} (hx:zA w N μ H x a) (hy:zA w N μ H y b) (h:evVal.evBinS P op t x y K=some r) :
    ∃ side v,K side v=some r/\(side=true->∃ val,zA w N μ H v val/\zs P w op t a b val):=by
  unfold evVal.evBinS at h;split at h
  . rename_i k m k' n;simp only [zA] at hx hy;subst hx;subst hy;obtain ⟨hk,hc⟩:=zB h;have hk':k=k':=by simpa using hk
    subst hk';refine ⟨_,_,hc,λhs=>⟨_,wr_ok,zg (by simp) (by simp) λw' _=>?_⟩⟩;have hn:n≠0:=by simpa using hs
    rw [uG (by simp) (by simp)];simp [yg,Op.intDiv,hn]
  . rename_i k m k' n;simp only [zA] at hx hy;subst hx;subst hy;obtain ⟨hk,hc⟩:=zB h;have hk':k=k':=by simpa using hk
    subst hk';refine ⟨_,_,hc,λhs=>⟨.int k (m.tmod n),rfl,zg (by simp) (by simp) λw' _=>?_⟩⟩;have hn:n≠0:=by simpa using hs
    rw [uG (by simp) (by simp)];simp [yg,Op.intDiv,hn]
  . rename_i m n;simp only [zA] at hx hy;subst hx;subst hy;refine ⟨_,_,h,λhs=>⟨.int .u8 ((m/n).toNat:Int),rfl,zg (by simp) (by simp) λw' _=>?_⟩⟩;have hn:n≠0:=by simpa using hs
    have hn':¬ n.toNat=0:=λh0=>hn (UInt8.toNat_inj.1 (by simpa using h0))
    have hn'':¬ (n.toNat:Int)=0:=by omega
    have hm:=u8_toNat m;rw [uG (by simp) (by simp)];simp only [yg,Op.intDiv,hn'',if_false,Sem.run_pure];refine congrArg (λz=>Result.ok (Value.int .u8 z) w') ?_;rw [ui,UInt8.toNat_div,<- Int.ofNat_tdiv];have h3:=Nat.div_le_self m.toNat n.toNat;generalize m.toNat/n.toNat=q at h3 ⊢;omega
  . rename_i m n;simp only [zA] at hx hy;subst hx;subst hy;refine ⟨_,_,h,λhs=>⟨.int .u8 ((m % n).toNat:Int),rfl,zg (by simp) (by simp) λw' _=>?_⟩⟩;have hn:n≠0:=by simpa using hs
    have hn':¬ n.toNat=0:=λh0=>hn (UInt8.toNat_inj.1 (by simpa using h0))
    have hn'':¬ (n.toNat:Int)=0:=by omega
    rw [uG (by simp) (by simp)];simp only [yg,Op.intDiv,hn'',if_false,Sem.run_pure];refine congrArg (λz=>Result.ok (Value.int .u8 z) w') ?_;rw [UInt8.toNat_mod,Int.ofNat_tmod]
  . rename_i m n;simp only [zA] at hx hy;subst hx;subst hy;refine ⟨_,_,h,λhs=>⟨.string ⟨(m++n).toArray⟩,rfl,zg (by simp) (by simp) λw' _=>?_⟩⟩;have hl:m.length+n.length<=9223372036854775807:=by simpa [fits] using hs
    have he:(IntKind.i64.max:Int)=9223372036854775807:=by decide
    have hsz:¬ (((⟨m.toArray⟩:ByteArray).size+(⟨n.toArray⟩:ByteArray).size:Nat):Int)>IntKind.i64.max:=by
      rw [he];have h1:(⟨m.toArray⟩:ByteArray).size=m.length:=by simp [ByteArray.size]
      have h2:(⟨n.toArray⟩:ByteArray).size=n.length:=by simp [ByteArray.size]
      rw [h1,h2];omega
    have:binOp .add t (.string ⟨m.toArray⟩) (.string ⟨n.toArray⟩)=Op.stringOp .add ⟨m.toArray⟩ ⟨n.toArray⟩:=by simp [binOp]
    rw [this];simp only [Op.stringOp,if_neg hsz,Sem.run_pure,ByteArray.mk_append_mk]
  . rename_i k m k' n;simp only [zA] at hx hy;subst hx;subst hy;refine ⟨_,_,h,λhs=>⟨_,wr_ok,zg (by simp) (by simp) λw' _=>?_⟩⟩
    have hn : ¬ n < 0 := by have : 0 ≤ n := by simpa using hs
                            omega
    simp [binOp,Op.shift,hn]
  . rename_i k m k' n;simp only [zA] at hx hy;subst hx;subst hy;refine ⟨_,_,h,λhs=>⟨.int k (m.fdiv (2^(min n.toNat k.bits))),rfl,zg (by simp) (by simp) λw' _=>?_⟩⟩
    have hn : ¬ n < 0 := by have : 0 ≤ n := by simpa using hs
                            omega
    simp [binOp,Op.shift,hn]
  . rename_i m k' n;simp only [zA] at hx hy;subst hx;subst hy;refine ⟨_,_,h,λhs=>⟨.int .u8 ((UInt8.ofNat (m.toNat*2^(min n.toNat 8))).toNat:Int),rfl,zg (by simp) (by simp) λw' _=>?_⟩⟩
    have hn : ¬ n < 0 := by have : 0 ≤ n := by simpa using hs
                            omega
    have e:(((UInt8.ofNat (m.toNat*2^(min n.toNat 8))).toNat:Nat):Int)=IntKind.u8.wrap ((m.toNat:Int)*2^(min n.toNat 8)):=by
      rw [ui];simp [UInt8.toNat_ofNat']
    rw [e];simp [binOp,Op.shift,hn,show IntKind.u8.bits=8 from rfl]
  . obtain ⟨h1,h2⟩:=zB h;simp only [yR] at h1;simp only [zA] at hy;have hy':=isNilSl_eq h1.1;subst hy;subst hy';obtain ⟨q,hq,h3,_⟩:=nil_yields h1.2 hx;exact ⟨true,_,nilEq_ok hq h2,λ_=>⟨.bool q,rfl,h3⟩⟩
  . obtain ⟨h1,h2⟩:=zB h;simp only [yR] at h1;simp only [zA] at hy;have hy':=isNilSl_eq h1.1;subst hy;subst hy';obtain ⟨q,hq,_,h3⟩:=nil_yields h1.2 hx;exact ⟨true,_,nilEq_ok hq h2,λ_=>⟨.bool (!q),rfl,h3⟩⟩
  . split at h
    . rename_i q hq;simp only [zA] at hy;subst hy;exact ⟨true,_,h,λ_=>⟨.bool q,nilB_rel,(nilRef_yields hq hx).1⟩⟩
    . obtain ⟨v,val,hK,hv,hb⟩:=evBin_ok hx hy h;exact ⟨true,v,hK,λ_=>⟨val,hv,hb⟩⟩
  . split at h
    . rename_i q hq;simp only [zA] at hy;subst hy;exact ⟨true,_,h,λ_=>⟨.bool (!q),nilB_rel,(nilRef_yields hq hx).2⟩⟩
    . obtain ⟨v,val,hK,hv,hb⟩:=evBin_ok hx hy h;exact ⟨true,v,hK,λ_=>⟨val,hv,hb⟩⟩
  . obtain ⟨v,val,hK,hv,hb⟩:=evBin_ok hx hy h;exact ⟨true,v,hK,λ_=>⟨val,hv,hb⟩⟩
theorem evUn_ok {op:UnOp} {x:AV} {a:Value} {K:AV->Option α} (hx:zA w N μ H x a) (h:evUn op x K=some r) :
  ∃ v val,K v=some r/\zA w N μ H v val/\∀ w',(Op.unary op a).run P w'=.ok val w':=by
 unfold evUn at h;split at h
 ·simp only [zA] at hx;subst hx;exact ⟨_,_,h,wr_ok,λw'=>by simp [Op.unary,Op.intArith]⟩
 ·simp only [zA] at hx;subst hx;exact ⟨_,_,h,rfl,λw'=>by simp [Op.unary]⟩
 ·simp only [zA] at hx;subst hx;exact ⟨_,_,h,rfl,λw'=>by simp [Op.unary]⟩
 ·cases h
theorem xo {x:AV} {a:Value} {K:Int->Option α} (hx:zA w N μ H x a) (h:vo x K=some r):∃ k n,a=.int k n/\K n=some r:=by
 cases x <;> first | (simp only [vo,reduceCtorEq] at h;done) | simp only [vo] at h
 ·simp only [zA] at hx;exact ⟨_,_,hx,h⟩
 ·simp only [zA] at hx;exact ⟨_,_,hx,h⟩
def v6 (v:Option Value) (d n:Int):Prop:=(v=none/\n=d)\/∃ k,v=some (.int k n)
theorem xU {ρ:Operand->Value} {ρA:Operand->AV} (hρ:∀ x,RelG w N μ H ρ (ρA x) (ρ x)) {x:Option Operand} {d:Int} {K:Int->Option α}
  (h:x6 (x.map ρA) d K=some r):∃ n,K n=some r/\v6 (x.map ρ) d n:=by
 cases x with
 | none=>exact ⟨d,h,.inl ⟨rfl,rfl⟩⟩
 | some x =>
  obtain ⟨k,n,ha,hK⟩:=xo (hρ x).rel h;exact ⟨n,hK,.inr ⟨k,by simp [ha]⟩⟩
theorem run_bounds {isSlice:Bool} {len cap:Nat} {lo hi:Option Value} {a z:Int} (hlo:v6 lo 0 a) (hhi:v6 hi len z) (h0:0<=a) (h1:a<=z) (h2:z<=(len:Int)) (hc:len<=cap) (w':World) :
  (Instr.sliceBounds isSlice len cap lo hi none).run P w'=.ok (a.toNat,z.toNat,cap) w':=by
 have e1:0<=z/\z<=(cap:Int):=⟨by omega,by omega⟩;have e2:0<=a/\a<=((z.toNat:Nat):Int):=⟨h0,by omega⟩;have e3:0<=a/\a<=(len:Int):=⟨h0,by omega⟩
 rcases hlo with ⟨rfl,rfl⟩ | ⟨k,rfl⟩ <;> rcases hhi with ⟨rfl,rfl⟩ | ⟨k',rfl⟩ <;>
  simp only [Instr.sliceBounds,Instr.sliceBound,asIntOf,Sem.run_bind,Sem.run_pure,Result.andThen_ok,Sem.run_ite,e1,e2,e3,and_self,if_true,Option.isSome_none,Bool.false_eq_true,if_false,Int.toNat_zero,yF]
theorem szOK_run {e:TypeId} {t:Ty} (h:tu P e t=true) (w':World):(sizeOf e).run P w'=.ok t.size w':=by
 unfold tu at h
 cases hi:P.info? e with
 | none=>simp [hi] at h
 | some i =>
  simp only [hi] at h;rw [yi hi,xi h]
theorem vU {t e:TypeId} {ty:Ty} (ht:P.underlying t=some (.slice e)) (hs:tu P e ty=true) {ad:Option Addr} {len cap:Nat} {lo hi:Option Value} {a z:Int}
  (hlo:v6 lo 0 a) (hhi:v6 hi len z) (h0:0<=a) (h1:a<=z) (h2:z<=(len:Int)) (hc:len<=cap) (w':World) :
  (Instr.sliceAt t (.slice ad len cap) lo hi none).run P w' =
   .ok (.slice (if cap=a.toNat then ad else ad.map (·.add (a.toNat*ty.size))) (z.toNat-a.toNat) (cap-a.toNat)) w':=by
 have hu:=run_underlying ht w';simp only [Instr.sliceAt,Sem.run_bind,hu,Result.andThen_ok,Instr.slice,run_bounds hlo hhi h0 h1 h2 hc,szOK_run hs,Sem.run_pure]
theorem run_bounds3 {isSlice:Bool} {len cap:Nat} {lo:Option Value} {k k':IntKind} {a z m:Int} (hlo:v6 lo 0 a) (h0:0<=a) (h1:a<=z) (h2:z<=m) (hc:m<=(cap:Int)) (w':World) :
  (Instr.sliceBounds isSlice len cap lo (some (.int k z)) (some (.int k' m))).run P w'=.ok (a.toNat,z.toNat,m.toNat) w':=by
 have e1:0<=z/\z<=((m.toNat:Nat):Int):=⟨by omega,by omega⟩;have e2:0<=a/\a<=((z.toNat:Nat):Int):=⟨h0,by omega⟩;have e3:0<=m/\m<=(cap:Int):=⟨by omega,by omega⟩
 rcases hlo with ⟨rfl,rfl⟩ | ⟨k,rfl⟩ <;>
  simp only [Instr.sliceBounds,Instr.sliceBound,asIntOf,Sem.run_bind,Sem.run_pure,Result.andThen_ok,Sem.run_ite,e1,e2,e3,and_self,if_true,Option.isSome_some,Int.toNat_zero]
theorem tx {t e:TypeId} {ty:Ty} (ht:P.underlying t=some (.slice e)) (hs:tu P e ty=true) {ad:Option Addr} {len cap:Nat} {lo:Option Value} {k k':IntKind} {a z m:Int}
  (hlo:v6 lo 0 a) (h0:0<=a) (h1:a<=z) (h2:z<=m) (hc:m<=(cap:Int)) (w':World) :
  (Instr.sliceAt t (.slice ad len cap) lo (some (.int k z)) (some (.int k' m))).run P w' =
   .ok (.slice (if m.toNat=a.toNat then ad else ad.map (·.add (a.toNat*ty.size))) (z.toNat-a.toNat) (m.toNat-a.toNat)) w':=by
 have hu:=run_underlying ht w';simp only [Instr.sliceAt,Sem.run_bind,hu,Result.andThen_ok,Instr.slice,run_bounds3 hlo h0 h1 h2 hc,szOK_run hs,Sem.run_pure]
theorem run_sliceStr {t:TypeId} (ht:P.underlying t=some .string) {s:List UInt8} {lo hi:Option Value} {a z:Int}
  (hlo:v6 lo 0 a) (hhi:v6 hi (s.length:Int) z) (h0:0<=a) (h1:a<=z) (h2:z<=(s.length:Int)) (w':World) :
  (Instr.sliceAt t (.string ⟨s.toArray⟩) lo hi none).run P w'=.ok (.string ⟨((s.drop a.toNat).take (z.toNat-a.toNat)).toArray⟩) w':=by
 have hu:=run_underlying ht w';have hsz:(⟨s.toArray⟩:ByteArray).size=s.length:=by simp [ByteArray.size]
 have hb:=run_bounds (P:=P) (isSlice:=false) hlo hhi h0 h1 h2 (Nat.le_refl _) w';simp [Instr.sliceAt,hu,Instr.slice,hsz,hb,ByteArray.extract_mk]
end
end Go.Ev
namespace Go.Ev
open Go
section
variable {P:Program} {w:World} {T:Tb} {F:Frm T} {μ:Nat->Option Nat} {H:Nat->Blk} {nx:Nat} {α:Type} {r:α}
def SlRow (w:World) (N:NN) (t:Ty) (l:List t.den) (v:Value):Prop :=
 ∃ a c,v=.slice a l.length c/\l.length<=c/\(0<l.length->∃ g o,a=some ⟨g,o,none⟩/\g<w.heap.size/\Unf w N g o (l.length*t.size) /\
  ∀ i,(h:i<l.length)->∃ es,es.length=t.size/\rowAt w g (o+i*t.size) es/\RelD w N t l[i] es)
theorem SlRow.sub {N:NN} {t:Ty} {l:List t.den} {g o lo n c:Nat} (hlt:0<l.length->g<w.heap.size) (hu:Unf w N g o (l.length*t.size))
  (hr:∀ i,(h:i<l.length)->∃ es,es.length=t.size/\rowAt w g (o+i*t.size) es/\RelD w N t l[i] es) (hle:lo+n<=l.length) (hc:n<=c)
  {o':Nat} (ho:o'=o+lo*t.size\/n=0):SlRow w N t ((l.drop lo).take n) (.slice (some ⟨g,o',none⟩) n c):=by
 have hlen:((l.drop lo).take n).length=n:=by simp;omega
 refine ⟨some ⟨g,o',none⟩,c,by rw [hlen],by rw [hlen];exact hc,λhp=>?_⟩;rw [hlen] at hp;have ho':o'=o+lo*t.size:=by omega
 refine ⟨g,o',rfl,hlt (by omega),λhn k hk=>?_,λi hi=>?_⟩
 ·rw [hlen] at hk
  have h1:lo*t.size+k<l.length*t.size:=by
   have:(lo+n)*t.size<=l.length*t.size:=uf _ hle;rw [Nat.add_mul] at this;omega
  rw [ho',Nat.add_assoc];exact hu hn _ h1
 rw [hlen] at hi;obtain ⟨es,h1,h2,h3⟩:=hr (lo+i) (by omega);refine ⟨es,h1,?_,?_⟩
 ·rw [ho',Nat.add_assoc,<- Nat.add_mul];exact h2
 ·have:((l.drop lo).take n)[i]=l[lo+i]:=by simp
  rw [this];exact h3
theorem tW (hp:Hp F μ H nx w) {t:Ty} {x:AV} {v:Value} {K:List t.den->Option α} (hx:zA w (Not F μ H) μ H x v) (h:uu H t x K=some r) :
  ∃ l,K l=some r/\SlRow w (Not F μ H) t l v:=by
 unfold uu at h
 cases x <;> simp only [reduceCtorEq] at h
 case sl t' l =>
  split at h
  ·rename_i ht;subst ht;simp only [zA,RelD] at hx;obtain ⟨a,c,hv,hc,hrow⟩:=hx;simp only [List.cons.injEq,and_true] at hv;refine ⟨l,h,a,c,hv,hc,λhl=>?_⟩;obtain ⟨g,o,ha,_,hg,hu,hr⟩:=hrow hl;exact ⟨g,o,ha,hg,hu,hr⟩
  ·split at h
   ·rename_i ht;subst ht;simp only [zA,RelD] at hx;obtain ⟨a,c,hv,hc,hrow⟩:=hx;simp only [List.cons.injEq,and_true] at hv;refine ⟨l,h,a,c,hv,hc,λhl=>?_⟩;obtain ⟨g,o,ha,_,hg,hu,hr⟩:=hrow hl;exact ⟨g,o,ha,hg,hu,hr⟩
   ·cases t <;> simp only [itemsMx,reduceCtorEq] at h;rename_i u _ _;split at h
    ·rename_i ht;subst ht;obtain ⟨hc,h⟩:=zB h;simp only [zA,RelD] at hx;obtain ⟨a,c,hv,hcc,hrow⟩:=hx;simp only [List.cons.injEq,and_true] at hv;refine ⟨_,h,a,c,by simpa using hv,by simpa using hcc,λhl=>?_⟩;obtain ⟨g,o,ha,_,hg,hu,hr⟩:=hrow (by simpa using hl);have hsz:(Ty.ln u.inn).size=(Ty.mx u).size:=by simp only [Ty.size];exact y3 u
     rw [hsz] at hu hr;refine ⟨g,o,ha,hg,by simpa using hu,λi hi=>?_⟩;obtain ⟨es,e1,e2,e3⟩:=hr i (by simpa using hi);refine ⟨es,e1,e2,?_⟩;simp only [RelD,List.getElem_map];exact ⟨hc,RelD.innLow hc e3,λh=>by cases h⟩
    ·cases h
 case c u =>
  simp only [zA] at hx;subst hx;split at h
  all_goals first
   | (cases h;done)
   | (rename_i heq;cases heq;done)
   | (rename_i heq;cases heq;exact ⟨[],h,none,0,rfl,Nat.le_refl _,λhh=>absurd hh (by simp)⟩)
   | (rename_i heq;subst heq;exact ⟨[],h,none,0,rfl,Nat.le_refl _,λhh=>absurd hh (by simp)⟩)
 case wh b =>
  simp only [zA] at hx;obtain ⟨t',l,hb,hv⟩:=hx;simp only [hb] at h;split at h
  ·rename_i ht;subst ht;refine ⟨l,h,?_⟩;rcases hv with ⟨g,c,hg,rfl,hc,hrm⟩ | ⟨_,rfl,rfl⟩
   ·refine ⟨_,c,rfl,hc,λhl=>⟨g,0,rfl,hp.lt b g (by simp [hb]) hg,λ_ k hk=>?_,λi hi=>?_⟩⟩
    ·rw [Nat.zero_add];exact (hrm k (Nat.lt_of_lt_of_le hk (uf _ hc))).2
    have hB:=hp.blk b;simp only [hb,za] at hB;rcases hB with ⟨hn,_⟩ | ⟨g',hg',_,hr⟩
    ·rw [hg] at hn;cases hn
    ·rw [hg] at hg';cases hg';simpa using hr i hi
   ·exact ⟨none,0,rfl,Nat.le_refl _,λhh=>absurd hh (by simp)⟩
  ·cases h
 case win b lo n =>
  simp only [zA] at hx;obtain ⟨t',l,hb,hle,hv⟩:=hx;simp only [hb] at h;split at h
  ·rename_i ht;subst ht;refine ⟨_,h,?_⟩;rcases hv with ⟨g,c,o,hg,rfl,hc,hrm,ho⟩ | ⟨_,rfl,rfl⟩
   ·have hB:=hp.blk b;simp only [hb,za] at hB;rcases hB with ⟨hn,_⟩ | ⟨g',hg',_,hr⟩
    ·rw [hg] at hn;cases hn
    ·rw [hg] at hg';cases hg'
     refine SlRow.sub (o:=0) (λ_=>hp.lt b g (by simp [hb]) hg) (λ_ k hk=>by
      rw [Nat.zero_add]
      exact (hrm k (Nat.lt_of_lt_of_le hk (uf _ hc))).2) (λi hi=>by simpa using hr i hi) hle (by omega) ?_
     rcases ho with rfl | ⟨rfl,_⟩
     ·left;omega
     ·right;omega
   ·have h0:lo=0/\n=0:=by simp at hle;omega
    obtain ⟨rfl,rfl⟩:=h0;exact ⟨none,0,rfl,Nat.le_refl _,λhh=>absurd hh (by simp)⟩
  ·cases h
theorem lenOf_ok {x:AV} {v:Value} {K:Nat->Option α} (hx:zA w (Not F μ H) μ H x v) (h:lenOf H x K=some r) :
  ∃ n,K n=some r/\∃ a c,v=.slice a n c:=by
 unfold lenOf at h
 cases x <;> simp only [reduceCtorEq] at h
 case sl t l =>
  simp only [zA,RelD] at hx;obtain ⟨a,c,hv,_⟩:=hx;simp only [List.cons.injEq,and_true] at hv;exact ⟨_,h,⟨a,c,hv⟩⟩
 case c u =>
  simp only [zA] at hx;subst hx;split at h
  all_goals first
   | (cases h;done)
   | (rename_i heq;cases heq;done)
   | (rename_i heq;cases heq;exact ⟨0,h,none,0,rfl⟩)
   | (rename_i heq;subst heq;exact ⟨0,h,none,0,rfl⟩)
 case wh b =>
  simp only [zA] at hx;obtain ⟨t,l,hb,hv⟩:=hx;simp only [hb] at h;rcases hv with ⟨g,c,_,rfl,_⟩ | ⟨_,rfl,rfl⟩
  ·exact ⟨_,h,_,c,rfl⟩
  ·exact ⟨_,h,none,0,rfl⟩
 case win b lo n =>
  simp only [zA] at hx;obtain ⟨t,l,hb,hle,hv⟩:=hx;rcases hv with ⟨g,c,o,_,rfl,_⟩ | ⟨_,rfl,rfl⟩
  ·exact ⟨_,h,_,_,rfl⟩
  ·have:n=0:=by simp at hle;omega
   subst this;exact ⟨_,h,none,0,rfl⟩
theorem bytes_fold:∀ (l:List UInt8) (acc:List UInt8),(l.map λb=>(b.toNat:Int)).foldl (λ(r:ByteArray) n=>r.push (UInt8.ofNat n.toNat)) ⟨acc.toArray⟩=⟨(acc++l).toArray⟩
 | [],acc=>by simp
 | b::l,acc=>by
  have hb:(⟨acc.toArray⟩:ByteArray).push (UInt8.ofNat ((b.toNat:Int)).toNat)=⟨(acc++[b]).toArray⟩:=by
   apply ByteArray.ext;simp [ByteArray.push]
  simp only [List.map_cons,List.foldl_cons,hb,bytes_fold l (acc++[b]),lAs,List.singleton_append]
theorem run_bytes {X:Nat->Nat->Prop} {N:NN} {l:List UInt8} {v:Value} (h:SlRow w N .u8 l v) (hX:∀ g o n c,v=.slice (some ⟨g,o,none⟩) n c->0<n->∀ k,¬ X g k) {w':World} (hw:Agr X w w'):(Conv.bytesToString v).run P w'=.ok (.string ⟨l.toArray⟩) w':=by
 obtain ⟨a,c,rfl,_,hr⟩:=h
 cases l with
 | nil =>
  cases a with
  | none=>simp [Conv.bytesToString];rfl
  | some a =>
   exact run_bytesToString (P:=P) w' a 0 c [] (by simp [loadCells,loadCellsFrom])
 | cons x xs =>
  obtain ⟨g,o,rfl,hg,_,hrow⟩:=hr (by simp)
  have hl:rowAt w' g o ((x::xs).map λb=>Value.int .u8 (b.toNat:Int)):=by
   intro i hi;simp only [List.length_map] at hi;obtain ⟨es,h1,h2,h3⟩:=hrow i hi;simp only [RelD] at h3;subst h3;have h4:=hw.row (λk _ _=>hX _ _ _ _ rfl (by simp) k) h2 0 (by simp);simp only [Ty.size,Nat.mul_one,Nat.add_zero] at h4;rw [h4,List.getElem_map];rfl
  have hc:=run_cells (P:=P) hl;rw [List.length_map] at hc;have hm:((x::xs).map λb=>Value.int .u8 (b.toNat:Int))=((x::xs).map λb=>(b.toNat:Int)).map (Value.int .u8):=by simp
  rw [hm] at hc;rw [run_bytesToString w' _ _ c _ hc]
  have:=bytes_fold (x::xs) []
  simp only [List.nil_append] at this;exact congrArg (λz=>Result.ok (Value.string z) w') this
end
end Go.Ev
namespace Go.Ev
open Go
section
variable {P:Program} {w:World} {N:NN} {T:Tb} {F:Frm T} {μ:Nat->Option Nat} {H:Nat->Blk} {nx:Nat} {α:Type} {r:α}
theorem vJ {x:AV} {v:Value} {K:List AV->Option α} (hx:zA w N μ H x v) (h:wE x K=some r) :
  ∃ cs,K cs=some r/\zC w N μ H cs v.cells.toList:=by
 unfold wE at h
 cases x <;> simp only [reduceCtorEq] at h
 case agg cs =>
  simp only [zA] at hx;obtain ⟨vs,rfl,hvs⟩:=hx;exact ⟨cs,h,by simpa [Value.cells] using hvs⟩
 case c u =>
  obtain ⟨h1,h2⟩:=zB h;simp only [zA] at hx;subst hx;refine ⟨_,h2,?_⟩
  cases v <;> simp_all [Value.cells,zC,zA,notAgg]
 all_goals
  refine ⟨_,h,?_⟩;have hx':=hx;simp only [zA,RelD] at hx'
  have:v.cells=#[v]:=by
   cases v <;> first | rfl | (exfalso;simp_all;done) | (exfalso;rcases hx' with ⟨_,_,_,h⟩ | _ <;> simp_all;done) | (exfalso;obtain ⟨_,_,_,h⟩:=hx';simp_all;done) | skip
   all_goals first | (exfalso;obtain ⟨_,_,_,⟨_,_,_,h,_⟩ | ⟨_,_,h⟩⟩:=hx' <;> simp_all;done) | (exfalso;obtain ⟨_,_,_,_,⟨_,_,_,_,h,_⟩ | ⟨_,_,h⟩⟩:=hx' <;> simp_all;done) | skip
  rw [this];simp only [zC];exact ⟨v,[],rfl,hx,rfl⟩
theorem splice_ok {cs vs:List AV} {X V:List Value} {o:Nat} (hx:zC w N μ H cs X) (hv:zC w N μ H vs V):zC w N μ H (splice cs o vs) (X.take o++V++X.drop (o+V.length)):=by
 unfold splice;rw [yU hv];exact x7 (x7 (vL o hx) hv) (xu _ hx)
theorem fold_set:∀ (V:List Value) (cells:List Value) (off k:Nat),off+k+V.length<=cells.length ->
  (V.zipIdx k).foldl (λ(cs:Array Value) (p:Value×Nat)=>cs.setIfInBounds (off+p.2) p.1) cells.toArray=(cells.take (off+k)++V++cells.drop (off+k+V.length)).toArray
 | [],cells,off,k,_=>by simp
 | v::V,cells,off,k,h=>by
  simp only [List.length_cons] at h;simp only [List.zipIdx_cons,List.foldl_cons,List.length_cons];have h1:(cells.toArray.setIfInBounds (off+k) v)=(cells.set (off+k) v).toArray:=by simp
  rw [h1,fold_set V (cells.set (off+k) v) off (k+1) (by simp<;>omega)];congr 1;apply List.ext_getElem?;intro i;simp only [List.getElem?_append,List.getElem?_drop,xe,xG,List.length_set,List.length_cons,List.getElem?_take,List.getElem?_set,List.getElem?_cons]
  (repeat' split) <;> first | rfl | (congr 1;omega) | omega | (simp_all;omega) | skip
  all_goals (try simp_all) <;> (try omega)
  all_goals (congr 1;omega)
theorem zeroCells_ok {t:TypeId} {K:List AV->Option α} (h:zeroCells P t K=some r) :
  ∃ cs z,K cs=some r/\zC w N μ H cs z.cells.toList/\∀ w',(zeroValue t).run P w'=.ok z w':=by
 unfold zeroCells at h
 cases hi:P.info? t with
 | none=>simp [hi] at h
 | some i =>
  simp only [hi] at h
  cases hz:i.zero with
  | none=>simp [hz] at h
  | some z =>
   simp only [hz] at h;obtain ⟨cs,hK,hr⟩:=vJ (w:=w) (N:=N) (μ:=μ) (H:=H) (absV_ok z) h;exact ⟨cs,z,hK,hr,λw'=>by simp [zeroValue,typeInfo,hi,hz]⟩
theorem run_places (fs:List Field) (h:∀ f∈fs,(P.info? f.type).isSome=true) (w':World) :
  (fs.mapM λf=>do pure (f.offset,<- sizeOf f.type):Sem (List (Nat×Nat))).run P w'=.ok (fs.map λf=>(f.offset,P.cellsOf f.type)) w':=by
 induction fs with
 | nil=>simp
 | cons f fs ih =>
  have hf:=h f (by simp)
  cases hi:P.info? f.type with
  | none=>simp [hi] at hf
  | some i =>
   have ih':=ih λg hg=>h g (by simp [hg])
   simp only [List.mapM_cons,Sem.run_bind,yi hi,Result.andThen_ok,Sem.run_pure,ih',List.map_cons];simp [Program.cellsOf,hi]
theorem fillAV_ok {fs:Array Field}:∀ {ps:List (Nat×AV)} {cs:List AV} {X:List Value} {vs:List (Nat×Value)} {K:List AV->Option α},
  zC w N μ H cs X->(ps.length=vs.length/\∀ (k:Nat) (p:Nat×AV) (v:Nat×Value),ps[k]?=some p->vs[k]?=some v->p.1=v.1/\zA w N μ H p.2 v.2)->fillAV P fs.toList cs ps K=some r ->
  ∃ cs' X',K cs'=some r/\zC w N μ H cs' X'/\Instr.fill (λi=>(fs.map λf=>(f.offset,P.cellsOf f.type))[i]?) X.toArray vs=some X'.toArray
 | [],cs,X,vs,K,hx,hv,h=>by
  have:vs=[]:=by have:=hv.1;simp at this;exact List.length_eq_zero_iff.1 this.symm
  subst this;exact ⟨cs,X,h,hx,rfl⟩
 | (i,x)::ps,cs,X,vs,K,hx,hv,h=>by
  obtain ⟨hlen,hall⟩:=hv
  cases vs with
  | nil=>simp at hlen
  | cons p vs =>
   obtain ⟨i',v⟩:=p;obtain ⟨e1,e2⟩:=hall 0 (i,x) (i',v) rfl rfl;simp only at e1 e2;subst e1;simp only [fillAV] at h
   cases hf:fs.toList[i]? with
   | none=>simp [hf] at h
   | some f =>
    simp only [hf] at h;obtain ⟨ws,h1,hws⟩:=vJ e2 h;obtain ⟨h2,h3⟩:=zB h1;simp only [yR] at h2;have hn:ws.length=P.cellsOf f.type:=xi h2.1;have hb:f.offset+ws.length<=cs.length:=Nat.le_of_ble_eq_true h2.2;have l1:=yU hws;have l2:=yU hx;obtain ⟨cs',X',hK,hr,hfill⟩:=fillAV_ok (splice_ok hx hws) ⟨by simpa using hlen,λk p q hp hq=>hall (k+1) p q (by simpa using hp) (by simpa using hq)⟩ h3;refine ⟨cs',X',hK,hr,?_⟩
    have hplace:(fs.map λf=>(f.offset,P.cellsOf f.type))[i]?=some (f.offset,P.cellsOf f.type):=by
     simp only [Array.getElem?_map];have:fs[i]?=some f:=by simpa using hf
     rw [this];rfl
    have hsz:v.cells.size=ws.length:=by rw [<- l1];simp
    have hcond:(decide (v.cells.size≠P.cellsOf f.type)||decide (f.offset+v.cells.size>X.toArray.size))=false:=by
     simp only [Bool.or_eq_false_iff,decide_eq_false_iff_not,List.size_toArray];constructor <;> omega
    rw [Instr.fill];simp only [hplace,hcond,Bool.false_eq_true,if_false];rw [<- hfill];congr 1
    have:=fold_set v.cells.toList X f.offset 0 (by simp<;>omega)
    simp only [Nat.add_zero] at this;rw [<- this,<- Array.foldl_toList];simp
theorem fillAr_ok {sz:Nat}:∀ {ps:List (Nat×AV)} {cs:List AV} {X:List Value} {vs:List (Nat×Value)} {K:List AV->Option α},
  zC w N μ H cs X->(ps.length=vs.length/\∀ (k:Nat) (p:Nat×AV) (v:Nat×Value),ps[k]?=some p->vs[k]?=some v->p.1=v.1/\zA w N μ H p.2 v.2)->fillAr sz cs ps K=some r ->
  ∃ cs' X',K cs'=some r/\zC w N μ H cs' X'/\Instr.fill (λi=>some (i*sz,sz)) X.toArray vs=some X'.toArray
 | [],cs,X,vs,K,hx,hv,h=>by
  have:vs=[]:=by have:=hv.1;simp at this;exact List.length_eq_zero_iff.1 this.symm
  subst this;exact ⟨cs,X,h,hx,rfl⟩
 | (i,x)::ps,cs,X,vs,K,hx,hv,h=>by
  obtain ⟨hlen,hall⟩:=hv
  cases vs with
  | nil=>simp at hlen
  | cons p vs =>
   obtain ⟨i',v⟩:=p;obtain ⟨e1,e2⟩:=hall 0 (i,x) (i',v) rfl rfl;simp only at e1 e2;subst e1;simp only [fillAr] at h;obtain ⟨ws,h1,hws⟩:=vJ e2 h;obtain ⟨h2,h3⟩:=zB h1;simp only [yR] at h2;have hn:ws.length=sz:=xi h2.1;have hb:i*sz+ws.length<=cs.length:=Nat.le_of_ble_eq_true h2.2;have l1:=yU hws;have l2:=yU hx;obtain ⟨cs',X',hK,hr,hfill⟩:=fillAr_ok (splice_ok hx hws) ⟨by simpa using hlen,λk p q hp hq=>hall (k+1) p q (by simpa using hp) (by simpa using hq)⟩ h3;refine ⟨cs',X',hK,hr,?_⟩;have hsz:v.cells.size=ws.length:=by rw [<- l1];simp
   have hcond:(decide (v.cells.size≠sz)||decide (i*sz+v.cells.size>X.toArray.size))=false:=by
    simp only [Bool.or_eq_false_iff,decide_eq_false_iff_not,List.size_toArray];constructor <;> omega
   rw [Instr.fill];simp only [hcond,Bool.false_eq_true,if_false];rw [<- hfill];congr 1
   have:=fold_set v.cells.toList X (i*sz) 0 (by simp<;>omega)
   simp only [Nat.add_zero] at this;rw [<- this,<- Array.foldl_toList];simp
theorem parts_rel {ρ:Operand->Value} {ρA:Operand->AV} (hρ:∀ x,RelG w N μ H ρ (ρA x) (ρ x)) (ps:List (Nat×Operand)) :
  (ps.map λ(i,x)=>(i,ρA x)).length=(ps.map λ(i,x)=>(i,ρ x)).length/\∀ (k:Nat) (p:Nat×AV) (v:Nat×Value),
   (ps.map λ(i,x)=>(i,ρA x))[k]?=some p->(ps.map λ(i,x)=>(i,ρ x))[k]?=some v->p.1=v.1/\zA w N μ H p.2 v.2:=by
 refine ⟨by simp,λk p v hp hv=>?_⟩;simp only [List.getElem?_map,Option.map_eq_some_iff] at hp hv;obtain ⟨⟨i,x⟩,h1,rfl⟩:=hp;obtain ⟨⟨i',x'⟩,h2,rfl⟩:=hv;rw [h1] at h2;simp only [y5,Prod.mk.injEq] at h2;obtain ⟨rfl,rfl⟩:=h2;exact ⟨rfl,(hρ x).rel⟩
theorem RelVs_map {ρ:Operand->Value} {ρA:Operand->AV} (hρ:∀ x,RelG w N μ H ρ (ρA x) (ρ x)):∀ xs:List Operand,zC w N μ H (xs.map ρA) (xs.map ρ)
 | []=>by simp [zC]
 | x::xs=>by simp only [List.map_cons,zC];exact ⟨_,_,rfl,(hρ x).rel,RelVs_map hρ xs⟩
theorem unGx_ok {ρ:Operand->Value} {x:AV} {v:Value} {c:Operand} {b:Bool} (hx:RelG w N μ H ρ x v) (hc:ρ c=.bool b):zA w N μ H (unGx c b x) v:=by
 unfold unGx
 cases c with
 | tmp j =>
  simp only [unG]
  cases x <;> first | exact hx | skip
  rename_i j' w' y;simp only;by_cases hj:j'=j/\w'=b
  ·obtain ⟨rfl,rfl⟩:=hj;simp only [Nat.beq_refl,BEq.rfl,yW,zI]
   have:=hx hc
   cases y <;> first | exact this | simp [yr,zA]
  ·have:(Nat.beq j' j&&w' == b)=false:=by
    rw [Bool.and_eq_false_iff];by_cases h1:j'=j
    ·right;simp;exact λh2=>hj ⟨h1,h2⟩
    ·left;exact Bool.eq_false_iff.2 λh=>h1 (xi h)
   simp [this,zA]
 | _=>exact hx.rel
theorem run_fieldAt {t:TypeId} {f o:Nat} {ft:TypeId} (h:ve P t f=some (o,ft)) (g b:Nat) (w':World) :
  (Instr.fieldAt t (.pointer (some ⟨g,b,none⟩)) f).run P w'=.ok (.pointer (some ⟨g,b+o,none⟩)) w':=by
 unfold ve at h
 cases hu:P.underlying t with
 | none=>simp [hu] at h
 | some d =>
  cases d <;> simp only [hu,reduceCtorEq] at h;rename_i fs
  cases hf:fs[f]? with
  | none=>simp [hf] at h
  | some fd =>
   simp only [hf] at h
   cases hz:Nat.beq (P.cellsOf fd.type) 0 with
   | true=>simp [hz] at h
   | false =>
    simp only [hz,zK,y5,Prod.mk.injEq] at h;obtain ⟨rfl,rfl⟩:=h
    have hi:∃ i,P.info? fd.type=some i:=by
     cases hi:P.info? fd.type with
     | none=>simp [Program.cellsOf,hi] at hz
     | some i=>exact ⟨i,rfl⟩
    obtain ⟨i,hi⟩:=hi
    have hsz:¬ i.size=0:=by
     intro h0;simp [Program.cellsOf,hi,h0] at hz
    simp [Instr.fieldAt,run_underlying hu,hf,Instr.sureAddr,fieldPlace,yi hi,hsz,xb]
theorem fieldOff_field {t:TypeId} {f o:Nat} {ft:TypeId} (h:ve P t f=some (o,ft)):∃ fs fd,P.underlying t=some (.struct fs)/\fs[f]?=some fd/\fd.offset=o/\fd.type=ft:=by
 unfold ve at h
 cases hu:P.underlying t with
 | none=>simp [hu] at h
 | some d =>
  cases d <;> simp only [hu,reduceCtorEq] at h;rename_i fs
  cases hf:fs[f]? with
  | none=>simp [hf] at h
  | some fd =>
   simp only [hf] at h
   cases hz:Nat.beq (P.cellsOf fd.type) 0 <;> simp [hz] at h;exact ⟨fs,fd,rfl,hf,h.1,h.2⟩
theorem run_indexAt {t e:TypeId} {ty:Ty} (ht:P.underlying t=some (.slice e)) (hs:tu P e ty=true) {g o len cap:Nat} {k:IntKind} {i:Int} (h0:0<=i) (h1:i<(len:Int)) (w':World) :
  (Instr.indexAt t (.slice (some ⟨g,o,none⟩) len cap) (.int k i)).run P w'=.ok (.pointer (some ⟨g,o+i.toNat*ty.size,none⟩)) w':=by
 simp [Instr.indexAt,asIntOf,run_underlying ht,h0,h1,szOK_run hs,xb]
end
end Go.Ev
namespace Go.Ev
open Go
section
variable {P:Program} {X:Nat->Nat->Prop} {w:World} {T:Tb} {F:Frm T} {μ:Nat->Option Nat} {H:Nat->Blk} {nx:Nat} {α:Type} {r:α}
def VOK (P:Program) (X:Nat->Nat->Prop) (w:World) {T:Tb} (F:Frm T) (μ:Nat->Option Nat) (H:Nat->Blk) (ρ:Operand->Value) (op:Op) {α:Type} (K:Bool->AV->Option α) (r:α):Prop :=
 ∃ side v,K side v=some r/\(side=true->∃ val,zA w (Not F μ H) μ H v val/\Yields P X w ρ op val)
theorem VOK.of {ρ:Operand->Value} {op:Op} {K:Bool->AV->Option α} {v:AV} {val:Value} (h:K true v=some r) (hv:zA w (Not F μ H) μ H v val)
  (hy:∀ o:Oper,o.op=op->∀ w',Agr X w w'->(execOp ρ o).run P w'=.ok (.value val) w'):VOK P X w F μ H ρ op K r :=
 ⟨true,v,h,λ_=>⟨val,hv,hy⟩⟩
theorem pick_and {ρ:Operand->Value} {c a:Operand} {x:AV} {cv q:Bool} {w':World} (hc:ρ c=.bool cv) (hu:∀ b,ρ c=.bool b->b=true->zA w (Not F μ H) μ H x (ρ a)) (hx:x=.b q\/x=.kb q)
  (hk:∀ v,ρ (.const v)=v) {o:Oper} (ho:o.op=.pick c a (.const (.bool false))):(execOp ρ o).run P w'=.ok (.value (.bool (cv&&q))) w':=by
 cases cv
 ·simp [execOp,ho,hc,asBool,hk]
 ·have:=hu true hc rfl
  rcases hx with rfl | rfl <;> simp only [zA] at this <;> simp [execOp,ho,hc,asBool,this]
theorem pick_or {ρ:Operand->Value} {c b:Operand} {x:AV} {cv q:Bool} {w':World} (hc:ρ c=.bool cv) (hu:∀ b',ρ c=.bool b'->b'=false->zA w (Not F μ H) μ H x (ρ b)) (hx:x=.b q\/x=.kb q)
  (hk:∀ v,ρ (.const v)=v) {o:Oper} (ho:o.op=.pick c (.const (.bool true)) b):(execOp ρ o).run P w'=.ok (.value (.bool (cv||q))) w':=by
 cases cv
 ·have:=hu false hc rfl
  rcases hx with rfl | rfl <;> simp only [zA] at this <;> simp [execOp,ho,hc,asBool,this]
 ·simp [execOp,ho,hc,asBool,hk]
theorem wrap_small {k:IntKind} {x:UInt8} (h8:k≠.u8) (hi:k≠.i8):k.wrap (x.toNat:Int)=(x.toNat:Int):=by
 have hx:=u8_toNat x
 cases k <;> first | exact absurd rfl h8 | exact absurd rfl hi | (simp [IntKind.wrap,IntKind.bits,IntKind.signed];try omega)
theorem sides {a z l:Int} (h:(decide (0<=a)&&decide (a<=z)&&decide (z<=l))=true):0<=a/\a<=z/\z<=l:=by
 simp only [yR,xX] at h;exact ⟨h.1.1,h.1.2,h.2⟩
theorem sides2 {i l:Int} (h:(decide (0<=i)&&decide (i<l))=true):0<=i/\i<l:=by
 simpa using h
theorem cellsAg_ok {N:NN} {cs:List AV} {vs:List Value} {o n:Nat} {ag:Bool} {K:AV->Option α}
  (hr:zC w N μ H cs vs) (h:wt cs o n ag K=some r) :
  ∃ v val,K v=some r/\zA w N μ H v val/\((ag=true/\val=.agg (vs.toArray.extract o (o+n)))\/(ag=false/\vs[o]?=some val)):=by
 unfold wt at h
 cases ag with
 | true =>
  simp only [zI] at h;obtain ⟨hb,hK⟩:=zB h;refine ⟨_,.agg ((vs.drop o).take n).toArray,hK,?_,.inl ⟨rfl,?_⟩⟩
  ·simp only [zA];exact ⟨_,rfl,vL n (xu o hr)⟩
  ·congr 1;simp [List.extract_eq_take_drop]
 | false =>
  simp only [zK] at h;have hd:=xu o hr
  cases hx:cs.drop o with
  | nil=>simp [hx] at h
  | cons x rest =>
   simp only [hx] at h hd;simp only [zC] at hd;obtain ⟨v,vr,hv,h1,_⟩:=hd;refine ⟨x,v,h,h1,.inr ⟨rfl,?_⟩⟩;have h2:(vs.drop o)[0]?=some v:=by rw [hv];rfl
   simpa using h2
set_option maxHeartbeats 2000000 in
theorem evVal_ok {op:Op} {ρ:Operand->Value} {ρA:Operand->AV} {K:Bool->AV->Option α} (hp:Hp F μ H nx w) (hρ:∀ x,RelG w (Not F μ H) μ H ρ (ρA x) (ρ x)) (hk:∀ v,ρ (.const v)=v)
  (hX:FreeOp P X ρ op) (h:evVal P op ρA H K=some r):VOK P X w F μ H ρ op K r:=by
 cases op <;> simp only [evVal,reduceCtorEq] at h
 case move x=>exact .of h (hρ x).rel λo ho w' _=>by simp [execOp,ho]
 case assign x=>exact .of h (hρ x).rel λo ho w' _=>by simp [execOp,ho]
 case pick c a b =>
  have hc:=(hρ c).rel
  cases hcv:ρA c <;> simp only [hcv,reduceCtorEq] at h hc
  case kb x =>
   simp only [zA] at hc
   cases x
   ·exact .of h (unGx_ok (hρ b) hc) λo ho w' _=>by simp [execOp,ho,hc,asBool]
   ·exact .of h (unGx_ok (hρ a) hc) λo ho w' _=>by simp [execOp,ho,hc,asBool]
  case b cv =>
   simp only [zA] at hc;split at h
   ·have hu:∀ b,ρ c=.bool b->b=true->zA w (Not F μ H) μ H (unGx c true (ρA a)) (ρ a):=λb hb h1=>by subst h1;exact unGx_ok (hρ a) hb
    cases hx:unGx c true (ρA a) <;> simp only [hx,reduceCtorEq] at h hu
    case b q=>exact .of (val:=.bool (cv&&q)) h rfl λo ho w' _=>pick_and hc hu (.inl rfl) hk ho
    case kb q=>exact .of (val:=.bool (cv&&q)) h rfl λo ho w' _=>pick_and hc hu (.inr rfl) hk ho
   ·have hu:∀ b',ρ c=.bool b'->b'=false->zA w (Not F μ H) μ H (unGx c false (ρA b)) (ρ b):=λb' hb h1=>by subst h1;exact unGx_ok (hρ b) hb
    cases hx:unGx c false (ρA b) <;> simp only [hx,reduceCtorEq] at h hu
    case b q=>exact .of (val:=.bool (cv||q)) h rfl λo ho w' _=>pick_or hc hu (.inl rfl) hk ho
    case kb q=>exact .of (val:=.bool (cv||q)) h rfl λo ho w' _=>pick_or hc hu (.inr rfl) hk ho
   ·cases h
 case makeInterface t x =>
  obtain ⟨h1,h2⟩:=zB h;have hx:=(hρ x).rel
  have hn:zA w (Not F μ H) μ H (yr (ρA x)) (ρ x):=by
   cases hx':ρA x <;> rw [hx'] at hx <;> first | exact hx | simp [yr,zA]
  refine .of (val:=.iface t (ρ x)) h2 ⟨_,rfl,hn⟩ λo ho w' _=>?_
  have hmi:(Instr.makeInterface t (ρ x)).run P w'=.ok (.iface t (ρ x)) w':=by
   unfold concreteB at h1
   cases hd:P.underlying t with
   | none=>simp [hd] at h1
   | some d=>cases d <;> first | (simp [hd] at h1;done) | simp [Instr.makeInterface,run_underlying hd]
  simp [execOp,ho,hmi]
 case build t parts =>
  cases hu:P.underlying t with
  | none=>simp [hu] at h
  | some d =>
   cases d <;> simp only [hu,reduceCtorEq] at h
   case array n e =>
    obtain ⟨h1,h2⟩:=zB h;obtain ⟨i,hi⟩:=Option.isSome_iff_exists.1 h1;obtain ⟨cs,z,h3,hz,hrun⟩:=zeroCells_ok (w:=w) (N:=Not F μ H) (μ:=μ) (H:=H) h2;obtain ⟨cs',X',hK,hr,hfill⟩:=fillAr_ok hz (parts_rel hρ parts.toList) h3;refine .of (val:=.agg X'.toArray) hK ⟨X',rfl,hr⟩ λo ho w' _=>?_
    have hparts:(parts.map λ(x:Nat×Operand)=>match x with | (i,x)=>(i,ρ x)).toList=parts.toList.map λ(i,x)=>(i,ρ x):=by simp
    have hsz:P.cellsOf e=i.size:=by simp [Program.cellsOf,hi]
    rw [hsz] at hfill;simp only [execOp,ho,Instr.build,Sem.run_bind,hrun,Result.andThen_ok,run_underlying hu,yi hi,hparts];have hz':z.cells=z.cells.toList.toArray:=by simp
    rw [hz',hfill];simp
   rename_i fs;obtain ⟨h1,h2⟩:=zB h;obtain ⟨cs,z,h3,hz,hrun⟩:=zeroCells_ok (w:=w) (N:=Not F μ H) (μ:=μ) (H:=H) h2;obtain ⟨cs',X',hK,hr,hfill⟩:=fillAV_ok hz (parts_rel hρ parts.toList) h3;refine .of (val:=.agg X'.toArray) hK ⟨X',rfl,hr⟩ λo ho w' _=>?_
   have hpl:=run_places (P:=P) fs.toList (λf hf=>(List.all_eq_true.1 h1) f hf) w'
   have hm:(fs.mapM λf=>do pure (f.offset,<- sizeOf f.type):Sem (Array (Nat×Nat))).run P w'=.ok (fs.map λf=>(f.offset,P.cellsOf f.type)) w':=by
    rw [Array.mapM_eq_mapM_toList];simp only [Sem.run_map,hpl,Result.andThen_ok];exact congrArg (λz=>Result.ok z w') (by apply Array.ext';simp)
   have hparts:(parts.map λ(x:Nat×Operand)=>match x with | (i,x)=>(i,ρ x)).toList=parts.toList.map λ(i,x)=>(i,ρ x):=by simp
   simp only [execOp,ho,Instr.build,Sem.run_bind,hrun,Result.andThen_ok,run_underlying hu,hm,hparts];have hz':z.cells=z.cells.toList.toArray:=by simp
   rw [hz',hfill];simp
 case load t x =>
  obtain ⟨y,val,hK,hy,hrun⟩:=loadAV_ok hp (hρ x).rel hX h;exact .of hK hy λo ho w' hw=>by simp [execOp,ho,hrun w' hw]
 case nilCheck x =>
  have hx:=(hρ x).rel
  cases hv:ρA x <;> simp only [hv,reduceCtorEq] at h hx
  case ptr b o' =>
   have hx':=hx;simp only [zA] at hx';obtain ⟨_,g,_,he⟩:=hx';exact .of h hx λo ho w' _=>by simp [execOp,ho,he]
  case mptr c b o' =>
   refine ⟨_,_,h,λhc=>?_⟩;subst hc;simp only [zA] at hx;obtain ⟨hl,⟨_,g,hg,he⟩ | ⟨hc,_⟩⟩:=hx
   ·exact ⟨ρ x,by simp only [zA];exact ⟨hl,g,hg,he⟩,λo ho w' _=>by simp [execOp,ho,he]⟩
   ·cases hc
  case ep b t i f =>
   have hx':=hx;simp only [zA] at hx';obtain ⟨_,g,_,_,_,he⟩:=hx';exact .of h hx λo ho w' _=>by simp [execOp,ho,he]
  case fp t l i f =>
   have hx':=hx;simp only [zA] at hx';obtain ⟨_,g,_,_,_,he,_⟩:=hx';exact .of h hx λo ho w' _=>by simp [execOp,ho,he]
  case fn f cs =>
   have hx':=hx;simp only [zA] at hx';obtain ⟨vs,he,_⟩:=hx';exact .of h hx λo ho w' _=>by simp [execOp,ho,he]
  case c u =>
   obtain ⟨_,h⟩:=zB h;exact ⟨_,_,h,λhc=>by cases hc⟩
  case fz t y =>
   cases t <;> simp only [reduceCtorEq] at h;rename_i t;obtain ⟨_,h⟩:=zB h;refine ⟨_,_,h,λhc=>?_⟩;simp only [zA,RelD] at hx;obtain ⟨⟨p,he,⟨h1,_⟩ | ⟨g,o,z,es,_,h2,rfl,h4,h5,h6,h7,h8,h9⟩⟩,_⟩:=hx
   ·rw [hc] at h1;cases h1
   injection he with he _
   refine ⟨ρ x,?_,λo ho w' _=>by simp [execOp,ho,he]⟩;simp only [zA];refine ⟨Nat.zero_lt_one,g,o,h4,h5,by simpa using he,es,h7,by simpa using h8,Nat.zero_lt_one,?_,by simpa using h6⟩;simp only [List.getElem_cons_zero];rw [h2];exact h9
 case binOp op t x y ty =>
  obtain ⟨side,v,hK,hs⟩:=evBinS_ok (hρ x).rel (hρ y).rel h;exact ⟨side,v,hK,λhside=>let ⟨val,hv,hb⟩:=hs hside; ⟨val,hv,yields_bin hb⟩⟩
 case unOp op t x =>
  obtain ⟨v,val,hK,hv,hrun⟩:=evUn_ok (P:=P) (hρ x).rel h;exact .of hK hv λo ho w' _=>by simp [execOp,ho,hrun w']
 case convert src dst x =>
  have hx:=(hρ x).rel;split at h
  ·rename_i k n hs hd hv;rw [hv] at hx;simp only [zA] at hx;refine .of h (val:=.int .u8 (n.toNat:Int)) rfl λo ho w' _=>?_
   have:=u8_toNat n
   have hw:IntKind.u8.wrap (n.toNat:Int)=(n.toNat:Int):=by rw [ui];omega
   simp [execOp,ho,convert,run_underlying hs,run_underlying hd,hx,Conv.intToInt,hw]
  ·rename_i k k' n hs hd hv;rw [hv] at hx;simp only [zA] at hx;refine .of h (val:=.int .u8 ((u8of n).toNat:Int)) rfl λo ho w' _=>?_
   simp [execOp,ho,convert,run_underlying hs,run_underlying hd,hx,Conv.intToInt,u8of_toNat]
  ·cases h
  ·rename_i k k' n h8 hi8 hs hd hv;rw [hv] at hx;simp only [zA] at hx;refine .of h (val:=.int k' (n.toNat:Int)) rfl λo ho w' _=>?_
   have hw:k'.wrap (n.toNat:Int)=(n.toNat:Int):=wrap_small (λe=>by subst e;simp_all) (λe=>by subst e;simp_all);simp [execOp,ho,convert,run_underlying hs,run_underlying hd,hx,Conv.intToInt,hw]
  ·rename_i k k' k'' n h8 hs hd hv;rw [hv] at hx;simp only [zA] at hx;refine .of h wr_ok λo ho w' _=>?_
   simp [execOp,ho,convert,run_underlying hs,run_underlying hd,hx,Conv.intToInt]
  ·rename_i l hs hd hv;rw [hv] at hx;refine .of h hx λo ho w' _=>?_
   simp only [zA] at hx;simp [execOp,ho,convert,run_underlying hs,run_underlying hd,hx]
  ·rename_i k k' n hs hd hv;rw [hv] at hx;simp only [zA] at hx;refine .of h (val:=.string ⟨(Utf8.encode n).data.toList.toArray⟩) rfl λo ho w' _=>?_
   simp [execOp,ho,convert,run_underlying hs,run_underlying hd,hx,Conv.intToString]
  ·rename_i v e hs hd
   cases he:P.underlying e with
   | none=>simp [he] at h
   | some d =>
    simp only [he] at h;split at h
    ·rename_i heq
     cases heq;obtain ⟨l,hK,hrow⟩:=tW hp hx h;refine .of hK (val:=.string ⟨l.toArray⟩) rfl λo ho w' hw=>?_
     have hr:=run_bytes (P:=P) hrow hX hw;obtain ⟨a,c,hvv,_⟩:=hrow;rw [hvv] at hr;simp [execOp,ho,convert,run_underlying hs,run_underlying hd,hvv,run_underlying he,hr]
    ·cases h
  ·cases h
 case makeFunc fn first caps =>
  cases fn <;> simp only [reduceCtorEq] at h;obtain ⟨h1,h2⟩:=zB h;have hf:first=#[]:=by simpa using h1
  subst hf;refine .of h2 (val:=.func (.func _) #[] (caps.toList.map ρ).toArray) ⟨_,rfl,RelVs_map hρ _⟩ λo ho w' _=>?_
  have he:caps.map ρ=(caps.toList.map ρ).toArray:=by apply Array.ext';simp
  simp [execOp,ho,Instr.makeFunc,he]
 case fieldAddr t x f =>
  have hx:=(hρ x).rel
  cases hf:ve P t f with
  | none=>simp [hf] at h
  | some q =>
   obtain ⟨o',ft⟩:=q;simp only [hf] at h
   cases hv:ρA x <;> simp only [hv,reduceCtorEq] at h hx
   case ptr b o'' =>
    simp only [zA] at hx;obtain ⟨h1,g,hg,he⟩:=hx;exact .of h (val:=.pointer (some ⟨g,o''+o',none⟩)) ⟨h1,g,hg,rfl⟩ λo ho w' _=>by simp [execOp,ho,he,run_fieldAt hf]
   case ep b ty i fo =>
    simp only [zA] at hx;obtain ⟨l,g,h1,h2,hg,he⟩:=hx;exact .of h (val:=.pointer (some ⟨g,i*ty.size+fo+o',none⟩)) ⟨l,g,h1,h2,hg,by rw [Nat.add_assoc]⟩ λo ho w' _=>by simp [execOp,ho,he,run_fieldAt hf]
   case fp ty l i fo =>
    simp only [zA] at hx;obtain ⟨h1,g,o1,h2,h3,he,h4⟩:=hx;exact .of h (val:=.pointer (some ⟨g,o1+i*ty.size+fo+o',none⟩)) ⟨h1,g,o1,h2,h3,by rw [Nat.add_assoc (o1+i*ty.size)],h4⟩ λo ho w' _=>by simp [execOp,ho,he,run_fieldAt hf]
 case field t x f =>
  have hx:=(hρ x).rel
  cases hf:ve P t f with
  | none=>simp [hf] at h
  | some q =>
   obtain ⟨o',ft⟩:=q;simp only [hf] at h
   cases hv:ρA x <;> simp only [hv,reduceCtorEq] at h hx;rename_i cs;simp only [zA] at hx;obtain ⟨vs,hvv,hr⟩:=hx;obtain ⟨fs,fd,hu,hfd,ho1,ho2⟩:=fieldOff_field hf
   cases hft:P.underlying ft with
   | none=>simp [hft] at h
   | some d =>
    simp only [hft] at h;obtain ⟨v,val,hK,hvr,hc⟩:=cellsAg_ok hr h;refine .of hK hvr λo ho w' _=>?_
    have hpart:(part ft vs.toArray o').run P w'=.ok val w':=by
     unfold part;rw [Sem.run_bind,tK hft];rcases hc with ⟨h1,rfl⟩ | ⟨h1,h2⟩
     ·simp [h1,wS hft]
     ·simp [h1,h2]
    simp [execOp,ho,Instr.field,run_underlying hu,hfd,hvv,asAgg,ho1,ho2,hpart]
 case slice t x lo hi mx =>
  have hx:=(hρ x).rel
  cases mx with
  | some m=>simp at h
  | none =>
   simp only at h
   cases hu:P.underlying t with
   | none=>simp [hu] at h
   | some d =>
    cases d <;> simp only [hu,reduceCtorEq] at h
    case string =>
     cases hv:ρA x <;> simp only [hv,reduceCtorEq] at h hx;rename_i s;simp only [zA] at hx;obtain ⟨a,h1,ba⟩:=xU hρ h;obtain ⟨z,h2,bz⟩:=xU hρ h1;refine ⟨_,_,h2,λhs=>?_⟩;obtain ⟨s0,s1,s2⟩:=sides hs;refine ⟨.string ⟨((s.drop a.toNat).take (z.toNat-a.toNat)).toArray⟩,rfl,λo ho w' _=>?_⟩;simp [execOp,ho,hx,run_sliceStr hu ba bz s0 s1 s2]
    case slice e =>
     cases hv:ρA x <;> simp only [hv,reduceCtorEq] at h hx
     case sl ty l =>
      obtain ⟨hsz,h⟩:=zB h;obtain ⟨a,h1,ba⟩:=xU hρ h;obtain ⟨z,h2,bz⟩:=xU hρ h1;refine ⟨_,_,h2,λhs=>?_⟩;obtain ⟨s0,s1,s2⟩:=sides hs;simp only [zA,RelD] at hx;obtain ⟨ad,c,hvv,hc,hrow⟩:=hx;simp only [List.cons.injEq,and_true] at hvv;have hlen:((l.drop a.toNat).take (z.toNat-a.toNat)).length=z.toNat-a.toNat:=by clear hrow;simp;omega
      have l1:z.toNat-a.toNat<=c-a.toNat:=by clear hrow;omega
      have l2:0<z.toNat-a.toNat->0<l.length/\¬ c=a.toNat:=by clear hrow;omega
      have l3:∀ i,i<z.toNat-a.toNat->a.toNat+i<l.length:=by clear hrow;intro i hi;omega
      have l4:0<z.toNat-a.toNat->a.toNat+(z.toNat-a.toNat)<=l.length:=by clear hrow;omega
      refine ⟨.slice (if c=a.toNat then ad else ad.map (·.add (a.toNat*ty.size))) (z.toNat-a.toNat) (c-a.toNat),?_,λo ho w' _=>?_⟩
      ·simp only [zA,RelD];refine ⟨if c=a.toNat then ad else ad.map (·.add (a.toNat*ty.size)),c-a.toNat,by rw [hlen],by rw [hlen];exact l1,λhp0=>?_⟩;rw [hlen] at hp0;obtain ⟨g,o,rfl,hn,hg,hu',hr⟩:=hrow (l2 hp0).1;have hne:¬ c=a.toNat:=(l2 hp0).2;refine ⟨g,o+a.toNat*ty.size,by simp [hne,xb],hn,hg,by rw [hlen];exact hu'.sub (l4 hp0),λi hi=>?_⟩;rw [hlen] at hi;obtain ⟨es,e1,e2,e3⟩:=hr (a.toNat+i) (l3 i hi);refine ⟨es,e1,?_,?_⟩
       ·rw [Nat.add_assoc,<- Nat.add_mul];exact e2
       ·have:((l.drop a.toNat).take (z.toNat-a.toNat))[i]'(by rw [hlen];exact hi)=l[a.toNat+i]'(l3 i hi):=by simp
        rw [this];exact e3
      ·simp [execOp,ho,hvv,vU hu hsz ba bz s0 s1 s2 hc]
     case wh b =>
      simp only [zA] at hx;obtain ⟨ty,l,hb,hvv⟩:=hx;simp only [hb] at h;obtain ⟨hsz,h⟩:=zB h;obtain ⟨a,h1,ba⟩:=xU hρ h;obtain ⟨z,h2,bz⟩:=xU hρ h1;refine ⟨_,_,h2,λhs=>?_⟩;obtain ⟨s0,s1,s2⟩:=sides hs;rcases hvv with ⟨g,c,hg,hvv,hc,hroom⟩ | ⟨hg,rfl,hvv⟩
      ·refine ⟨.slice (if c=a.toNat then some ⟨g,0,none⟩ else (some ⟨g,0,none⟩:Option Addr).map (·.add (a.toNat*ty.size))) (z.toNat-a.toNat) (c-a.toNat),?_,λo ho w' _=>?_⟩
       ·simp only [zA];refine ⟨ty,l,hb,by omega,.inl ⟨g,c,if c=a.toNat then 0 else a.toNat*ty.size,hg,?_,hc,hroom,?_⟩⟩
        ·split <;> simp [xb]
        ·split
         ·right;exact ⟨by assumption,Nat.zero_le _⟩
         ·left;rfl
       ·simp [execOp,ho,hvv,vU hu hsz ba bz s0 s1 s2 hc]
      ·have ha0:a=0/\z=0:=by simp at s2;omega
       obtain ⟨rfl,rfl⟩:=ha0;refine ⟨.slice none 0 0,?_,λo ho w' _=>?_⟩
       ·simp only [zA];exact ⟨ty,[],hb,by simp,.inr ⟨hg,by simp,by simp⟩⟩
       ·simp [execOp,ho,hvv,vU (len:=0) hu hsz ba (by simpa using bz) s0 s1 (by simp) (Nat.le_refl 0)]
     case win b lo' n =>
      simp only [zA] at hx;obtain ⟨ty,l,hb,hle,hvv⟩:=hx;simp only [hb] at h;obtain ⟨hsz,h⟩:=zB h;obtain ⟨a,h1,ba⟩:=xU hρ h;obtain ⟨z,h2,bz⟩:=xU hρ h1;refine ⟨_,_,h2,λhs=>?_⟩;obtain ⟨s0,s1,s2⟩:=sides hs;rcases hvv with ⟨g,c,o1,hg,hvv,hc,hroom,hoo⟩ | ⟨hg,rfl,hvv⟩
      ·refine ⟨.slice (if c-lo'=a.toNat then some ⟨g,o1,none⟩ else (some ⟨g,o1,none⟩:Option Addr).map (·.add (a.toNat*ty.size))) (z.toNat-a.toNat) (c-lo'-a.toNat),?_,λo ho w' _=>?_⟩
       ·simp only [zA];refine ⟨ty,l,hb,by omega,.inl ⟨g,c,if c-lo'=a.toNat then o1 else o1+a.toNat*ty.size,hg,?_,hc,hroom,?_⟩⟩
        ·rw [Nat.sub_sub];split <;> simp [xb]
        ·split
         ·right;refine ⟨by omega,?_⟩;rw [Nat.add_mul];rcases hoo with rfl | ⟨_,hoo⟩
          ·omega
          ·omega
         ·left;rcases hoo with rfl | ⟨rfl,_⟩
          ·rw [Nat.add_mul]
          ·omega
       ·simp [execOp,ho,hvv,vU (cap:=c-lo') hu hsz ba bz s0 s1 s2 (by omega)]
      ·have h0:lo'=0/\n=0:=by simp at hle;omega
       obtain ⟨rfl,rfl⟩:=h0;have ha0:a=0/\z=0:=by simp at s2;omega
       obtain ⟨rfl,rfl⟩:=ha0;refine ⟨.slice none 0 0,?_,λo ho w' _=>?_⟩
       ·simp only [zA];exact ⟨ty,[],hb,by simp,.inr ⟨hg,by simp,by simp⟩⟩
       ·simp [execOp,ho,hvv,vU (len:=0) hu hsz ba (by simpa using bz) s0 s1 (by simp) (Nat.le_refl 0)]
 case indexAddr t x ix =>
  have hx:=(hρ x).rel
  cases hu:P.underlying t with
  | none=>simp [hu] at h
  | some d =>
   cases d <;> simp only [hu,reduceCtorEq] at h
   case array n e =>
    obtain ⟨k,i,hi,h⟩:=xo (hρ ix).rel h;obtain ⟨h1,h⟩:=zB h;obtain ⟨ie,hie⟩:=Option.isSome_iff_exists.1 h1;have hsz:P.cellsOf e=ie.size:=by simp [Program.cellsOf,hie]
    have hrun:0<=i->i<(n:Int)->∀ (g o:Nat) (w':World),(Instr.indexAt t (.pointer (some ⟨g,o,none⟩)) (.int k i)).run P w'=.ok (.pointer (some ⟨g,o+i.toNat*P.cellsOf e,none⟩)) w':=λs0 s1 g o w'=>by
     simp [Instr.indexAt,asIntOf,run_underlying hu,Instr.sureAddr,s0,s1,yi hie,xb,hsz]
    cases hv:ρA x <;> simp only [hv,reduceCtorEq] at h hx
    case ptr b o'' =>
     obtain ⟨s0,s1,h⟩:=wT h;refine ⟨_,_,h,λ_=>?_⟩;simp only [zA] at hx;obtain ⟨h1,g,hg,he⟩:=hx
     exact ⟨.pointer (some ⟨g,o''+i.toNat*P.cellsOf e,none⟩),⟨h1,g,hg,rfl⟩,λo ho w' _=>by
      simp only [execOp,ho,he,hi,Sem.run_bind,hrun s0 s1,Result.andThen_ok,Sem.run_pure]⟩
    case ep b ty j fo =>
     obtain ⟨s0,s1,h⟩:=wT h;refine ⟨_,_,h,λ_=>?_⟩;simp only [zA] at hx;obtain ⟨l,g,h1,h2,hg,he⟩:=hx
     exact ⟨.pointer (some ⟨g,j*ty.size+fo+i.toNat*P.cellsOf e,none⟩),⟨l,g,h1,h2,hg,by rw [Nat.add_assoc]⟩,λo ho w' _=>by
      simp only [execOp,ho,he,hi,Sem.run_bind,hrun s0 s1,Result.andThen_ok,Sem.run_pure]⟩
    case fp ty l j fo =>
     obtain ⟨s0,s1,h⟩:=wT h;refine ⟨_,_,h,λ_=>?_⟩;simp only [zA] at hx;obtain ⟨h1,g,o1,h2,h3,he,h4⟩:=hx
     exact ⟨.pointer (some ⟨g,o1+j*ty.size+fo+i.toNat*P.cellsOf e,none⟩),⟨h1,g,o1,h2,h3,by rw [Nat.add_assoc (o1+j*ty.size)],h4⟩,λo ho w' _=>by
      simp only [execOp,ho,he,hi,Sem.run_bind,hrun s0 s1,Result.andThen_ok,Sem.run_pure]⟩
   rename_i e;obtain ⟨k,i,hi,h⟩:=xo (hρ ix).rel h
   cases hv:ρA x <;> simp only [hv,reduceCtorEq] at h hx
   case sl ty l =>
    obtain ⟨hsz,h⟩:=zB h;refine ⟨_,_,h,λhs=>?_⟩;obtain ⟨s0,s1⟩:=sides2 hs;simp only [zA,RelD] at hx;obtain ⟨ad,c,hvv,hc,hrow⟩:=hx;simp only [List.cons.injEq,and_true] at hvv;obtain ⟨g,o,rfl,hn,hg,huf,hr⟩:=hrow (by omega);have hlt:i.toNat<l.length:=by omega
    obtain ⟨es,e1,e2,e3⟩:=hr i.toNat hlt;refine ⟨.pointer (some ⟨g,o+i.toNat*ty.size,none⟩),?_,λo' ho w' _=>?_⟩
    ·simp only [zA];refine ⟨hlt,g,o,hn,hg,rfl,es,e1,e2,hlt,e3,?_⟩
     have:=huf.sub (lo:=i.toNat) (n:=1) (by omega)
     rwa [Nat.one_mul] at this
    ·simp [execOp,ho,hvv,hi,run_indexAt hu hsz s0 s1]
   case wh b =>
    simp only [zA] at hx;obtain ⟨ty,l,hb,hvv⟩:=hx;simp only [hb] at h;obtain ⟨hsz,h⟩:=zB h;refine ⟨_,_,h,λhs=>?_⟩;obtain ⟨s0,s1⟩:=sides2 hs;rcases hvv with ⟨g,c,hg,hvv,hc,hroom⟩ | ⟨hg,rfl,hvv⟩
    ·have hlt:i.toNat<l.length:=by omega
     refine ⟨.pointer (some ⟨g,0+i.toNat*ty.size,none⟩),?_,λo' ho w' _=>?_⟩
     ·simp only [zA];exact ⟨l,g,hb,hlt,hg,by simp⟩
     ·simp only [execOp,ho,hvv,hi,Sem.run_bind,run_indexAt hu hsz s0 s1,Result.andThen_ok,Sem.run_pure]
    ·simp at s1;omega
   case win b lo n =>
    simp only [zA] at hx;obtain ⟨ty,l,hb,hle,hvv⟩:=hx;simp only [hb] at h;obtain ⟨hsz,h⟩:=zB h;refine ⟨_,_,h,λhs=>?_⟩;obtain ⟨s0,s1⟩:=sides2 hs;rcases hvv with ⟨g,c,o1,hg,hvv,hc,hroom,hoo⟩ | ⟨hg,rfl,hvv⟩
    ·have hlt:lo+i.toNat<l.length:=by omega
     have ho1:o1=lo*ty.size:=by rcases hoo with rfl | ⟨rfl,_⟩ <;> omega
     refine ⟨.pointer (some ⟨g,o1+i.toNat*ty.size,none⟩),?_,λo' ho w' _=>?_⟩
     ·simp only [zA];exact ⟨l,g,hb,hlt,hg,by rw [ho1,Nat.add_mul,Nat.add_zero]⟩
     ·simp only [execOp,ho,hvv,hi,Sem.run_bind,run_indexAt hu hsz s0 s1,Result.andThen_ok,Sem.run_pure]
    ·simp at hle;omega
 case index t x ix =>
  have hx:=(hρ x).rel;split at h
  ·rename_i l hu hv;obtain ⟨k,i,hi,h⟩:=xo (hρ ix).rel h;rw [hv] at hx;simp only [zA] at hx;refine ⟨_,_,h,λhs=>?_⟩;obtain ⟨s0,s1⟩:=sides2 hs;have hlt:i.toNat<l.length:=by omega
   refine ⟨.int .u8 ((l.getD i.toNat 0).toNat:Int),rfl,λo ho w' _=>?_⟩
   have hget:(⟨l.toArray⟩:ByteArray)[i.toNat]?=some l[i.toNat]:=by
    rw [ByteArray.getElem?_lt' _ _ (by simpa [ByteArray.size] using hlt)];rfl
   have hgd:l.getD i.toNat 0=l[i.toNat]:=by simp [List.getD,List.getElem?_eq_getElem hlt]
   simp only [execOp,ho,hi,hx,Instr.index,Sem.run_bind,asIntOf,Sem.run_pure,Result.andThen_ok,run_underlying hu,s0,if_true,hget,hgd]
  ·rename_i n e cs hu hv
   cases hue:P.underlying e with
   | none=>simp [hue] at h
   | some d =>
    simp only [hue] at h;obtain ⟨k,i,hi,h⟩:=xo (hρ ix).rel h;obtain ⟨s0,s1,h⟩:=wT h;rw [hv] at hx;simp only [zA] at hx;obtain ⟨vs,hvv,hr⟩:=hx;obtain ⟨v,val,hK,hvr,hc⟩:=cellsAg_ok hr h;refine ⟨_,_,hK,λhs=>⟨val,hvr,λo ho w' _=>?_⟩⟩
    have hpart:(part e vs.toArray (i.toNat*P.cellsOf e)).run P w'=.ok val w':=by
     unfold part;rw [Sem.run_bind,tK hue];rcases hc with ⟨h1,rfl⟩ | ⟨h1,h2⟩
     ·simp [h1,wS hue]
     ·simp [h1,h2]
    simp [execOp,ho,hi,hvv,Instr.index,asIntOf,run_underlying hu,s0,s1,wS hue,hpart]
  ·cases h
 case extract x n =>
  have hx:=(hρ x).rel
  cases hv:ρA x <;> simp only [hv,reduceCtorEq] at h hx;rename_i vs;simp only [zA] at hx;obtain ⟨us,hvv,hr⟩:=hx
  cases hn:vs[n]? with
  | none=>simp [hn] at h
  | some v =>
   simp only [hn] at h;obtain ⟨val,hval,hvr⟩:=RelVs_get n hr hn;exact .of h hvr λo ho w' _=>by simp [execOp,ho,Instr.extract,hvv,hval]
 case call c =>
  obtain ⟨callee,args,argTypes⟩:=c
  cases callee <;> first | (cases h;done) | skip
  rename_i b
  cases b <;> first | (cases h;done) | skip
  case len =>
   simp only at h;split at h
   ·rename_i x t ha ht;have ha':args=#[x]:=by apply Array.ext';simpa using ha
    have ht':argTypes=#[t]:=by apply Array.ext';simpa using ht
    subst ha';subst ht';have hx:=(hρ x).rel
    cases hu:P.underlying t with
    | none=>simp [hu] at h
    | some d =>
     cases d <;> simp only [hu,reduceCtorEq] at h
     case string =>
      cases hv:ρA x <;> simp only [hv,reduceCtorEq] at h hx;rename_i l;simp only [zA] at hx;refine .of (val:=.int .i64 (l.length:Int)) h rfl λo ho w' _=>?_
      have hsz:(⟨l.toArray⟩:ByteArray).size=l.length:=by simp [ByteArray.size]
      simp [execOp,ho,resolve,invoke,builtin,Builtin.len_,run_underlying hu,hx,goInt,hsz]
     case slice e =>
      obtain ⟨n,hK,a,c,hvv⟩:=lenOf_ok hx h;refine .of (val:=.int .i64 (n:Int)) hK rfl λo ho w' _=>?_
      simp [execOp,ho,resolve,invoke,builtin,Builtin.len_,run_underlying hu,hvv,goInt]
   ·cases h
  case min =>
   simp only at h;split at h
   ·rename_i x y ha;have ha':args=#[x,y]:=by apply Array.ext';simpa using ha
    subst ha';have hx:=(hρ x).rel;have hy:=(hρ y).rel
    cases hv:ρA x <;> simp only [hv,least,reduceCtorEq] at h hx
    cases hv2:ρA y <;> simp only [hv2,reduceCtorEq] at h hy;rename_i k a k' b;obtain ⟨h1,hK⟩:=zB h;have h1:=of_decide_eq_true h1;subst h1;simp only [zA] at hx hy;refine .of (val:=.int k (cond (decide (b<a)) b a)) hK rfl λo ho w' _=>?_
    by_cases hlt:b<a <;> simp [execOp,ho,resolve,invoke,builtin,Builtin.min_,Builtin.min2,hx,hy,hlt]
   ·cases h
  case max =>
   simp only at h;split at h
   ·rename_i x y ha;have ha':args=#[x,y]:=by apply Array.ext';simpa using ha
    subst ha';have hx:=(hρ x).rel;have hy:=(hρ y).rel
    cases hv:ρA x <;> simp only [hv,most,reduceCtorEq] at h hx
    cases hv2:ρA y <;> simp only [hv2,reduceCtorEq] at h hy;rename_i k a k' b;obtain ⟨h1,hK⟩:=zB h;have h1:=of_decide_eq_true h1;subst h1;simp only [zA] at hx hy;refine .of (val:=.int k (cond (decide (a<b)) b a)) hK rfl λo ho w' _=>?_
    by_cases hlt:a<b <;> simp [execOp,ho,resolve,invoke,builtin,Builtin.max_,Builtin.max2,hx,hy,hlt]
   ·cases h
end
end Go.Ev
namespace Go.Ev
open Go
structure Chg (N:Nat->Prop) (w w':World):Prop extends Keep N w w' where
 os:w'.os=w.os
 tape:w'.tape=w.tape
 output:w'.output=w.output
theorem Chg.refl {N:Nat->Prop} (w:World):Chg N w w:=⟨⟨Nat.le_refl _,λ_ _ _=>rfl⟩,rfl,rfl,rfl⟩
theorem Chg.trans {N N':Nat->Prop} {a b c:World} (h:Chg N a b) (h':Chg N' b c) (hn:∀ g,g<a.heap.size->N' g->N g):Chg N a c where
 size:=Nat.le_trans h.size h'.size
 keep:=λg hg hN=>by
  rw [h'.keep g (Nat.lt_of_lt_of_le hg h.size) (λx=>hN (hn g hg x)),h.keep g hg hN]
 os:=h'.os.trans h.os
 tape:=h'.tape.trans h.tape
 output:=h'.output.trans h.output
def xD (μ:Nat->Option Nat) (b:Nat) (v:Option Nat):Nat->Option Nat:=λt=>if t=b then v else μ t
theorem zf (H:Nat->Blk) (b:Nat) (v:Blk):zp H b v b=v:=by simp [zp]
theorem zX {H:Nat->Blk} {b t:Nat} {v:Blk} (h:t≠b):zp H b v t=H t:=by
 have:Nat.beq t b=false:=Bool.eq_false_iff.2 λe=>h (xi e)
 simp [zp,this]
theorem wc (E:Nat->AV) (b:Nat) (v:AV):upd E b v b=v:=by simp [upd]
theorem xc {E:Nat->AV} {b t:Nat} {v:AV} (h:t≠b):upd E b v t=E t:=by
 have:Nat.beq t b=false:=Bool.eq_false_iff.2 λe=>h (xi e)
 simp [upd,this]
theorem zN (μ:Nat->Option Nat) (b:Nat) (v:Option Nat):xD μ b v b=v:=by simp [xD]
theorem yK {μ:Nat->Option Nat} {b t:Nat} {v:Option Nat} (h:t≠b):xD μ b v t=μ t:=by simp [xD,h]
def kv (kl:List Nat) (x:AV):AV :=
 match kl with
 | []=>x
 | _::_=>zj kl x
theorem killsE_eq (kl:List Nat) (E:Nat->AV) (t:Nat):yL kl E t=kv kl (E t):=by cases kl <;> rfl
def kb (kl:List Nat) (x:Blk):Blk :=
 match kl with
 | []=>x
 | _::_=>killB kl x
theorem yN (kl:List Nat) (H:Nat->Blk) (t:Nat):zv kl H t=kb kl (H t):=by cases kl <;> rfl
def kL (kl:List Nat) (x:List AV):List AV :=
 match kl with
 | []=>x
 | _::_=>uq kl x
theorem sH (kl:List Nat) (cs:List AV):kb kl (.vars cs)=.vars (kL kl cs):=by cases kl <;> rfl
theorem sK (kl:List Nat) (t:Ty) (l:List t.den):kb kl (.data t l)=.data t l:=by cases kl <;> rfl
theorem sJ (kl:List Nat) (s:List UInt8) (p:Nat):kb kl (.iter s p)=.iter s p:=by cases kl <;> rfl
theorem sI (kl:List Nat) (kt vt:Ty) (ag:Bool) (l:List (kt.den×vt.den)):kb kl (.mapd kt vt ag l)=.mapd kt vt ag l:=by cases kl <;> rfl
theorem unm_kb (kl:List Nat) (x:Blk):unm (kb kl x)=unm x:=by
 cases kl
 ·rfl
 ·cases x <;> rfl
theorem xg (kl:List Nat):kb kl .dead=.dead:=by cases kl <;> rfl
theorem tag_kb (kl:List Nat) (x:Blk):(kb kl x).tag=x.tag:=by
 cases x <;> simp [sH,sK,sJ,sI,xg,Blk.tag]
theorem wW (a b:List Nat) (n:Nat):zS (a++b) n=(zS a n||zS b n):=by simp [zS]
mutual
theorem vY (k1 k2:List Nat):∀ x,zj k2 (zj k1 x)=zj (k1++k2) x
 | .ptr b o=>by simp only [zj,wW];cases h:zS k1 b <;> simp [zj]
 | .ep b t i f=>by simp only [zj,wW];cases h:zS k1 b <;> simp [zj]
 | .wh b=>by simp only [zj,wW];cases h:zS k1 b <;> simp [zj]
 | .win b lo n=>by simp only [zj,wW];cases h:zS k1 b <;> simp [zj]
 | .mp b=>by simp only [zj,wW];cases h:zS k1 b <;> simp [zj]
 | .mptr c b o=>by simp only [zj,wW];cases h:zS k1 b <;> simp [zj]
 | .fn f cs=>by simp only [zj,up k1 k2 cs]
 | .agg cs=>by simp only [zj,up k1 k2 cs]
 | .tup cs=>by simp only [zj,up k1 k2 cs]
 | .ifc _ x=>by simp only [zj,vY k1 k2 x]
 | .pan x=>by simp only [zj,vY k1 k2 x]
 | .lit x _=>by simp only [zj,vY k1 k2 x]
 | .gd _ _ _=>by simp [zj]
 | .i _ _=>rfl | .u _=>rfl | .b _=>rfl | .kb _=>rfl | .s _=>rfl | .c _=>rfl | .sl _ _=>rfl | .fp _ _ _ _=>rfl | .bad=>rfl | .fz _ _=>rfl
theorem up (k1 k2:List Nat):∀ xs,uq k2 (uq k1 xs)=uq (k1++k2) xs
 | []=>rfl
 | x::r=>by simp only [uq,vY k1 k2 x,up k1 k2 r]
end
theorem kv_kv (k1 k2:List Nat) (x:AV):kv k2 (kv k1 x)=kv (k1++k2) x:=by
 cases k1 with
 | nil=>rfl
 | cons a k1 =>
  cases k2 with
  | nil=>simp [kv]
  | cons b k2=>exact vY _ _ _
def ua (w w':World) (μ μ':Nat->Option Nat) (H H':Nat->Blk) (b:Nat):Prop :=
 μ' b=μ b/\match H b with
  | .dead=>True
  | .data t l=>(∃ l',H' b=.data t l'/\l'.length=l.length)/\∀ g n,μ b=some g->room w g n->room w' g n
  | _=>H' b≠.dead
section
variable {w w':World} {N N':NN} {μ μ':Nat->Option Nat} {H H':Nat->Blk} {kl:List Nat}
theorem relSl {t:Ty} {l:List t.den} {v:Value} (hk:Keep N.trk w w') (hN:Sub w N' N) (h:zA w N μ H (.sl t l) v):zA w' N' μ' H' (.sl t l) v:=by
 simp only [zA] at h ⊢;exact h.keep hk hN
mutual
theorem yB (hk:Keep N.trk w w') (hN:Sub w N' N) (hb:∀ b,zS kl b=false->H b≠.dead->ua w w' μ μ' H H' b) :
  ∀ (x:AV) (v:Value),zA w N μ H x v->zA w' N' μ' H' (zj kl x) v
 | .i _ _,_,h=>h | .u _,_,h=>h | .b _,_,h=>h | .kb _,_,h=>h | .s _,_,h=>h | .c _,_,h=>h
 | .sl t l,v,h=>relSl hk hN h
 | .fz t x,v,h=>by
  simp only [zj,zA] at h ⊢;exact ⟨h.1.keep hk hN,h.2⟩
 | .fp t l ix f,v,h=>by
  simp only [zj,zA] at h ⊢;obtain ⟨h1,g,o,h2,h3,h4,es,h5,h6,h7,h8⟩:=h;exact ⟨h1,g,o,λhn=>h2 (hN.ln h3 hn),Nat.lt_of_lt_of_le h3 hk.size,h4,es,h5,ze (hk.keep g h3 λht=>h2 (yy ht)) h6,h7,h8.1.keep hk hN,h8.2.keep h3 (hk.keep g h3 λht=>h2 (yy ht)) hN⟩
 | .ptr b o,v,h=>by
  simp only [zj]
  cases hkb:zS kl b with
  | true=>simp [zA]
  | false =>
   simp only [zA,zK] at h ⊢;obtain ⟨h1,g,hg,hv⟩:=h;obtain ⟨c1,c2⟩:=hb b hkb h1;refine ⟨?_,g,by rw [c1];exact hg,hv⟩
   cases hB:H b <;> simp only [hB] at c2 <;> first | exact absurd hB h1 | exact c2 | (obtain ⟨⟨l',hl,_⟩,_⟩:=c2;simp [hl])
 | .mp b,v,h=>by
  simp only [zj]
  cases hkb:zS kl b with
  | true=>simp [zA]
  | false =>
   simp only [zA,zK] at h ⊢;obtain ⟨h1,g,hg,hv⟩:=h;obtain ⟨c1,c2⟩:=hb b hkb h1;refine ⟨?_,g,by rw [c1];exact hg,hv⟩
   cases hB:H b <;> simp only [hB] at c2 <;> first | exact absurd hB h1 | exact c2 | (obtain ⟨⟨l',hl,_⟩,_⟩:=c2;simp [hl])
 | .mptr c b o,v,h=>by
  simp only [zj]
  cases hkb:zS kl b with
  | true=>simp [zA]
  | false =>
   simp only [zA,zK] at h ⊢;obtain ⟨h1,h2⟩:=h;obtain ⟨c1,c2⟩:=hb b hkb h1;refine ⟨?_,by rw [c1];exact h2⟩
   cases hB:H b <;> simp only [hB] at c2 <;> first | exact absurd hB h1 | exact c2 | (obtain ⟨⟨l',hl,_⟩,_⟩:=c2;simp [hl])
 | .ep b t ix f,v,h=>by
  simp only [zj]
  cases hkb:zS kl b with
  | true=>simp [zA]
  | false =>
   simp only [zA,zK] at h ⊢;obtain ⟨l,g,h1,h2,hg,hv⟩:=h;obtain ⟨c1,c2⟩:=hb b hkb (by simp [h1]);simp only [h1] at c2;obtain ⟨⟨l',hl,hlen⟩,_⟩:=c2;exact ⟨l',g,hl,by omega,by rw [c1];exact hg,hv⟩
 | .wh b,v,h=>by
  simp only [zj]
  cases hkb:zS kl b with
  | true=>simp [zA]
  | false =>
   simp only [zA,zK] at h ⊢;obtain ⟨t,l,h1,hv⟩:=h;obtain ⟨c1,c2⟩:=hb b hkb (by simp [h1]);simp only [h1] at c2;obtain ⟨⟨l',hl,hlen⟩,hroom⟩:=c2;refine ⟨t,l',hl,?_⟩;rcases hv with ⟨g,c,hg,hv,hc,hr⟩ | ⟨hg,hl0,hv⟩
   ·exact .inl ⟨g,c,by rw [c1];exact hg,by rw [hlen];exact hv,by omega,hroom g _ hg hr⟩
   ·subst hl0;exact .inr ⟨by rw [c1];exact hg,by simpa using hlen,hv⟩
 | .win b lo n,v,h=>by
  simp only [zj]
  cases hkb:zS kl b with
  | true=>simp [zA]
  | false =>
   simp only [zA,zK] at h ⊢;obtain ⟨t,l,h1,hle,hv⟩:=h;obtain ⟨c1,c2⟩:=hb b hkb (by simp [h1]);simp only [h1] at c2;obtain ⟨⟨l',hl,hlen⟩,hroom⟩:=c2;refine ⟨t,l',hl,by omega,?_⟩;rcases hv with ⟨g,c,o,hg,hv,hc,hr,ho⟩ | ⟨hg,hl0,hv⟩
   ·exact .inl ⟨g,c,o,by rw [c1];exact hg,hv,by omega,hroom g _ hg hr,ho⟩
   ·subst hl0;exact .inr ⟨by rw [c1];exact hg,by simpa using hlen,hv⟩
 | .fn f cs,v,h=>by
  simp only [zj,zA] at h ⊢;obtain ⟨vs,hv,hr⟩:=h;exact ⟨vs,hv,uV hk hN hb cs vs hr⟩
 | .agg cs,v,h=>by
  simp only [zj,zA] at h ⊢;obtain ⟨vs,hv,hr⟩:=h;exact ⟨vs,hv,uV hk hN hb cs vs hr⟩
 | .tup cs,v,h=>by
  simp only [zj,zA] at h ⊢;obtain ⟨vs,hv,hr⟩:=h;exact ⟨vs,hv,uV hk hN hb cs vs hr⟩
 | .ifc t x,v,h=>by
  simp only [zj,zA] at h ⊢;obtain ⟨val,hv,hr⟩:=h;exact ⟨val,hv,yB hk hN hb x val hr⟩
 | .pan x,v,h=>by
  simp only [zj,zA] at h ⊢;exact yB hk hN hb x v h
 | .lit x u,v,h=>by
  simp only [zj,zA] at h ⊢;exact ⟨h.1,yB hk hN hb x v h.2⟩
 | .gd _ _ _,_,_=>by simp [zj,zA]
 | .bad,_,_=>by simp [zj,zA]
theorem uV (hk:Keep N.trk w w') (hN:Sub w N' N) (hb:∀ b,zS kl b=false->H b≠.dead->ua w w' μ μ' H H' b) :
  ∀ (xs:List AV) (vs:List Value),zC w N μ H xs vs->zC w' N' μ' H' (uq kl xs) vs
 | [],vs,h=>h
 | x::r,vs,h=>by
  simp only [uq,zC] at h ⊢;obtain ⟨v,vr,rfl,h1,h2⟩:=h;exact ⟨v,vr,rfl,yB hk hN hb x v h1,uV hk hN hb r vr h2⟩
end
mutual
theorem tT:∀ x:AV,(∀ j b y,x≠.gd j b y)->zA w N μ H (zj [] x)=zA w N μ H x
 | .i _ _,_=>rfl | .u _,_=>rfl | .b _,_=>rfl | .kb _,_=>rfl | .s _,_=>rfl | .c _,_=>rfl | .sl _ _,_=>rfl | .fp _ _ _ _,_=>rfl | .fz _ _,_=>rfl
 | .ptr _ _,_=>rfl | .ep _ _ _ _,_=>rfl | .wh _,_=>rfl | .win _ _ _,_=>rfl | .mp _,_=>rfl | .mptr _ _ _,_=>rfl
 | .fn f cs,_=>by funext v;simp only [zj,zA,tU cs]
 | .agg cs,_=>by funext v;simp only [zj,zA,tU cs]
 | .tup cs,_=>by funext v;simp only [zj,zA,tU cs]
 | .ifc t x,_=>by
  funext v;simp only [zj,zA];by_cases hx:∃ j b y,x=.gd j b y
  ·obtain ⟨j,b,y,rfl⟩:=hx;simp [zj,zA]
  ·rw [tT x λj b y e=>hx ⟨j,b,y,e⟩]
 | .pan x,_=>by
  funext v;simp only [zj,zA];by_cases hx:∃ j b y,x=.gd j b y
  ·obtain ⟨j,b,y,rfl⟩:=hx;simp [zj,zA]
  ·rw [tT x λj b y e=>hx ⟨j,b,y,e⟩]
 | .lit x u,_=>by
  funext v;simp only [zj,zA];by_cases hx:∃ j b y,x=.gd j b y
  ·obtain ⟨j,b,y,rfl⟩:=hx;simp [zj,zA]
  ·rw [tT x λj b y e=>hx ⟨j,b,y,e⟩]
 | .gd j b y,h=>absurd rfl (h j b y)
 | .bad,_=>rfl
theorem tU:∀ xs:List AV,zC w N μ H (uq [] xs)=zC w N μ H xs
 | []=>rfl
 | x::r=>by
  funext vs;simp only [uq,zC,tU r];by_cases hx:∃ j b y,x=.gd j b y
  ·obtain ⟨j,b,y,rfl⟩:=hx;simp [zj,zA]
  ·rw [tT x λj b y e=>hx ⟨j,b,y,e⟩]
end
theorem RelV_kv (hk:Keep N.trk w w') (hN:Sub w N' N) (hb:∀ b,zS kl b=false->H b≠.dead->ua w w' μ μ' H H' b)
  (x:AV) (v:Value) (h:zA w N μ H x v):zA w' N' μ' H' (kv kl x) v:=by
 have h1:=yB hk hN hb x v h
 cases kl with
 | cons a r=>exact h1
 | nil =>
  show zA w' N' μ' H' x v;by_cases hx:∃ j b y,x=.gd j b y
  ·obtain ⟨j,b,y,rfl⟩:=hx;simp [zA]
  ·rw [tT x λj b y e=>hx ⟨j,b,y,e⟩] at h1;exact h1
theorem ta (hk:Keep N.trk w w') (hN:Sub w N' N) (hb:∀ b,zS kl b=false->H b≠.dead->ua w w' μ μ' H H' b)
  (xs:List AV) (vs:List Value) (h:zC w N μ H xs vs):zC w' N' μ' H' (kL kl xs) vs:=by
 have h1:=uV hk hN hb xs vs h
 cases kl with
 | cons a r=>exact h1
 | nil=>rw [tU xs] at h1;exact h1
end
end Go.Ev
namespace Go.Ev
open Go
structure Pl {T:Tb} (F:Frm T) (μ:Nat->Option Nat) (H:Nat->Blk) (nx:Nat) (w:World) (kl:List Nat) (μ':Nat->Option Nat) (H':Nat->Blk) (nx':Nat) (w':World):Prop where
 chg:Chg (wy μ H) w w'
 new:∀ g,wy μ' H' g->wy μ H g\/w.heap.size<=g
 mono:nx<=nx'
 tr:∀ x v,zA w (Not F μ H) μ H x v->zA w' (Not F μ' H') μ' H' (kv kl x) v
 pin:∀ b,b<nx->Pin (H' b) (H b) (μ' b) (μ b)
section
variable {T:Tb} {F:Frm T} {μ μ' μ'':Nat->Option Nat} {H H' H'':Nat->Blk} {nx nx' nx'':Nat} {w w' w'':World} {kl kl':List Nat}
theorem Pl.trans (h:Pl F μ H nx w kl μ' H' nx' w') (h':Pl F μ' H' nx' w' kl' μ'' H'' nx'' w''):Pl F μ H nx w (kl++kl') μ'' H'' nx'' w'' where
 chg:=h.chg.trans h'.chg λg hg ht=>(h.new g ht).resolve_right (by omega)
 new:=λg hg=>by
  rcases h'.new g hg with h1 | h1
  ·exact h.new g h1
  ·exact .inr (Nat.le_trans h.chg.size h1)
 mono:=Nat.le_trans h.mono h'.mono
 tr:=λx v hx=>by rw [<- kv_kv];exact h'.tr _ _ (h.tr x v hx)
 pin:=λb hb=>(h'.pin b (Nat.lt_of_lt_of_le hb h.mono)).trans (h.pin b hb)
theorem Hp.keep (hp:Hp F μ H nx w) (hk:Keep (wy μ H) w w') (hin:∀ g,wy μ H g->w'.heap[g]?=w.heap[g]?):Hp F μ H nx w' where
 blk:=λb=>by
  have hall:∀ g,g<w.heap.size->w'.heap[g]?=w.heap[g]?:=λg hg=>by
   by_cases ht:wy μ H g
   ·exact hin g ht
   ·exact hk.keep g hg ht
  have hk':Keep (Not F μ H).trk w w':=⟨hk.size,λg hg _=>hall g hg⟩
  have hroom:∀ g n,room w g n->room w' g n:=λg n h k hkn=>by
   obtain ⟨h1,h2⟩:=h k hkn;obtain ⟨v,hv⟩:=Option.isSome_iff_exists.1 h1;have hlt:=World.block_lt_of_cell? w _ hv;exact ⟨by rw [cell?_of_heap (hall g hlt)];exact h1,by rw [frozen?_of_heap (hall g hlt)];exact h2⟩
  have hB:=hp.blk b
  have hc:∀ b,zS [] b=false->H b≠.dead->ua w w' μ μ H H b:=λb _ hd=>by
   refine ⟨rfl,?_⟩
   cases hb:H b with
   | dead=>trivial
   | data t l=>exact ⟨⟨l,rfl,rfl⟩,λg n _ hr=>hroom g n hr⟩
   | vars cs=>simp
   | iter s p=>simp
   | mapd kt vt ag l=>simp
  cases hb:H b with
  | dead=>simp [za]
  | vars cs =>
   simp only [hb,za] at hB ⊢;rcases hB with hB | ⟨g,vs,h1,h2,h3,h4⟩
   ·exact .inl hB
   have hg:=hp.lt b g (by simp [hb]) h1;exact .inr ⟨g,vs,h1,ta (kl:=[]) hk' (Sub.refl _ _) hc _ _ h2,ze (hall g hg) h3,hroom _ _ h4⟩
  | data t l =>
   simp only [hb,za] at hB ⊢;rcases hB with h | ⟨g,h1,h2,h3⟩
   ·exact .inl h
   ·have hg:=hp.lt b g (by simp [hb]) h1;refine .inr ⟨g,h1,hroom _ _ h2,λi hi=>?_⟩;obtain ⟨es,e1,e2,e3⟩:=h3 i hi;exact ⟨es,e1,ze (hall g hg) e2,e3.keep hk' (Sub.refl _ _)⟩
  | iter s p =>
   simp only [hb,za] at hB ⊢;obtain ⟨g,h1,h2⟩:=hB;exact ⟨g,h1,by rw [hall g (hp.lt b g (by simp [hb]) h1)];exact h2⟩
  | mapd kt vt ag l =>
   simp only [hb,za] at hB ⊢;rcases hB with hB | ⟨g,es,c,h1,h2,h3,h4⟩
   ·exact .inl hB
   exact .inr ⟨g,es,c,h1,by rw [hall g (hp.lt b g (by simp [hb]) h1)];exact h2,h3,h4.keep hk' (Sub.refl _ _)⟩
 lt:=λb g hl hg=>Nat.lt_of_lt_of_le (hp.lt b g hl hg) hk.size
 inj:=hp.inj
 dead:=hp.dead
 apart:=hp.apart
 flt:=λg hg=>Nat.lt_of_lt_of_le (hp.flt g hg) hk.size
 tab:=T.stays w w' (λg hg=>Classical.byCases (p:=wy μ H g) (λht=>hin g ht) λht=>hk.keep g (T.lt w g hp.tab hg) ht) hp.tab
 tapart:=hp.tapart
 mark:=λb g hl hg=>(hp.mark b g hl hg).of_heap (hin g ⟨b,λh=>by (rw [h] at hl;cases hl),hg⟩)
 wfm:=λb g hl hg=>(hp.wfm b g hl hg).of_heap (hin g ⟨b,hl,hg⟩)
theorem Pl.keep (_hp:Hp F μ H nx w) (hk:Chg (λ_=>False) w w'):Pl F μ H nx w [] μ H nx w' where
 chg:=⟨⟨hk.size,λg hg _=>hk.keep g hg (λx=>x)⟩,hk.os,hk.tape,hk.output⟩
 new:=λg hg=>.inl hg
 mono:=Nat.le_refl _
 tr:=λx v hx=>by
  have hroom:∀ g n,room w g n->room w' g n:=λg n h k hkn=>by
   obtain ⟨h1,h2⟩:=h k hkn;obtain ⟨v,hv⟩:=Option.isSome_iff_exists.1 h1;have hlt:=World.block_lt_of_cell? w _ hv;exact ⟨by rw [cell?_of_heap (hk.keep g hlt (λx=>x))];exact h1,by rw [frozen?_of_heap (hk.keep g hlt (λx=>x))];exact h2⟩
  refine RelV_kv (kl:=[]) (N:=Not F μ H) ⟨hk.size,λg hg _=>hk.keep g hg (λx=>x)⟩ (Sub.refl _ _) (λb _ hd=>⟨rfl,?_⟩) x v hx
  cases hb:H b with
  | dead=>trivial
  | data t l=>exact ⟨⟨l,rfl,rfl⟩,λg n _ hr=>hroom g n hr⟩
  | vars cs=>simp
  | iter s p=>simp
  | mapd kt vt ag l=>simp
 pin:=λb _=>Pin.refl _ _
structure Turned {T:Tb} (F:Frm T) (μ:Nat->Option Nat) (H:Nat->Blk) (nx:Nat) (w:World) (kl:List Nat) (b:Nat) (g':Option Nat) (B:Blk) (nx':Nat) (w':World):Prop where
 hp:Hp F μ H nx w
 os:w'.os=w.os
 tape:w'.tape=w.tape
 output:w'.output=w.output
 size:w.heap.size<=w'.heap.size
 keep:∀ g,g<w.heap.size->(H b≠.dead->μ b≠some g)->w'.heap[g]?=w.heap[g]?
 at_:∀ g,g'=some g->(H b≠.dead/\μ b=some g)\/(w.heap.size<=g/\g<w'.heap.size)
 mono:nx<=nx'
 lt:b<nx'
 live:B≠.dead
 kind:b<nx->Pin B (H b) g' (μ b)
 mark:unm B=true->∀ g,g'=some g->NoMark w' g
 wfm:∀ g,g'=some g->Wfm w' g
 self:zS kl b=false->H b≠.dead->ua w w' μ (xD μ b g') H (zp (zv kl H) b B) b
variable {b:Nat} {g':Option Nat} {B:Blk}
theorem Turned.notN (h:Turned F μ H nx w kl b g' B nx' w'):Sub w (Not F (xD μ b g') (zp (zv kl H) b B)) (Not F μ H):=by
 refine Sub.ofTrk λg hg hN=>?_
 obtain ⟨b0,hl,hm⟩:=hN;by_cases hb:b0=b
 ·subst hb;rw [zN] at hm;rcases h.at_ g hm with ⟨h1,h2⟩ | ⟨h1,_⟩
  ·exact ⟨b0,h1,h2⟩
  ·omega
 ·rw [zX hb,yN] at hl;rw [yK hb] at hm;exact ⟨b0,λe=>hl (by rw [e,xg]),hm⟩
theorem Turned.notB (h:Turned F μ H nx w kl b g' B nx' w') {b0 g:Nat} (hb:b0≠b) (hl:H b0≠.dead) (hg:μ b0=some g):w'.heap[g]?=w.heap[g]? :=
 h.keep g (h.hp.lt b0 g hl hg) λhl' hg'=>hb (h.hp.inj b0 b g hl hl' hg hg')
theorem yI {w w':World} {g n:Nat} (h:w'.heap[g]?=w.heap[g]?) (hr:room w g n):room w' g n:=λk hk=>by
 obtain ⟨h1,h2⟩:=hr k hk;exact ⟨by rw [cell?_of_heap h];exact h1,by rw [frozen?_of_heap h];exact h2⟩
theorem Turned.compat (h:Turned F μ H nx w kl b g' B nx' w') (b0:Nat) (hk:zS kl b0=false) (hl:H b0≠.dead) :
  ua w w' μ (xD μ b g') H (zp (zv kl H) b B) b0:=by
 by_cases hb:b0=b
 ·subst hb;exact h.self hk hl
 ·refine ⟨yK hb,?_⟩
  cases hB:H b0 with
  | dead=>trivial
  | data t l =>
   refine ⟨⟨l,by rw [zX hb,yN,hB,sK],rfl⟩,λg n hg hr=>yI (h.notB hb hl hg) hr⟩
  | vars cs=>rw [zX hb,yN,hB,sH];simp
  | iter s p=>rw [zX hb,yN,hB,sJ];simp
  | mapd kt vt ag l=>rw [zX hb,yN,hB,sI];simp
theorem Turned.keepN (h:Turned F μ H nx w kl b g' B nx' w'):Keep (Not F μ H).trk w w' :=
 ⟨h.size,λg hg hn=>h.keep g hg λhl hm=>hn (.inr ⟨b,hl,hm⟩)⟩
theorem Turned.tr (h:Turned F μ H nx w kl b g' B nx' w') (x:AV) (v:Value) (hx:zA w (Not F μ H) μ H x v) :
  zA w' (Not F (xD μ b g') (zp (zv kl H) b B)) (xD μ b g') (zp (zv kl H) b B) (kv kl x) v :=
 RelV_kv h.keepN h.notN h.compat x v hx
theorem Turned.trs (h:Turned F μ H nx w kl b g' B nx' w') (xs:List AV) (vs:List Value) (hx:zC w (Not F μ H) μ H xs vs) :
  zC w' (Not F (xD μ b g') (zp (zv kl H) b B)) (xD μ b g') (zp (zv kl H) b B) (kL kl xs) vs :=
 ta h.keepN h.notN h.compat xs vs hx
theorem Turned.hp' (h:Turned F μ H nx w kl b g' B nx' w') (hrel:za w' (Not F (xD μ b g') (zp (zv kl H) b B)) (xD μ b g') (zp (zv kl H) b B) b B):Hp F (xD μ b g') (zp (zv kl H) b B) nx' w' where
 blk:=λb0=>by
  by_cases hb:b0=b
  ·subst hb;rw [zf];exact hrel
  ·rw [zX hb,yN];have hB:=h.hp.blk b0
   cases hv:H b0 with
   | dead=>rw [xg];simp [za]
   | vars cs =>
    rw [sH];simp only [hv,za] at hB ⊢;rw [yK hb];rcases hB with hB | ⟨g,vs,h1,h2,h3,h4⟩
    ·exact .inl hB
    have hg:=h.notB hb (by simp [hv]) h1;exact .inr ⟨g,vs,h1,ta h.keepN h.notN h.compat _ _ h2,ze hg h3,yI hg h4⟩
   | data t l =>
    rw [sK];simp only [hv,za] at hB ⊢;rw [yK hb];rcases hB with hB | ⟨g,h1,h2,h3⟩
    ·exact .inl hB
    ·have hg:=h.notB hb (by simp [hv]) h1;refine .inr ⟨g,h1,yI hg h2,λi hi=>?_⟩;obtain ⟨es,e1,e2,e3⟩:=h3 i hi;exact ⟨es,e1,ze hg e2,e3.keep h.keepN h.notN⟩
   | iter s p =>
    rw [sJ];simp only [hv,za] at hB ⊢;rw [yK hb];obtain ⟨g,h1,h2⟩:=hB;exact ⟨g,h1,by rw [h.notB hb (by simp [hv]) h1];exact h2⟩
   | mapd kt vt ag l =>
    rw [sI];simp only [hv,za] at hB ⊢;rw [yK hb];rcases hB with hB | ⟨g,es,c,h1,h2,h3,h4⟩
    ·exact .inl hB
    exact .inr ⟨g,es,c,h1,by rw [h.notB hb (by simp [hv]) h1];exact h2,h3,h4.keep h.keepN h.notN⟩
 lt:=λb0 g hl hg=>by
  by_cases hb:b0=b
  ·subst hb;rw [zN] at hg;rcases h.at_ g hg with ⟨h1,h2⟩ | ⟨_,h2⟩
   ·exact Nat.lt_of_lt_of_le (h.hp.lt b0 g h1 h2) h.size
   ·exact h2
  ·rw [zX hb,yN] at hl;rw [yK hb] at hg;exact Nat.lt_of_lt_of_le (h.hp.lt b0 g (λe=>hl (by rw [e,xg])) hg) h.size
 inj:=λb1 b2 g hl1 hl2 hg1 hg2=>by
  have key:∀ b0,zp (zv kl H) b B b0≠.dead->xD μ b g' b0=some g->b0≠b->H b0≠.dead/\μ b0=some g:=λb0 hl hg hb=>by
   rw [zX hb,yN] at hl;rw [yK hb] at hg;exact ⟨λe=>hl (by rw [e,xg]),hg⟩
  have other:∀ b0,H b0≠.dead->μ b0=some g->b0≠b->g'=some g->False:=λb0 hl hg hb hg'=>by
   rcases h.at_ g hg' with ⟨h1,h2⟩ | ⟨h1,_⟩
   ·exact hb (h.hp.inj b0 b g hl h1 hg h2)
   ·have:=h.hp.lt b0 g hl hg;omega
  by_cases e1:b1=b
  ·by_cases e2:b2=b
   ·rw [e1,e2]
   ·obtain ⟨k1,k2⟩:=key b2 hl2 hg2 e2;rw [e1,zN] at hg1;exact (other b2 k1 k2 e2 hg1).elim
  ·obtain ⟨k1,k2⟩:=key b1 hl1 hg1 e1;by_cases e2:b2=b
   ·rw [e2,zN] at hg2;exact (other b1 k1 k2 e1 hg2).elim
   ·obtain ⟨k3,k4⟩:=key b2 hl2 hg2 e2;exact h.hp.inj b1 b2 g k1 k3 k2 k4
 dead:=λb0 hb0=>by
  have hb:b0≠b:=λe=>by have:=h.lt;omega
  rw [zX hb,yN,h.hp.dead b0 (Nat.le_trans h.mono hb0),xg]
 apart:=λb0 g hl hg hF=>by
  by_cases hb:b0=b
  ·subst hb;rw [zN] at hg;rcases h.at_ g hg with ⟨h1,h2⟩ | ⟨h1,_⟩
   ·exact h.hp.apart b0 g h1 h2 hF
   ·have:=h.hp.flt g hF;omega
  ·rw [zX hb,yN] at hl;rw [yK hb] at hg;exact h.hp.apart b0 g (λe=>hl (by rw [e,xg])) hg hF
 flt:=λg hF=>Nat.lt_of_lt_of_le (h.hp.flt g hF) h.size
 tab:=T.stays w w' (λg hg=>h.keep g (T.lt w g h.hp.tab hg) λhl hm=>h.hp.tapart b g hl hm hg) h.hp.tab
 tapart:=λb0 g hl hg hF=>by
  by_cases hb:b0=b
  ·subst hb;rw [zN] at hg;rcases h.at_ g hg with ⟨h1,h2⟩ | ⟨h1,_⟩
   ·exact h.hp.tapart b0 g h1 h2 hF
   ·have:=T.lt w g h.hp.tab hF;omega
  ·rw [zX hb,yN] at hl;rw [yK hb] at hg;exact h.hp.tapart b0 g (λe=>hl (by rw [e,xg])) hg hF
 mark:=λb0 g hl hg=>by
  by_cases hb:b0=b
  ·subst hb;rw [zN] at hg;rw [zf] at hl;exact h.mark hl g hg
  ·rw [zX hb,yN,unm_kb] at hl;rw [yK hb] at hg;exact (h.hp.mark b0 g hl hg).of_heap (h.notB hb (λe=>by (rw [e] at hl;cases hl)) hg)
 wfm:=λb0 g hl hg=>by
  by_cases hb:b0=b
  ·subst hb;rw [zN] at hg;exact h.wfm g hg
  ·rw [zX hb,yN] at hl;rw [yK hb] at hg;have hl0:H b0≠.dead:=λe=>hl (by rw [e,xg])
   exact (h.hp.wfm b0 g hl0 hg).of_heap (h.notB hb hl0 hg)
theorem Turned.pl (h:Turned F μ H nx w kl b g' B nx' w'):Pl F μ H nx w kl (xD μ b g') (zp (zv kl H) b B) nx' w' where
 chg:=⟨⟨h.size,λg hg hn=>h.keep g hg λhl hm=>hn ⟨b,hl,hm⟩⟩,h.os,h.tape,h.output⟩
 new:=λg ⟨b0,hl,hg⟩=>by
  by_cases hb:b0=b
  ·subst hb;rw [zN] at hg;rcases h.at_ g hg with ⟨h1,h2⟩ | ⟨h1,_⟩
   ·exact .inl ⟨b0,h1,h2⟩
   ·exact .inr h1
  ·rw [zX hb,yN] at hl;rw [yK hb] at hg;exact .inl ⟨b0,λe=>hl (by rw [e,xg]),hg⟩
 mono:=h.mono
 tr:=h.tr
 pin:=λb0 hb0=>by
  by_cases hb:b0=b
  ·subst hb;rw [zf,zN];exact h.kind hb0
  ·rw [zX hb,yN,yK hb];exact λ_=>⟨(tag_kb kl _).symm,rfl⟩
theorem RelE.kill {N N':NN} {E:Nat->AV} {tmps:Array Value} (h:RelE w N μ H E tmps) (ht:∀ x v,zA w N μ H x v->zA w' N' μ' H' (kv kl x) v) :
  RelE w' N' μ' H' (yL kl E) tmps:=by
 intro t;have h1:=h t;rw [killsE_eq]
 cases hE:E t <;> simp only [hE] at h1
 case gd j b y =>
  cases kl with
  | nil =>
   simp only [kv];rcases h1 with ⟨h2,h3⟩ | h2
   ·exact .inl ⟨h2,ht y _ h3⟩
   ·exact .inr h2
  | cons a r=>simp [kv,zj,zA]
 all_goals
  have h2:=ht _ _ h1
  cases kl with
  | nil=>simp only [kv] at h2 ⊢; exact h2
  | cons a r =>
   simp only [kv,zj] at h2 ⊢
   first
    | exact h2
    | (split <;> simp_all [zA];done)
    | (cases hh:zS (a::r) _ <;> simp only [hh,zI,zK] at h2 ⊢ <;> exact h2)
end
end Go.Ev
namespace Go.Ev
open Go
section
variable {P:Program} {T:Tb} {F:Frm T} {μ:Nat->Option Nat} {H:Nat->Blk} {nx:Nat} {w:World} {N:NN} {α:Type} {r:α}
structure Grew (w:World) (o:Obj) (w':World):Prop where
 heap:w'.heap=w.heap.push o
 os:w'.os=w.os
 tape:w'.tape=w.tape
 output:w'.output=w.output
theorem Grew.alloc (w:World) (o:Obj):Grew w o (w.alloc o):=⟨rfl,rfl,rfl,rfl⟩
theorem Grew.drew (w:World) (o:Obj):Grew w o (w.drew.alloc o):=⟨rfl,rfl,rfl,rfl⟩
section
variable {o:Obj} {w':World}
theorem Grew.old (h:Grew w o w') {g:Nat} (hg:g<w.heap.size):w'.heap[g]?=w.heap[g]?:=by
 rw [h.heap,Array.getElem?_push,if_neg (by omega)]
theorem Grew.new (h:Grew w o w'):w'.heap[w.heap.size]?=some o:=by
 rw [h.heap,Array.getElem?_push,if_pos rfl]
theorem Grew.size (h:Grew w o w'):w'.heap.size=w.heap.size+1:=by rw [h.heap];simp
theorem Grew.row {cs:Array Value} {e:TypeId} {fr:Nat×Nat} (h:Grew w (.cells cs e fr) w'):rowAt w' w.heap.size 0 cs.toList:=by
 intro i hi;simp only [World.cell?,h.new,Nat.zero_add];simp at hi ⊢
theorem Grew.room {cs:Array Value} {e:TypeId} {fr:Nat×Nat} (h:Grew w (.cells cs e fr) w') (hf:fr=(0,0)\/cs.size<=fr.1):room w' w.heap.size cs.size:=by
 intro k hk;simp only [World.cell?,World.frozen?,h.new];refine ⟨by simp [hk],?_⟩;rcases hf with rfl | hf
 ·simp
 ·obtain ⟨lo,hi⟩:=fr;simp only at hf ⊢;have:¬ lo<=k:=by omega
  simp [this]
theorem Grew.turned (h:Grew w o w') (hp:Hp F μ H nx w) (B:Blk) (hB:B≠.dead) (hmk:unm B=true->∀ c e m,o=.cells c e m->¬ (m.1<=c.size/\c.size<m.2)) (hwf:∀ c e m,o=.cells c e m->m.1<=m.2):Turned F μ H nx w [] nx (some w.heap.size) B (nx+1) w' where
 hp:=hp
 os:=h.os
 tape:=h.tape
 output:=h.output
 size:=by rw [h.size];omega
 keep:=λg hg _=>h.old hg
 at_:=λg hg=>by cases hg;exact .inr ⟨Nat.le_refl _,by rw [h.size];omega⟩
 mono:=by omega
 lt:=by omega
 live:=hB
 kind:=λhb=>absurd hb (by omega)
 mark:=λhu g hg c e m hc=>by
  cases hg;rw [h.new] at hc;injection hc with hc
  exact ⟨hwf c e m hc,hmk hu c e m hc⟩
 wfm:=λg hg c e m hc=>by
  cases hg;rw [h.new] at hc;injection hc with hc
  exact hwf c e m hc
 self:=λ_ hl=>absurd (hp.dead nx (Nat.le_refl _)) hl
end
def Fine (P:Program) (ρ:Operand->Value) (op:Op) (w w':World):Prop :=
 match op with
 | .alloc _ | .box .. | .buildSlice .. | .makeSlice .. | .range ..=>Keep (λ_=>False) w w'
 | .convert src _ _=>P.underlying src=some .string->Keep (λ_=>False) w w'
 | .store _ x _=>∀ X:Nat->Prop,(∀ g o,ρ x=.pointer (some ⟨g,o,none⟩)->X g)->Keep X w w'
 | _=>True
theorem Fine.new {ρ:Operand->Value} {op:Op} {w w':World} (h:Keep (λ_=>False) w w'):Fine P ρ op w w':=by
 cases op <;> first | trivial | exact h | exact λ_=>h | exact λX _=>⟨h.size,λg hg _=>h.keep g hg (λx=>x)⟩
theorem Grew.fine {w w':World} {o:Obj} (h:Grew w o w') {ρ:Operand->Value} {op:Op}:Fine P ρ op w w' :=
 .new ⟨by rw [h.size];omega,λg hg _=>h.old hg⟩
def EffOK (P:Program) {T:Tb} (F:Frm T) (μ:Nat->Option Nat) (S:St) (w:World) (ρ:Operand->Value) (op:Op) {α:Type} (K:AV->St->Option α) (r:α):Prop :=
 ∃ v S' μ' w' kl,K v S'=some r/\S'.E=yL kl S.E/\S'.kl=S.kl++kl/\Hp F μ' S'.H S'.nx w'/\Pl F μ S.H S.nx w kl μ' S'.H S'.nx w' /\
  ∃ val,(∀ o:Oper,o.op=op->(execOp ρ o).run P w=.ok (.value val) w'\/((execOp ρ o).run P w=.ok .skip w'/\val=undef))/\zA w' (Not F μ' S'.H) μ' S'.H v val/\Fine P ρ op w w'
theorem dropBlks_eq:∀ (l:List Nat) (H:Nat->Blk) (b:Nat),xr l H b=if b∈l then .dead else H b
 | [],H,b=>by simp [xr]
 | c::l,H,b=>by
  simp only [xr];by_cases h:b=c
  ·subst h;rw [zf];simp
  ·rw [zX h,dropBlks_eq l H b];simp [h]
theorem Keep.refl {X:Nat->Prop} (w:World):Keep X w w:=⟨Nat.le_refl _,λ_ _ _=>rfl⟩
theorem zc {ks:List Nat} {b:Nat}:zS ks b=true<->b∈ks:=by
 unfold zS;rw [List.any_eq_true];constructor
 ·rintro ⟨x,hx,h⟩;rw [xi h];exact hx
 ·exact λh=>⟨b,h,Nat.beq_refl b⟩
section
variable {S:St} {ks:List Nat}
theorem seal_H (S:St) (ks:List Nat) (b:Nat):(S.seal ks).H b=if b∈ks then .dead else kb ks (S.H b):=by
 show xr ks (zv ks S.H) b=_;rw [dropBlks_eq,yN]
theorem tw {b:Nat} (h:b∈ks):(S.seal ks).H b=.dead:=by rw [seal_H,if_pos h]
theorem wi {b:Nat} (h:b∉ks):(S.seal ks).H b=kb ks (S.H b):=by rw [seal_H,if_neg h]
theorem yp {b:Nat} (h:(S.seal ks).H b≠.dead):S.H b≠.dead/\b∉ks:=by
 by_cases hb:b∈ks
 ·exact absurd (tw hb) h
 ·refine ⟨λe=>h ?_,hb⟩;rw [wi hb,e,xg]
theorem yG {w:World}:Sub w (Not F μ (S.seal ks).H) (Not F μ S.H):=Sub.ofTrk λ_ _ ⟨b,hl,hm⟩=>⟨b,(yp hl).1,hm⟩
theorem zy (b:Nat) (hk:zS ks b=false) (_hl:S.H b≠.dead):ua w w μ μ S.H (S.seal ks).H b:=by
 have hb:b∉ks:=λh=>by rw [zc.2 h] at hk;cases hk
 refine ⟨rfl,?_⟩;rw [wi hb]
 cases hB:S.H b with
 | dead=>trivial
 | data t l=>exact ⟨⟨l,by rw [sK],rfl⟩,λg n _ hr=>hr⟩
 | vars cs=>rw [sH];simp
 | iter s p=>rw [sJ];simp
 | mapd kt vt ag l=>rw [sI];simp
theorem seal_hp (hp:Hp F μ S.H S.nx w):Hp F μ (S.seal ks).H S.nx w where
 blk:=λb=>by
  by_cases hb:b∈ks
  ·rw [tw hb];simp [za]
  ·rw [wi hb];have hB:=hp.blk b
   cases hv:S.H b with
   | dead=>rw [xg];simp [za]
   | vars cs =>
    rw [sH];simp only [hv,za] at hB ⊢;rcases hB with hB | ⟨g,vs,h1,h2,h3,h4⟩
    ·exact .inl hB
    exact .inr ⟨g,vs,h1,ta (Keep.refl w) yG zy _ _ h2,h3,h4⟩
   | data t l =>
    rw [sK];simp only [hv,za] at hB ⊢;rcases hB with hB | ⟨g,h1,h2,h3⟩
    ·exact .inl hB
    ·refine .inr ⟨g,h1,h2,λi hi=>?_⟩;obtain ⟨es,e1,e2,e3⟩:=h3 i hi;exact ⟨es,e1,e2,e3.keep (Keep.refl w) yG⟩
   | iter s p =>
    rw [sJ];simp only [hv,za] at hB ⊢;exact hB
   | mapd kt vt ag l =>
    rw [sI];simp only [hv,za] at hB ⊢;rcases hB with hB | ⟨g,es,c,h1,h2,h3,h4⟩
    ·exact .inl hB
    exact .inr ⟨g,es,c,h1,h2,h3,h4.keep (Keep.refl w) yG⟩
 lt:=λb g hl hg=>hp.lt b g (yp hl).1 hg
 inj:=λb b' g hl hl' hg hg'=>hp.inj b b' g (yp hl).1 (yp hl').1 hg hg'
 dead:=λb hb=>by
  by_cases hk:b∈ks
  ·exact tw hk
  ·rw [wi hk,hp.dead b hb,xg]
 apart:=λb g hl hg=>hp.apart b g (yp hl).1 hg
 flt:=hp.flt
 tab:=hp.tab
 tapart:=λb g hl hg=>hp.tapart b g (yp hl).1 hg
 mark:=λb g hl hg=>by
  by_cases hk:b∈ks
  ·rw [tw hk] at hl;cases hl
  ·rw [wi hk,unm_kb] at hl;exact hp.mark b g hl hg
 wfm:=λb g hl hg=>hp.wfm b g (yp hl).1 hg
theorem seal_pl:Pl F μ S.H S.nx w ks μ (S.seal ks).H S.nx w where
 chg:=Chg.refl w
 new:=λg ⟨b,hl,hm⟩=>.inl ⟨b,(yp hl).1,hm⟩
 mono:=Nat.le_refl _
 tr:=λx v hx=>RelV_kv (Keep.refl w) yG zy x v hx
 pin:=λb _=>by
  by_cases hb:b∈ks
  ·rw [tw hb];exact Pin.zero rfl
  ·rw [wi hb];exact λ_=>⟨(tag_kb ks _).symm,rfl⟩
theorem seal_gone {b g:Nat} (hp:Hp F μ S.H S.nx w) (hl:S.H b≠.dead) (hb:b∈ks) (hm:μ b=some g):¬ (Not F μ (S.seal ks).H).all g:=λhN=>by
 rcases hN with hF | ⟨b',hl',hm'⟩
 ·exact hp.apart b g hl hm hF
 ·obtain ⟨h1,h2⟩:=yp hl'
  have:=hp.inj b b' g hl h1 hm hm'
  subst this;exact h2 hb
theorem RelD_plK {w w':World} {N N':NN}:∀ {t:Ty} {x:t.den} {vs:List Value},plK t=true->RelD w N t x vs->RelD w' N' t x vs
 | .int _,_,_,_,h=>h
 | .u8,_,_,_,h=>h
 | .bool,_,_,_,h=>h
 | .str,_,_,_,h=>h
 | .unit,_,_,_,h=>h
 | .pair a b,p,vs,hc,h=>by
  simp only [plK,yR] at hc;simp only [RelD] at h ⊢;obtain ⟨xs,ys,h0,h1,h2⟩:=h;exact ⟨xs,ys,h0,RelD_plK hc.1 h1,RelD_plK hc.2 h2⟩
 | .sl _,_,_,hc,_=>by cases hc
 | .ln _,_,_,hc,_=>by cases hc
 | .rg _,_,_,hc,_=>by cases hc
 | .pt _,_,_,hc,_=>by cases hc
 | .mp _ _ _,_,_,hc,_=>by cases hc
 | .mx _,_,_,hc,_=>by cases hc
theorem RelD.lowLn {w:World} {N:NN}:∀ {t:Ty} {x:t.den} {vs:List Value},fnT t=true->RelD w N.low t x vs->RelD w N t.inn (cast t.den_inn.symm x) vs
 | .int _,_,_,_,h=>h
 | .u8,_,_,_,h=>h
 | .bool,_,_,_,h=>h
 | .str,_,_,_,h=>h
 | .unit,_,_,_,h=>h
 | .rg _,_,_,hc,_=>by cases hc
 | .mx _,_,_,hc,_=>by cases hc
 | .ln t,x,vs,hc,h=>by
  simp only [RelD] at h;exact RelD.lowLn (t:=t) hc h
 | .pt t,x,vs,hc,h=>by
  simp only [fnT] at hc;simp only [RelD] at h;obtain ⟨p,h1,h2⟩:=h;have hsz:=y3 t;have e0:(cast (Ty.den_inn (.pt t)).symm x:Option t.inn.den)=Option.map (cast t.den_inn.symm) x:=cast_opt t.den_inn.symm x _;simp only [Ty.inn,RelD];refine ⟨p,h1,?_⟩;rw [show (cast (Ty.den_inn (.pt t)).symm x:Option (Ty.ln t.inn).den)=Option.map (cast t.den_inn.symm) x from e0];rcases h2 with ⟨h2,h3⟩ | ⟨g,o,y,es,h2,h3,h4,h5,h6,h7,h8,h9,h10⟩
  ·exact .inl ⟨by rw [Option.isSome_map];exact h2,h3⟩
  ·refine .inr ⟨g,o,cast t.den_inn.symm y,es,by rw [Option.isSome_map];exact h2,?_,h4,λht=>h5 (yy (N:=N.low) ht),h6,by simp only [Ty.size];rw [hsz];exact h7,by simp only [Ty.size];rw [hsz];exact h8,h9,RelD.lowLn hc h10⟩
   cases x with
   | none=>cases h2
   | some x=>simp only [Option.map_some,Option.getD_some] at h3 ⊢; rw [h3]
 | .mp k v ag,l,vs,hc,h=>by
  simp only [fnT,yR] at hc;simp only [RelD] at h;obtain ⟨a,h1,g,es,c,h2,h3,h4,h5,h6,h7,h8⟩:=h;have e0:(cast (Ty.den_inn (.mp k v ag)).symm l:List (k.den×v.inn.den))=List.map (λe=>(e.1,cast v.den_inn.symm e.2)) l:=cast_ents v.den_inn.symm l _;simp only [Ty.inn,RelD];rw [show (cast (Ty.den_inn (.mp k v ag)).symm l:List (k.den×(Ty.ln v.inn).den))=List.map (λe=>(e.1,cast v.den_inn.symm e.2)) l from e0];refine ⟨a,h1,g,es,c,h2,λht=>h3 (yy (N:=N.low) ht),h4,h5,h6,by rw [List.length_map];exact h7,λi hi hi'=>?_⟩;rw [List.length_map] at hi;obtain ⟨r1,cs,r2,r3⟩:=h8 i hi hi';rw [List.getElem_map];exact ⟨RelD_plK hc.1 r1,cs,RelD.lowLn hc.2 r2,r3⟩
 | .sl t,l,vs,hc,h=>by
  simp only [fnT] at hc;simp only [RelD] at h;obtain ⟨a,c,h1,h2,h3⟩:=h;have hl:(cast (Ty.den_inn (.sl t)).symm l:List t.inn.den).length=l.length:=cast_len t.den_inn.symm l _;simp only [Ty.inn,RelD];refine ⟨a,c,by rw [h1];congr 2;exact hl.symm,by rw [show List.length _=_ from hl];exact h2,λhp=>?_⟩;obtain ⟨g,o,ha,hn,hg,hu,hr⟩:=h3 (by rw [<- hl];exact hp);refine ⟨g,o,ha,λht=>hn (yy (N:=N.low) ht),hg,by rw [show List.length _=_ from hl];simp only [Ty.size];rw [y3];exact hu,λi hi=>?_⟩;obtain ⟨es,e1,e2,e3⟩:=hr i (by rw [<- hl];exact hi);refine ⟨es,by simp only [Ty.size];rw [y3];exact e1,by simp only [Ty.size];rw [y3];exact e2,?_⟩
  have:=RelD.lowLn hc e3
  rw [show (cast (Ty.den_inn (.sl t)).symm l:List t.inn.den)[i]=cast t.den_inn.symm l[i] from cast_get t.den_inn.symm l _ i hi (by rw [<- hl];exact hi)];exact this
 | .pair a b,p,vs,hc,h=>by
  simp only [fnT,yR] at hc;simp only [RelD] at h;obtain ⟨xs,ys,h0,h1,h2⟩:=h;simp only [Ty.inn,RelD];have e:=tZ a.den_inn.symm b.den_inn.symm p (Ty.den_inn (.pair a b)).symm;refine ⟨xs,ys,h0,?_,?_⟩
  ·rw [show (cast (Ty.den_inn (.pair a b)).symm p:a.inn.den×b.inn.den).1=cast a.den_inn.symm p.1 by rw [e]];exact RelD.lowLn hc.1 h1
  ·rw [show (cast (Ty.den_inn (.pair a b)).symm p:a.inn.den×b.inn.den).2=cast b.den_inn.symm p.2 by rw [e]];exact RelD.lowLn hc.2 h2
structure Gone {T:Tb} (F:Frm T) (μ:Nat->Option Nat) (H:Nat->Blk) (w:World) (ks:List Nat) (N':NN):Prop where
 sub:Sub w N' (Not F μ H)
 off:∀ b g,b∈ks->H b≠.dead->μ b=some g->¬ N'.all g
theorem seal_Gone (hp:Hp F μ S.H S.nx w):Gone F μ S.H w ks (Not F μ (S.seal ks).H):=⟨yG,λ_ _ hb hl hm=>seal_gone hp hl hb hm⟩
section
variable {H:Nat->Blk} {nx:Nat} {N':NN}
theorem seal_map {b:Nat} {kt vt:Ty} {ag:Bool} {l:List (kt.den×vt.den)} (hp:Hp F μ H nx w) (hG:Gone F μ H w ks N') (hb:b∈ks) (hB:H b=.mapd kt vt ag l) (hrg:xn vt=true) {v:Value} (hx:zA w (Not F μ H) μ H (.mp b) v) :
  RelD w N' (.mp kt vt ag) l [v]/\notAgg v=true:=by
 simp only [zA] at hx;obtain ⟨hl,g,hm,rfl⟩:=hx;have hrow:=hp.blk b;simp only [hB,za] at hrow;rcases hrow with hn | ⟨g',es,c,hm',h1,h2,h3,h4⟩
 ·rw [hm] at hn;cases hn
 ·rw [hm] at hm'
  cases hm';refine ⟨?_,rfl⟩;simp only [RelD];refine ⟨some g,rfl,⟨g,es,c,rfl,λhn=>hG.off _ _ hb hl hm (lnN_le hrg hn),hp.lt b g hl hm,h1,h2,h3,λi hi hi'=>?_⟩⟩;obtain ⟨r1,cs,r2,r3⟩:=h4 i hi hi';exact ⟨r1.keep (Keep.refl w) hG.sub,cs,r2.keep (Keep.refl w) hG.sub,r3⟩
theorem seal_wh {b:Nat} {t:Ty} {l:List t.den} (hp:Hp F μ H nx w) (hG:Gone F μ H w ks N') (hb:b∈ks) (hB:H b=.data t l) (hrg:xn t=true) {v:Value} (hx:zA w (Not F μ H) μ H (.wh b) v) :
  RelD w N' (.sl t) l [v]:=by
 simp only [zA] at hx;obtain ⟨t',l',hB',hx⟩:=hx;rw [hB] at hB'
 cases hB';rcases hx with ⟨g,c,hm,rfl,hc,hr⟩ | ⟨_,rfl,rfl⟩
 ·simp only [RelD];refine ⟨some ⟨g,0,none⟩,c,rfl,hc,λhp0=>?_⟩;have hlive:H b≠.dead:=by rw [hB];simp
  have hrow:=hp.blk b;simp only [hB,za] at hrow;rcases hrow with ⟨hn,_⟩ | ⟨g',hm',_,hrows⟩
  ·rw [hm] at hn;cases hn
  ·rw [hm] at hm'
   cases hm';refine ⟨g,0,rfl,λhN=>hG.off _ _ hb hlive hm (lnN_le hrg hN),hp.lt b g hlive hm,λ_ k hk=>by rw [Nat.zero_add];exact (hr k (Nat.lt_of_lt_of_le hk (uf _ hc))).2,λi hi=>?_⟩;obtain ⟨es,e1,e2,e3⟩:=hrows i hi;exact ⟨es,e1,by rw [Nat.zero_add];exact e2,e3.keep (Keep.refl w) hG.sub⟩
 ·simp only [RelD];exact ⟨none,0,rfl,Nat.le_refl _,λh=>absurd h (by simp)⟩
theorem fzC_ok {β:Type} {q:β} (hp:Hp F μ H nx w) (hG:Gone F μ H w ks N') {x:AV} {v:Value} {K:(t:Ty)->t.den->Option β} (hx:zA w (Not F μ H) μ H x v) (h:fzC H ks x K=some q) :
  ∃ t p,K t p=some q/\RelD w N' t p [v]:=by
 unfold fzC at h;split at h
 ·simp only [zA] at hx;subst hx;exact ⟨_,_,h,by simp only [RelD]⟩
 ·simp only [zA] at hx;subst hx;exact ⟨_,_,h,by simp only [RelD]⟩
 ·simp only [zA] at hx;subst hx;exact ⟨_,_,h,by simp only [RelD]⟩
 ·simp only [zA] at hx;subst hx;exact ⟨_,_,h,by simp only [RelD]⟩
 ·simp only [zA] at hx;exact ⟨_,_,h,hx.keep (Keep.refl w) hG.sub⟩
 ·simp only [zA] at hx;exact ⟨_,_,h,hx.1.keep (Keep.refl w) hG.sub⟩
 ·rename_i b;split at h
  ·rename_i t l hB;obtain ⟨hk,h⟩:=zB h;rw [yR] at hk;exact ⟨_,_,h,seal_wh hp hG (zc.1 hk.1) hB hk.2 hx⟩
  ·cases h
 ·rename_i b;split at h
  ·rename_i kt vt ag l hB;obtain ⟨hk,h⟩:=zB h;rw [yR] at hk;exact ⟨_,_,h,(seal_map hp hG (zc.1 hk.1) hB hk.2 hx).1⟩
  ·cases h
 ·cases h
theorem fzL_ok {β:Type} {q:β} (hp:Hp F μ H nx w) (hG:Gone F μ H w ks N'):∀ {xs:List AV} {vs:List Value} {K:(t:Ty)->t.den->Option β},zC w (Not F μ H) μ H xs vs->fzL H ks xs K=some q ->
  ∃ t p,K t p=some q/\xn t=true/\RelD w N' t p vs
 | [],vs,K,hx,h=>by
  simp only [zC] at hx;subst hx;exact ⟨_,_,h,rfl,by simp only [RelD]⟩
 | x::r,vs,K,hx,h=>by
  simp only [zC] at hx;obtain ⟨v,vr,rfl,h1,h2⟩:=hx;simp only [fzL] at h;obtain ⟨t,p,h,g1⟩:=fzC_ok hp hG h1 h;obtain ⟨u,q',h,_,g2⟩:=fzL_ok hp hG h2 h;exact ⟨_,_,h,rfl,by simp only [RelD];exact ⟨[v],vr,rfl,g1,g2⟩⟩
theorem fzP_ok {β:Type} {q:β} (hp:Hp F μ H nx w) (hG:Gone F μ H w ks N') {b:Nat} {cs:List AV} (hB:H b=.vars cs) (hb:b∈ks) {v:Value} {K:(t:Ty)->t.den->Option β} (hx:zA w (Not F μ H) μ H (.ptr b 0) v) (h:fzL H ks cs K=some q) :
  ∃ t p,K t p=some q/\xn t=true/\RelD w N' (.pt t) (some p) [v]/\notAgg v=true:=by
 simp only [zA] at hx;obtain ⟨hl,g,hm,rfl⟩:=hx;have hrow:=hp.blk b;simp only [hB,za] at hrow;rcases hrow with hn | ⟨g',vs,hm',h1,h2,h3⟩
 ·rw [hm] at hn;cases hn
 ·rw [hm] at hm'
  cases hm';obtain ⟨t,p,he,hnr,hr⟩:=fzL_ok hp hG h1 h;have hlen:=hr.length;refine ⟨t,p,he,hnr,?_,rfl⟩;simp only [RelD];exact ⟨some ⟨g,0,none⟩,rfl,.inr ⟨g,0,p,vs,rfl,rfl,rfl,λhn=>hG.off _ _ hb hl hm (lnN_le hnr hn),hp.lt b g hl hm,λ_ k hk=>by rw [Nat.zero_add];exact (h3 k (by rw [hlen];exact hk)).2,hlen,h2,hr⟩⟩
end
theorem fzC_cps {β:Type} {q:β} {H:Nat->Blk} {ks:List Nat} {x:AV} {K:(t:Ty)->t.den->Option β} (h:fzC H ks x K=some q) :
    ∃ t y,(∀ (γ:Type) (K':(t:Ty)->t.den->Option γ),fzC H ks x K'=K' t y)/\K t y=some q:=by
  cases x <;> simp only [fzC,reduceCtorEq] at h ⊢ <;> first
    | exact ⟨_,_,λ_ _=>rfl,h⟩
    | (rename_i b
       cases hB:H b <;> simp only [hB,reduceCtorEq] at h ⊢
       all_goals
         obtain ⟨h1,h2⟩:=zB h
         exact ⟨_,_,λ_ _=>by rw [h1];rfl,h2⟩)
theorem fzL_cps {β:Type} {q:β} {H:Nat->Blk} {ks:List Nat}:∀ {cs:List AV} {K:(t:Ty)->t.den->Option β},fzL H ks cs K=some q ->
  ∃ t y,(∀ (γ:Type) (K':(t:Ty)->t.den->Option γ),fzL H ks cs K'=K' t y)/\K t y=some q
 | [],_,h=>⟨_,_,λ_ _=>rfl,h⟩
 | x::r,K,h=>by
  simp only [fzL] at h ⊢;obtain ⟨t,y,h1,h2⟩:=fzC_cps h;obtain ⟨u,z,h3,h4⟩:=fzL_cps h2;exact ⟨_,_,λγ K'=>by rw [h1,h3],h4⟩
theorem fzL_im {β:Type} {R:β->Prop} (H:Nat->Blk) (ks:List Nat):∀ (cs:List AV) (K:(t:Ty)->t.den->Option β),(∀ t x y,K t x=some y->R y)->∀ y,fzL H ks cs K=some y->R y
 | [],K,hK,y,h=>hK _ _ y h
 | x::r,K,hK,y,h=>by
  simp only [fzL,fzC] at h;split at h
  all_goals first
   | exact fzL_im H ks r _ (λt x y h=>hK _ _ y h) y h
   | (cases h;done)
   | skip
  all_goals
   split at h
   ·exact fzL_im H ks r _ (λt x y h=>hK _ _ y h) y (zB h).2
   ·cases h
mutual
theorem sealV_ok (hp:Hp F μ S.H S.nx w):∀ (x:AV) (v:Value),zA w (Not F μ S.H) μ S.H x v->zA w (Not F μ (S.seal ks).H) μ (S.seal ks).H (y9 S.H ks x) v
 | .wh b,v,hx=>by
  simp only [y9]
  cases hk:zS ks b with
  | true =>
   have hb:=zc.1 hk;simp only [zI];simp only [zA] at hx;obtain ⟨t,l,hB,hx⟩:=hx;simp only [hB]
   cases hrg:xn t with
   | false=>simp [zA]
   | true =>
   simp only [zI];rcases hx with ⟨g,c,hm,rfl,hc,hr⟩ | ⟨_,rfl,rfl⟩
   ·simp only [zA,RelD];refine ⟨some ⟨g,0,none⟩,c,rfl,hc,λhp0=>?_⟩;have hlive:S.H b≠.dead:=by rw [hB];simp
    have hrow:=hp.blk b;simp only [hB,za] at hrow;rcases hrow with ⟨hn,_⟩ | ⟨g',hm',_,hrows⟩
    ·rw [hm] at hn;cases hn
    ·rw [hm] at hm'
     cases hm';refine ⟨g,0,rfl,λhN=>?_,hp.lt b g hlive hm,λ_ k hk=>by rw [Nat.zero_add];exact (hr k (Nat.lt_of_lt_of_le hk (uf _ hc))).2,λi hi=>?_⟩
     ·rcases lnN_le hrg hN with hF | ⟨b',hl',hm'⟩
      ·exact hp.apart b g hlive hm hF
      ·obtain ⟨h1,h2⟩:=yp hl'
       have:=hp.inj b b' g hlive h1 hm hm'
       subst this;exact h2 hb
     ·obtain ⟨es,e1,e2,e3⟩:=hrows i hi;exact ⟨es,e1,by rw [Nat.zero_add];exact e2,e3.keep (Keep.refl w) yG⟩
   ·simp only [zA,RelD];exact ⟨none,0,rfl,Nat.le_refl _,λh=>absurd h (by simp)⟩
  | false =>
   simp only [zK]
   have:=yB (kl:=ks) (N':=Not F μ (S.seal ks).H) (Keep.refl w) yG zy (.wh b) v hx
   simpa only [zj,hk,zK] using this
 | .agg cs,v,hx=>by
  simp only [y9,zA] at hx ⊢;obtain ⟨vs,h1,h2⟩:=hx;exact ⟨vs,h1,sealL_ok hp cs vs h2⟩
 | .i k n,v,hx=>hx
 | .u x,v,hx=>hx
 | .b x,v,hx=>hx
 | .kb x,v,hx=>hx
 | .s x,v,hx=>hx
 | .c u,v,hx=>hx
 | .bad,v,hx=>hx
 | .gd _ _ _,v,hx=>by simp [y9,zj,zA]
 | .sl t l,v,hx=>yB (kl:=ks) (Keep.refl w) (yG (F:=F)) zy (.sl t l) v hx
 | .fp t l i f,v,hx=>yB (kl:=ks) (Keep.refl w) (yG (F:=F)) zy (.fp t l i f) v hx
 | .fz t x,v,hx=>yB (kl:=ks) (Keep.refl w) (yG (F:=F)) zy (.fz t x) v hx
 | .ptr b o,v,hx=>by
  simp only [y9]
  cases hk:zS ks b with
  | false =>
   simp only [zK]
   have:=yB (kl:=ks) (N':=Not F μ (S.seal ks).H) (Keep.refl w) yG zy (.ptr b o) v hx
   simpa only [zj,hk,zK] using this
  | true =>
   simp only [zI];split
   ·rename_i cs hB
    cases hq:(fzL S.H ks cs λt x=>some (AV.fz (.pt t) (some x))) with
    | none=>simp [zA]
    | some q =>
     obtain ⟨t,p,he,_,hr,hn⟩:=fzP_ok hp (seal_Gone hp) hB (zc.1 hk) hx hq
     cases he;simp only [Option.getD_some,zA];exact ⟨hr,hn⟩
   ·simp [zA]
 | .ep b t i f,v,hx=>yB (kl:=ks) (Keep.refl w) (yG (F:=F)) zy (.ep b t i f) v hx
 | .win b lo n,v,hx=>yB (kl:=ks) (Keep.refl w) (yG (F:=F)) zy (.win b lo n) v hx
 | .mptr c b o,v,hx=>by
  simp only [y9]
  cases hk:zS ks b with
  | false =>
   simp only [zK]
   have:=yB (kl:=ks) (N':=Not F μ (S.seal ks).H) (Keep.refl w) yG zy (.mptr c b o) v hx
   simpa only [zj,hk,zK] using this
  | true =>
   simp only [zI];split
   ·rename_i cs hB
    cases hq:(fzL S.H ks cs λt x=>some (AV.fz (.pt t) (cond c (some x) none))) with
    | none=>simp [zA]
    | some q =>
     simp only [zA] at hx;obtain ⟨hl,⟨rfl,g,hm,rfl⟩ | ⟨rfl,rfl⟩⟩:=hx
     ·obtain ⟨t,p,he,_,hr,hn⟩:=fzP_ok hp (seal_Gone hp) hB (zc.1 hk) (v:=.pointer (some ⟨g,0,none⟩)) (by simp only [zA];exact ⟨hl,g,hm,rfl⟩) hq
      cases he;simp only [Option.getD_some,zA,zI];exact ⟨hr,hn⟩
     ·obtain ⟨t,p,he⟩:∃ t p,q=AV.fz (.pt t) (cond false (some p) none):=fzL_im (R:=λq=>∃ (t:Ty) (p:t.den),q=AV.fz (.pt t) (cond false (some p) none)) _ _ _ _ (λt x y h=>by cases h;exact ⟨t,x,rfl⟩) _ hq;subst he;simp only [Option.getD_some,zA,RelD,zK];exact ⟨⟨none,rfl,.inl ⟨rfl,rfl⟩⟩,rfl⟩
   ·simp [zA]
 | .mp b,v,hx=>by
  simp only [y9]
  cases hk:zS ks b with
  | false =>
   simp only [zK]
   have:=yB (kl:=ks) (N':=Not F μ (S.seal ks).H) (Keep.refl w) yG zy (.mp b) v hx
   simpa only [zj,hk,zK] using this
  | true =>
   simp only [zI];split
   ·rename_i kt vt ag l hB
    cases hrg:xn vt with
    | false=>simp [zA]
    | true =>
    simp only [zI,zA];exact seal_map hp (seal_Gone hp) (zc.1 hk) hB hrg hx
   ·simp [zA]
 | .fn f cs,v,hx=>yB (kl:=ks) (Keep.refl w) (yG (F:=F)) zy (.fn f cs) v hx
 | .tup cs,v,hx=>yB (kl:=ks) (Keep.refl w) (yG (F:=F)) zy (.tup cs) v hx
 | .ifc t x,v,hx=>yB (kl:=ks) (Keep.refl w) (yG (F:=F)) zy (.ifc t x) v hx
 | .pan x,v,hx=>yB (kl:=ks) (Keep.refl w) (yG (F:=F)) zy (.pan x) v hx
 | .lit x u,v,hx=>yB (kl:=ks) (Keep.refl w) (yG (F:=F)) zy (.lit x u) v hx
theorem sealL_ok (hp:Hp F μ S.H S.nx w):∀ (xs:List AV) (vs:List Value),zC w (Not F μ S.H) μ S.H xs vs->zC w (Not F μ (S.seal ks).H) μ (S.seal ks).H (sealL S.H ks xs) vs
 | [],vs,hx=>by simpa only [sealL,zC] using hx
 | x::xs,vs,hx=>by
  simp only [sealL,zC] at hx ⊢;obtain ⟨v,vr,rfl,h1,h2⟩:=hx;exact ⟨v,vr,rfl,sealV_ok hp x v h1,sealL_ok hp xs vr h2⟩
end
theorem fzL_ng (H:Nat->Blk) (ks:List Nat):∀ (cs:List AV) (K:(t:Ty)->t.den->Option AV),(∀ t x y,K t x=some y->yr y=y)->∀ y,fzL H ks cs K=some y->yr y=y
 | [],K,hK,y,h=>hK _ _ y h
 | x::r,K,hK,y,h=>by
  simp only [fzL,fzC] at h;split at h
  all_goals first
   | exact fzL_ng H ks r _ (λt x y h=>hK _ _ y h) y h
   | (cases h;done)
   | skip
  all_goals
   split at h
   ·exact fzL_ng H ks r _ (λt x y h=>hK _ _ y h) y (zB h).2
   ·cases h
theorem sealV_ng (H:Nat->Blk) (ks:List Nat) (x:AV):yr (y9 H ks x)=y9 H ks x:=by
 cases x
 case wh b =>
  simp only [y9]
  cases zS ks b
  ·rfl
  ·simp only [zI]
   cases H b <;> try rfl
   rename_i t l;show yr (cond (xn t) (.sl t l) .bad)=cond (xn t) (.sl t l) .bad
   cases xn t <;> rfl
 case mp b =>
  simp only [y9]
  cases zS ks b
  ·rfl
  ·simp only [zI]
   cases H b <;> try rfl
   rename_i kt vt ag l;show yr (cond (xn vt) (.fz (.mp kt vt ag) l) .bad)=cond (xn vt) (.fz (.mp kt vt ag) l) .bad
   cases xn vt <;> rfl
 case mptr c b o =>
  simp only [y9]
  cases zS ks b
  ·rfl
  ·simp only [zI];split
   ·rename_i cs _
    cases hq:(fzL H ks cs λt x=>some (AV.fz (.pt t) (cond c (some x) none))) with
    | none=>rfl
    | some q=>exact fzL_ng H ks _ _ (λt x y h=>by cases h;rfl) _ hq
   ·rfl
 case ptr b o =>
  simp only [y9]
  cases zS ks b
  ·rfl
  ·simp only [zI];split
   ·rename_i cs _
    cases hq:(fzL H ks cs λt x=>some (AV.fz (.pt t) (some x))) with
    | none=>rfl
    | some q=>exact fzL_ng H ks _ _ (λt x y h=>by cases h;rfl) _ hq
   ·rfl
 all_goals simp only [y9,zj]
 all_goals first
  | rfl
  | (cases zS ks _ <;> rfl)
theorem seal_rel (hp:Hp F μ S.H S.nx w) {ρ:Operand->Value} {ρA:Operand->AV} (hρ:∀ x,RelG w (Not F μ S.H) μ S.H ρ (ρA x) (ρ x)) (x:Operand) :
  RelG w (Not F μ (S.seal ks).H) μ (S.seal ks).H ρ (y9 S.H ks (ρA x)) (ρ x):=RelG_of (sealV_ng _ _ _) (sealV_ok hp _ _ (hρ x).rel)
theorem EffOK.unseal {ρ:Operand->Value} {op:Op} {K:AV->St->Option α} (h:EffOK P F μ (S.seal ks) w ρ op K r):EffOK P F μ S w ρ op K r:=by
 obtain ⟨v,S',μ',w',kl,h1,h2,h3,h4,h5,h6⟩:=h;refine ⟨v,S',μ',w',ks++kl,h1,?_,?_,h4,seal_pl.trans h5,h6⟩
 ·rw [h2];funext t;simp only [St.seal,killsE_eq,kv_kv]
 ·rw [h3];simp only [St.seal,lAs]
theorem tv (hp:Hp F μ S.H S.nx w) {ρ:Operand->Value} {ρA:Operand->AV} {op:Op} {K:AV->St->Option α} (hρ:∀ x,RelG w (Not F μ S.H) μ S.H ρ (ρA x) (ρ x)) {f:(Operand->AV)->St->Option α} (h:sealing ρA S ks f=some r)
  (hf:∀ (S:St) (ρA:Operand->AV),Hp F μ S.H S.nx w->(∀ x,RelG w (Not F μ S.H) μ S.H ρ (ρA x) (ρ x))->f ρA S=some r->EffOK P F μ S w ρ op K r):EffOK P F μ S w ρ op K r:=by
 unfold sealing at h;split at h
 ·exact hf S ρA hp hρ h
 ·exact (hf _ _ (seal_hp hp) (seal_rel hp hρ) h).unseal
end
theorem eff_vars {S:St} {ρ:Operand->Value} {op:Op} {K:AV->St->Option α} {cs:List AV} {vs:List Value} {e:TypeId} {w':World} (hp:Hp F μ S.H S.nx w)
  (hr:zC w (Not F μ S.H) μ S.H cs vs) (hg:Grew w (.cells vs.toArray e) w')
  (hK:K (.ptr S.nx 0) ⟨S.E,zp S.H S.nx (.vars cs),S.nx+1,S.kl⟩=some r)
  (hrun:∀ o:Oper,o.op=op->(execOp ρ o).run P w=.ok (.value (.pointer (some ⟨w.heap.size,0,none⟩))) w'):EffOK P F μ S w ρ op K r:=by
 have T:=hg.turned hp (.vars cs) (by simp) (λh=>by cases h) (λc e m h=>by cases h;exact Nat.le_refl _);have hrow:=hg.row;have hroom:=hg.room (.inl rfl)
 have hp':=T.hp' (by
  simp only [za]
  refine .inr ⟨w.heap.size,vs,zN _ _ _,T.trs cs vs hr,by simpa using hrow,by simpa using hroom⟩)
 refine ⟨_,_,xD μ S.nx (some w.heap.size),w',[],hK,rfl,by simp,hp',T.pl,.pointer (some ⟨w.heap.size,0,none⟩),λo ho=>.inl (hrun o ho),?_⟩;simp only [zA,zN,zf];exact ⟨⟨by simp,_,rfl,rfl⟩,hg.fine⟩
theorem rows_new {t:Ty} {l:List t.den} {cs:List Value} {w':World} {g:Nat} (hrow:rowAt w' g 0 cs)
  (hd:∀ i,(h:i<l.length)->i*t.size+t.size<=cs.length/\RelD w' N t l[i] ((cs.drop (i*t.size)).take t.size)) :
  ∀ i,(h:i<l.length)->∃ es,es.length=t.size/\rowAt w' g (i*t.size) es/\RelD w' N t l[i] es:=by
 intro i hi;obtain ⟨h1,h2⟩:=hd i hi;refine ⟨_,by simp;omega,?_,h2⟩
 have:=rowAt_sub hrow (i*t.size) t.size
 simpa using this
theorem eff_data {S:St} {ρ:Operand->Value} {op:Op} {K:AV->St->Option α} {t:Ty} {l:List t.den} {cs:List Value} {e:TypeId} {fr:Nat×Nat} {c:Nat} {w':World} (hp:Hp F μ S.H S.nx w)
  (hg:Grew w (.cells cs.toArray e fr) w') (hmk:fr=(0,0)\/t=.u8) (hf:fr=(0,0)\/(cs.length<=fr.1/\fr.1<=fr.2)) (hc:l.length<=c) (hcs:c*t.size=cs.length)
  (hd:∀ i,(h:i<l.length)->RelD w (Not F μ S.H) t l[i] ((cs.drop (i*t.size)).take t.size))
  (hK:K (.wh S.nx) ⟨S.E,zp S.H S.nx (.data t l),S.nx+1,S.kl⟩=some r)
  (hrun:∀ o:Oper,o.op=op->(execOp ρ o).run P w=.ok (.value (.slice (some ⟨w.heap.size,0,none⟩) l.length c)) w'):EffOK P F μ S w ρ op K r:=by
 have T:=hg.turned hp (.data t l) (by simp) (λhu c e m hc=>by
  cases hc;rcases hmk with h | h
  ·rw [h];simp
  ·subst h;cases hu) (λc e m h=>by
  cases h;rcases hf with h | h
  ·rw [h];exact Nat.le_refl _
  ·exact h.2)
 have hrow:=hg.row;have hroom:=hg.room (hf.imp id λh=>by simpa using h.1);simp only [List.size_toArray] at hroom;have hle:∀ k,k<=c->k*t.size<=cs.length:=λk hk=>by rw [<- hcs];exact uf _ hk
 have hp':=T.hp' (by
  simp only [za];refine .inr ⟨w.heap.size,zN _ _ _,λk hk=>hroom k (Nat.lt_of_lt_of_le hk (hle _ hc)),rows_new (by simpa using hrow) λi hi=>⟨?_,(hd i hi).keep T.keepN T.notN⟩⟩
  have:=hle (i+1) (by omega)
  rw [Nat.add_mul] at this
  omega)
 refine ⟨_,_,xD μ S.nx (some w.heap.size),w',[],hK,rfl,by simp,hp',T.pl,.slice (some ⟨w.heap.size,0,none⟩) l.length c,λo ho=>.inl (hrun o ho),?_⟩;simp only [zA];refine ⟨⟨t,l,zf _ _ _,.inl ⟨w.heap.size,c,zN _ _ _,rfl,hc,?_⟩⟩,hg.fine⟩;rw [hcs];exact hroom
end
end Go.Ev
namespace Go.Ev
open Go
section
variable {P:Program} {T:Tb} {F:Frm T} {μ:Nat->Option Nat} {H:Nat->Blk} {nx:Nat} {w:World} {N:NN} {α:Type} {r:α}
structure SetMany (w w':World) (g o:Nat) (vs:List Value):Prop where
 heap:∀ k,k≠g->w'.heap[k]?=w.heap[k]?
 size:w'.heap.size=w.heap.size
 os:w'.os=w.os
 tape:w'.tape=w.tape
 output:w'.output=w.output
 cell:∀ k,w'.cell? ⟨g,k,none⟩=if h:o<=k/\k<o+vs.length then some (vs[k-o]'(by omega)) else w.cell? ⟨g,k,none⟩
 frozen:∀ k,w'.frozen? ⟨g,k,none⟩=w.frozen? ⟨g,k,none⟩
 mark:NoMark w g->NoMark w' g
 wfm:Wfm w g->Wfm w' g
theorem Wfm.setCell {w:World} {g:Nat} (h:Wfm w g) (o:Nat) (v:Value):Wfm (w.setCell ⟨g,o,none⟩ v) g:=by
 intro c e m hc;unfold World.setCell at hc;simp only [Array.getElem?_modify,if_true] at hc
 cases hh:w.heap[g]? with
 | none=>rw [hh] at hc;cases hc
 | some ob =>
  rw [hh] at hc
  cases ob with
  | cells c0 e0 m0 =>
   simp only [Option.map_some,y5] at hc;injection hc with h1 h2 h3
   have:=h c0 e0 m0 hh
   rw [<- h3];exact this
  | _=>simp at hc
theorem NoMark.setCell {w:World} {g:Nat} (h:NoMark w g) (o:Nat) (v:Value):NoMark (w.setCell ⟨g,o,none⟩ v) g:=by
 intro c e m hc;unfold World.setCell at hc;simp only [Array.getElem?_modify,if_true] at hc
 cases hh:w.heap[g]? with
 | none=>rw [hh] at hc;cases hc
 | some ob =>
  rw [hh] at hc
  cases ob with
  | cells c0 e0 m0 =>
   simp only [Option.map_some,y5] at hc;injection hc with h1 h2 h3
   have:=h c0 e0 m0 hh
   rw [<- h1,<- h3];simpa using this
  | _=>simp at hc
theorem wj:∀ (vs:List Value) (w:World) (g b i:Nat),(∀ v∈vs,v.oneCell'=true)->(∀ k,k<vs.length->(w.cell? ⟨g,b+i+k,none⟩).isSome=true/\w.frozen? ⟨g,b+i+k,none⟩=false) ->
  ∃ w',(storeCells ⟨g,b,none⟩ vs i).run P w=.ok () w'/\SetMany w w' g (b+i) vs
 | [],w,g,b,i,_,_=>⟨w,by simp [storeCells],⟨λ_ _=>rfl,rfl,rfl,rfl,rfl,λk=>by rw [dif_neg (by simp only [List.length_nil];omega)],λ_=>rfl,λh=>h,λh=>h⟩⟩
 | v::vs,w,g,b,i,h1,h2=>by
  obtain ⟨c,hc⟩:=Option.isSome_iff_exists.1 (h2 0 (by simp)).1;have hf:=(h2 0 (by simp)).2;simp only [Nat.add_zero] at hc hf
  have hst:(store (⟨g,b+i,none⟩:Addr) v).run P w=.ok () (w.setCell ⟨g,b+i,none⟩ v):=by
   rw [run_store P w _ v .plain (h1 v (by simp)),hc];simp [hf]
  have hother:∀ k,k≠b+i->(w.setCell ⟨g,b+i,none⟩ v).cell? ⟨g,k,none⟩=w.cell? ⟨g,k,none⟩:=λk hk =>
   World.cell?_setCell_other w ⟨g,b+i,none⟩ ⟨g,k,none⟩ v (by simp<;>omega)
  obtain ⟨w',hrun,hS⟩:=wj vs (w.setCell ⟨g,b+i,none⟩ v) g b (i+1) (λu hu=>h1 u (by simp [hu])) (λk hk=>by
   have:=h2 (k+1) (by simp<;>omega)
   have e:b+(i+1)+k=b+i+(k+1):=by omega
   rw [e,hother _ (by omega),World.frozen?_setCell]
   exact this)
  refine ⟨w',by simp only [storeCells,Sem.run_bind,xb,hst,Result.andThen_ok,hrun],?_⟩;refine ⟨λk hk=>?_,?_,?_,?_,?_,λk=>?_,λk=>?_,λh=>hS.mark (h.setCell _ _),λh=>hS.wfm (h.setCell _ _)⟩
  ·rw [hS.heap k hk];exact heap_setCell_other w _ k v (by simpa using hk)
  ·rw [hS.size];simp
  ·rw [hS.os];rfl
  ·rw [hS.tape];rfl
  ·rw [hS.output];rfl
  ·rw [hS.cell k];by_cases hk:k=b+i
   ·subst hk;have n1:¬ (b+(i+1)<=b+i/\b+i<b+(i+1)+vs.length):=by omega
    have n2:b+i<=b+i/\b+i<b+i+(v::vs).length:=by simp
    rw [dif_neg n1,dif_pos n2,World.cell?_setCell_same w _ _ hc];simp
   ·by_cases hk2:b+(i+1)<=k/\k<b+(i+1)+vs.length
    ·have n2:b+i<=k/\k<b+i+(v::vs).length:=by simp;omega
     rw [dif_pos hk2,dif_pos n2];congr 1;have e:k-(b+i)=(k-(b+(i+1)))+1:=by omega
     simp only [e,List.getElem_cons_succ]
    ·have n2:¬ (b+i<=k/\k<b+i+(v::vs).length):=by simp;omega
     rw [dif_neg hk2,dif_neg n2,hother k hk]
  ·rw [hS.frozen k,World.frozen?_setCell]
theorem SetMany.room {w w':World} {g o n:Nat} {vs:List Value} (h:SetMany w w' g o vs) (hr:room w g n):room w' g n:=λk hk=>by
 obtain ⟨h1,h2⟩:=hr k hk;refine ⟨?_,by rw [h.frozen];exact h2⟩;rw [h.cell];split
 ·rfl
 ·exact h1
theorem SetMany.row {w w':World} {g o b:Nat} {vs us:List Value} (h:SetMany w w' g o vs) (hr:rowAt w g b us) (hd:b+us.length<=o\/o+vs.length<=b):rowAt w' g b us:=λi hi=>by
 rw [h.cell,dif_neg (by omega)];exact hr i hi
theorem SetMany.rowNew {w w':World} {g o:Nat} {vs:List Value} (h:SetMany w w' g o vs):rowAt w' g o vs:=λi hi=>by
 rw [h.cell,dif_pos (by omega)];simp
theorem SetMany.splice {w w':World} {g o b:Nat} {vs us:List Value} (h:SetMany w w' g (b+o) vs) (hr:rowAt w g b us) (hle:o+vs.length<=us.length) :
  rowAt w' g b (us.take o++vs++us.drop (o+vs.length)):=λi hi=>by
 rw [h.cell];split
 ·rename_i hc;congr 1;simp only [List.getElem_append,xG,xe];have h1:¬ i<min o us.length:=by omega
  have h2:i<min o us.length+vs.length:=by omega
  simp only [h2,dif_pos,h1,dif_neg,not_false_eq_true];congr 1;omega
 ·rename_i hc;simp only [xe,xG,sG] at hi;have hi':i<us.length:=by omega
  rw [hr i hi'];congr 1;simp only [List.getElem_append,xG,xe];by_cases h1:i<o
  ·have h2:i<min o us.length+vs.length:=by omega
   have h3:i<min o us.length:=by omega
   simp [h2,h3]
  ·have h2:¬ i<min o us.length+vs.length:=by omega
   simp only [h2,dif_neg,not_false_eq_true,List.getElem_drop];congr 1;omega
theorem td {w:World} {N:NN}:∀ {t:Ty} {x:t.den} {vs:List Value},RelD w N t x vs->∀ v∈vs,v.oneCell'=true
 | .int _,_,_,h,v,hv=>by simp only [RelD] at h;subst h;cases List.mem_singleton.1 hv;rfl
 | .u8,_,_,h,v,hv=>by simp only [RelD] at h;subst h;cases List.mem_singleton.1 hv;rfl
 | .bool,_,_,h,v,hv=>by simp only [RelD] at h;subst h;cases List.mem_singleton.1 hv;rfl
 | .str,_,_,h,v,hv=>by simp only [RelD] at h;subst h;cases List.mem_singleton.1 hv;rfl
 | .sl _,_,_,h,v,hv=>by simp only [RelD] at h;obtain ⟨_,_,rfl,_⟩:=h;cases List.mem_singleton.1 hv;rfl
 | .pt _,_,_,h,v,hv=>by simp only [RelD] at h;obtain ⟨_,rfl,_⟩:=h;cases List.mem_singleton.1 hv;rfl
 | .mp _ _ _,_,_,h,v,hv=>by simp only [RelD] at h;obtain ⟨_,rfl,_⟩:=h;cases List.mem_singleton.1 hv;rfl
 | .unit,_,_,h,v,hv=>by simp only [RelD] at h;subst h;cases hv
 | .pair _ _,_,_,h,v,hv=>by
  simp only [RelD] at h;obtain ⟨xs,ys,rfl,h1,h2⟩:=h;rcases List.mem_append.1 hv with hv | hv
  ·exact td h1 v hv
  ·exact td h2 v hv
 | .ln _,_,_,h,v,hv=>by simp only [RelD] at h;exact td h v hv
 | .mx _,_,_,h,v,hv=>by simp only [RelD] at h;exact td h.2.1 v hv
 | .rg _,_,_,h,v,hv=>by simp only [RelD] at h;exact td h v hv
theorem okCell_one {x:AV} {v:Value} (hx:zA w N μ H x v) (ho:okCell x=true):v.oneCell'=true:=by
 cases x <;> simp only [okCell,Bool.false_eq_true] at ho
 case c u =>
  simp only [zA] at hx;subst hx
  cases v <;> simp_all [Value.oneCell']
 case fn f cs=>simp only [zA] at hx;obtain ⟨vs,rfl,_⟩:=hx;rfl
 case sl t l=>simp only [zA,RelD] at hx;obtain ⟨a,c,hv,_⟩:=hx;simp at hv;subst hv;rfl
 case fp t l i f=>simp only [zA] at hx;obtain ⟨_,g,o,_,_,rfl,_⟩:=hx;rfl
 case ptr b o=>simp only [zA] at hx;obtain ⟨_,g,_,rfl⟩:=hx;rfl
 case mp b=>simp only [zA] at hx;obtain ⟨_,g,_,rfl⟩:=hx;rfl
 case ifc t x=>simp only [zA] at hx;obtain ⟨_,rfl,_⟩:=hx;rfl
 case mptr c b o=>simp only [zA] at hx;obtain ⟨_,⟨_,g,_,rfl⟩ | ⟨_,rfl⟩⟩:=hx <;> rfl
 case ep b t i f=>simp only [zA] at hx;obtain ⟨_,g,_,_,_,rfl⟩:=hx;rfl
 case wh b=>simp only [zA] at hx;obtain ⟨t,l,_,⟨g,c,_,rfl,_⟩ | ⟨_,_,rfl⟩⟩:=hx <;> rfl
 case win b lo n=>simp only [zA] at hx;obtain ⟨t,l,_,_,⟨g,c,o,_,rfl,_⟩ | ⟨_,_,rfl⟩⟩:=hx <;> rfl
 case fz t x=>simp only [zA] at hx;exact td hx.1 v (by simp)
 all_goals (simp only [zA] at hx;subst hx;rfl)
theorem vX:∀ {cs:List AV} {vs:List Value},zC w N μ H cs vs->cs.all okCell=true->∀ v∈vs,v.oneCell'=true
 | [],_,h,_,v,hv=>by simp only [zC] at h;subst h;simp at hv
 | x::cs,_,h,ho,v,hv=>by
  simp only [zC] at h;obtain ⟨u,ur,rfl,h1,h2⟩:=h;simp only [List.all_cons,yR] at ho;rcases List.mem_cons.1 hv with rfl | hv
  ·exact okCell_one h1 ho.1
  ·exact vX h2 ho.2 v hv
theorem run_storeAt {t:TypeId} {g o:Nat} {v:Value} (hi:(P.info? t).isSome=true) (hn:v.cells.toList.length=P.cellsOf t) (h1:∀ u∈v.cells.toList,u.oneCell'=true)
  (h2:∀ k,k<v.cells.toList.length->(w.cell? ⟨g,o+k,none⟩).isSome=true/\w.frozen? ⟨g,o+k,none⟩=false) :
  ∃ w',(Instr.storeAt t (.pointer (some ⟨g,o,none⟩)) v).run P w=.ok () w'/\SetMany w w' g o v.cells.toList:=by
 obtain ⟨w',hrun,hS⟩:=wj (P:=P) v.cells.toList w g o 0 h1 (by simpa using h2);refine ⟨w',?_,by simpa using hS⟩;obtain ⟨i,hi⟩:=Option.isSome_iff_exists.1 hi
 have hsz:¬ v.cells.size≠i.size:=by
  have:P.cellsOf t=i.size:=by simp [Program.cellsOf,hi]
  simp at hn;omega
 simp only [Instr.storeAt,Instr.sureAddr,Sem.run_bind,Sem.run_pure,Result.andThen_ok,storeVar,yi hi];rw [if_neg hsz];simp [hrun]
def uT:Blk->Blk->Prop
 | .vars _,.vars _=>True
 | .data t l,.data t' l'=>∃ _:t'=t,l'.length=l.length
 | _,_=>False
theorem Turned.store (hp:Hp F μ H nx w) {b g o:Nat} {vs:List Value} {w':World} {B:Blk} (hl:H b≠.dead) (hg:μ b=some g) (hS:SetMany w w' g o vs) (hB:B≠.dead)
  (hk:uT (H b) B):Turned F μ H nx w [] b (some g) B nx w' where
 hp:=hp
 os:=hS.os
 tape:=hS.tape
 output:=hS.output
 size:=Nat.le_of_eq hS.size.symm
 keep:=λg' _ hne=>hS.heap g' λe=>hne hl (by rw [e];exact hg)
 at_:=λg' hg'=>.inl ⟨hl,by rw [<- hg',hg]⟩
 mono:=Nat.le_refl _
 lt:=by
  rcases Nat.lt_or_ge b nx with h | h
  ·exact h
  ·exact absurd (hp.dead b h) hl
 live:=hB
 kind:=λ_ ht=>by
  cases hb:H b <;> cases B <;> simp only [hb,uT] at hk <;> first | exact ⟨rfl,hg.symm⟩ | exact absurd rfl ht
 mark:=λhu g' hg'=>by
  cases hg';refine hS.mark (hp.mark b g ?_ hg)
  cases hb:H b <;> cases B <;> simp only [hb,uT] at hk <;> first | cases hu | skip
  obtain ⟨ht,_⟩:=hk;subst ht;exact hu
 wfm:=λg' hg'=>by
  cases hg';exact hS.wfm (hp.wfm b g hl hg)
 self:=λ_ _=>by
  refine ⟨by rw [zN,hg],?_⟩
  cases hb:H b <;> cases B <;> simp only [hb,uT] at hk <;> simp only [zf] <;> try trivial
  ·obtain ⟨ht,hlen⟩:=hk;subst ht;exact ⟨⟨_,rfl,hlen⟩,λg' n hg' hr=>by rw [hg] at hg';cases hg';exact hS.room hr⟩
end
end Go.Ev
namespace Go.Ev
open Go
section
variable {P:Program} {T:Tb} {F:Frm T} {μ:Nat->Option Nat} {S:St} {w:World} {α:Type} {r:α} {ρ:Operand->Value} {ρA:Operand->AV} {K:AV->St->Option α}
theorem szOK_info {e:TypeId} {t:Ty} (h:tu P e t=true):∃ i,P.info? e=some i/\i.size=t.size:=by
 unfold tu at h
 cases hi:P.info? e with
 | none=>simp [hi] at h
 | some i=>simp only [hi] at h;exact ⟨i,rfl,xi h⟩
theorem sQ {t e:TypeId} {y:Ty} (h:tE P t=some (e,y)):P.underlying t=some (.slice e):=by
 unfold tE at h;split at h
 ·rename_i e' hu;obtain ⟨y',_,hy⟩:=Option.map_eq_some_iff.1 h;simp only [Prod.mk.injEq] at hy;rw [hu,hy.1]
 ·cases h
theorem tJ {t:TypeId} {K:List AV->Option α} {N:NN} {H:Nat->Blk} (h:zeroCells P t K=some r) :
  ∃ i z cs,P.info? t=some i/\i.zero=some z/\K cs=some r/\zC w N μ H cs z.cells.toList:=by
 unfold zeroCells at h
 cases hi:P.info? t with
 | none=>simp [hi] at h
 | some i =>
  simp only [hi] at h
  cases hz:i.zero with
  | none=>simp [hz] at h
  | some z =>
   simp only [hz] at h;obtain ⟨cs,hK,hr⟩:=vJ (w:=w) (N:=N) (μ:=μ) (H:=H) (absV_ok z) h;exact ⟨i,z,cs,rfl,hz,hK,hr⟩
theorem eff_alloc (hp:Hp F μ S.H S.nx w) {C:zW} {t:TypeId} (h:evEff P C (.alloc t) ρA S K=some r):EffOK P F μ S w ρ (.alloc t) K r:=by
 simp only [evEff] at h;obtain ⟨i,z,cs,hi,hz,hK,hr⟩:=tJ (w:=w) (μ:=μ) (N:=Not F μ S.H) (H:=S.H) h;refine eff_vars (e:=t) (vs:=z.cells.toList) hp hr (by simpa using Grew.alloc w (.cells z.cells t)) hK λo ho=>?_
 simp [execOp,ho,Instr.alloc,zeroValue,typeInfo,hi,hz,newVar,newRow]
theorem eff_box (hp:Hp F μ S.H S.nx w) (hρ:∀ x,RelG w (Not F μ S.H) μ S.H ρ (ρA x) (ρ x)) {C:zW} {t:TypeId} {x:Operand} (h:evEff P C (.box t x) ρA S K=some r):EffOK P F μ S w ρ (.box t x) K r:=by
 simp only [evEff] at h;obtain ⟨cs,hK,hr⟩:=vJ (hρ x).rel h;refine eff_vars (e:=t) (vs:=(ρ x).cells.toList) hp hr (by simpa using Grew.alloc w (.cells (ρ x).cells t)) hK λo ho=>?_
 simp [execOp,ho,Instr.box,newVar,newRow]
theorem eff_range (hp:Hp F μ S.H S.nx w) (hρ:∀ x,RelG w (Not F μ S.H) μ S.H ρ (ρA x) (ρ x)) {C:zW} {t:TypeId} {x:Operand} (h:evEff P C (.range t x) ρA S K=some r):EffOK P F μ S w ρ (.range t x) K r:=by
 simp only [evEff] at h;split at h
 ·rename_i l hu hv;have hx:=(hρ x).rel;rw [hv] at hx;simp only [zA] at hx;have hg:=Grew.alloc w (.stringIter ⟨l.toArray⟩ 0);have T:=hg.turned hp (.iter l 0) (by simp) (λh=>by cases h) (λc e m h=>by cases h);have hp':=T.hp' (by simp only [za];exact ⟨w.heap.size,zN _ _ _,hg.new⟩);refine ⟨_,_,xD μ S.nx (some w.heap.size),_,[],h,rfl,by simp,hp',T.pl,.pointer (some ⟨w.heap.size,0,none⟩),λo ho=>.inl ?_,?_⟩
  ·simp [execOp,ho,Instr.range,run_underlying hu,hx]
  ·simp only [zA,zN,zf];exact ⟨⟨by simp,_,rfl,rfl⟩,hg.fine⟩
 ·cases h
theorem fill_elems (size:Nat):∀ (parts:List (Nat×Value)) (k:Nat) (X:List Value),(∀ j p,parts[j]?=some p->p.1=k+j/\p.2.cells.size=size)->(k+parts.length)*size<=X.length ->
  Instr.fill (λi=>some (i*size,size)) X.toArray parts=some (X.take (k*size)++parts.flatMap (λp=>p.2.cells.toList)++X.drop ((k+parts.length)*size)).toArray
 | [],k,X,_,_=>by simp [Instr.fill]
 | (i,v)::parts,k,X,h,hle=>by
  obtain ⟨h1,h2⟩:=h 0 (i,v) rfl;simp only at h1 h2;rw [Nat.add_zero] at h1;replace h1:=h1.symm;subst h1
  have hle':k*size+size<=X.length:=by
   refine Nat.le_trans ?_ hle;simp only [List.length_cons];rw [<- Nat.succ_mul];exact uf _ (by omega)
  have hc:(decide (v.cells.size≠size)||decide (k*size+v.cells.size>X.toArray.size))=false:=by
   simp only [Bool.or_eq_false_iff,decide_eq_false_iff_not,List.size_toArray];constructor <;> omega
  have hf:=fold_set v.cells.toList X (k*size) 0 (by simp<;>omega);simp only [Nat.add_zero] at hf
  have hf':v.cells.zipIdx.foldl (λ(cs:Array Value) (x:Value×Nat)=>cs.setIfInBounds (k*size+x.2) x.1) X.toArray=(X.take (k*size)++v.cells.toList++X.drop (k*size+v.cells.toList.length)).toArray:=by
   rw [<- hf,<- Array.foldl_toList];simp
  have hvl:v.cells.toList.length=size:=by simpa using h2
  have hlen:(X.take (k*size)++v.cells.toList++X.drop (k*size+v.cells.toList.length)).length=X.length:=by
   simp only [xe,xG,sG,hvl];omega
  have e1:(k+1)*size=k*size+size:=by rw [Nat.succ_mul]
  have e2:k+1+parts.length=k+(parts.length+1):=by omega
  have ih:=fill_elems size parts (k+1) (X.take (k*size)++v.cells.toList++X.drop (k*size+v.cells.toList.length)) (λj p hj=>by
   obtain ⟨g1,g2⟩:=h (j+1) p (by simpa using hj)
   exact ⟨by omega,g2⟩) (by rw [hlen,e2];simpa using hle)
  rw [Instr.fill];simp only [hc,Bool.false_eq_true,if_false];rw [hf',ih];simp only [List.length_cons,List.flatMap_cons,hvl];congr 2
  have t1:(X.take (k*size)++v.cells.toList++X.drop (k*size+size)).take ((k+1)*size)=X.take (k*size)++v.cells.toList:=by
   rw [List.take_append_of_le_length (by simp only [xe,xG,hvl];omega)];rw [List.take_of_length_le (by simp only [xe,xG,hvl];omega)]
  have t2:(X.take (k*size)++v.cells.toList++X.drop (k*size+size)).drop ((k+1+parts.length)*size)=X.drop ((k+(parts.length+1))*size):=by
   rw [e2];have hb:k*size+size<=(k+(parts.length+1))*size:=by rw [<- Nat.succ_mul];exact uf _ (by omega)
   rw [List.drop_append,List.drop_of_length_le (by simp only [xe,xG,hvl];omega),List.nil_append,List.drop_drop];congr 1;simp only [xe,xG,hvl];omega
  rw [t1,t2,lAs (X.take (k*size))]
theorem elemsAV_ok {N:NN} {H:Nat->Blk} {y:Ty}:∀ {ps:List (Nat×AV)} {vs:List (Nat×Value)} {k:Nat} {K:List y.den->Option α},
  (ps.length=vs.length/\∀ (j:Nat) (p:Nat×AV) (v:Nat×Value),ps[j]?=some p->vs[j]?=some v->p.1=v.1/\zA w N μ H p.2 v.2)->elemsAV y k ps K=some r ->
  ∃ l,K l=some r/\l.length=ps.length/\(∀ j p,vs[j]?=some p->p.1=k+j/\p.2.cells.size=y.size) /\
   ∀ i,(h:i<l.length)->RelD w N y l[i] (((vs.flatMap λp=>p.2.cells.toList).drop (i*y.size)).take y.size)
 | [],vs,k,K,hv,h=>by
  have:vs=[]:=by have:=hv.1;simp at this;exact List.length_eq_zero_iff.1 this.symm
  subst this;exact ⟨[],h,rfl,by simp,by simp⟩
 | (i,x)::ps,vs,k,K,hv,h=>by
  obtain ⟨hlen,hall⟩:=hv
  cases vs with
  | nil=>simp at hlen
  | cons p vs =>
   obtain ⟨i',v⟩:=p;obtain ⟨e1,e2⟩:=hall 0 (i,x) (i',v) rfl rfl;simp only at e1 e2;subst e1;simp only [elemsAV] at h;obtain ⟨hk,h1⟩:=zB h;have hk':i=k:=xi hk;subst hk';obtain ⟨ws,h2,hws⟩:=vJ e2 h1;obtain ⟨d,rest,es,us,h3,h4,h5,h6⟩:=uS hws h2
   cases rest with
   | cons _ _=>simp at h3
   | nil =>
    simp only [zC] at h6;subst h6;rw [List.append_nil] at h4;simp only at h3;obtain ⟨l,hK,hl,hidx,hrel⟩:=elemsAV_ok ⟨by simpa using hlen,λj p q hp hq=>hall (j+1) p q (by simpa using hp) (by simpa using hq)⟩ h3;have hsz:es.length=y.size:=h5.length;refine ⟨d::l,hK,by simp [hl],λj p hj=>?_,λj hj=>?_⟩
    ·cases j with
     | zero =>
      simp at hj;subst hj;exact ⟨rfl,by rw [<- hsz,<- h4];simp⟩
     | succ j =>
      obtain ⟨g1,g2⟩:=hidx j p (by simpa using hj);exact ⟨by omega,g2⟩
    ·cases j with
     | zero =>
      simp only [List.flatMap_cons,h4,Nat.zero_mul,List.drop_zero,List.getElem_cons_zero];rw [List.take_append_of_le_length (by omega),List.take_of_length_le (by omega)];exact h5
     | succ j =>
      simp only [List.flatMap_cons,h4,List.getElem_cons_succ]
      have:=hrel j (by simpa using hj)
      rw [Nat.succ_mul,Nat.add_comm,List.drop_append,List.drop_of_length_le (by omega),List.nil_append];rw [show y.size+j*y.size-es.length=j*y.size by omega];exact this
theorem rgm_size:∀ {t:Ty},z7 t=false->t.rgm.size=t.size:=λ{t}=>by
 induction t with
 | pair a b iha ihb =>
  intro hs;simp only [z7,Bool.or_eq_false_iff] at hs;simp only [Ty.rgm,Ty.size,iha hs.1,ihb hs.2]
 | _=>intro _;rfl
theorem bsTy_size (y:Ty) (vs:List AV):(bsTy y vs).size=y.size:=by
 unfold bsTy
 cases (vs.all λv=>(wE v λcs=>tH y cs λ_ _=>some ()).isSome) with
 | true=>rfl
 | false =>
  cases h:!z7 y&&vs.all λv=>(wE v λcs=>tH y.rgm cs λ_ _=>some ()).isSome with
  | false=>rfl
  | true =>
   simp only [yR,Bool.not_eq_true'] at h;exact rgm_size h.1
theorem eff_buildSlice (hp:Hp F μ S.H S.nx w) (hρ:∀ x,RelG w (Not F μ S.H) μ S.H ρ (ρA x) (ρ x)) {C:zW} {t:TypeId} {len:Nat} {parts:Array (Nat×Operand)} (h:evEff P C (.buildSlice t len parts) ρA S K=some r) :
  EffOK P F μ S w ρ (.buildSlice t len parts) K r:=by
 simp only [evEff] at h
 cases he:tE P t with
 | none=>simp [he] at h
 | some q =>
  obtain ⟨e,y0⟩:=q;simp only [he] at h;have hu:=sQ he;obtain ⟨h1,h2⟩:=zB h;simp only [yR] at h1;obtain ⟨⟨h3,h4⟩,h5⟩:=h1;have hlen:len=parts.size:=xi h3;have hb:len*y0.size<=16777216:=Nat.le_of_ble_eq_true h5;obtain ⟨i,hi,hsz⟩:=szOK_info h4;refine tv hp hρ h2 λS ρA hp hρ h2=>?_
  have hY:=bsTy_size y0 (parts.toList.map λx=>ρA x.2);generalize bsTy y0 (parts.toList.map λx=>ρA x.2)=y at h2 hY;rw [<- hY] at hb hsz;obtain ⟨i',z,cs,hi',hz,h6,_⟩:=tJ (w:=w) (μ:=μ) (N:=Not F μ S.H) (H:=S.H) h2;rw [hi] at hi';cases hi';obtain ⟨l,hK,hl,hidx,hrel⟩:=elemsAV_ok (parts_rel hρ parts.toList) h6;have hln:l.length=len:=by rw [hl,hlen];simp
  have hfl:=fill_elems y.size (parts.toList.map λ(i,x)=>(i,ρ x)) 0
  have hflen:∀ (vs:List (Nat×Value)),(∀ p∈vs,p.2.cells.size=y.size)->(vs.flatMap λp=>p.2.cells.toList).length=vs.length*y.size:=by
   intro vs;induction vs with
   | nil=>simp
   | cons p vs ih =>
    intro hh;have h0:=hh p (by simp);simp only [List.flatMap_cons,xe,List.length_cons,ih λq hq=>hh q (by simp [hq])];rw [Nat.succ_mul];simp [h0];omega
  have hfl2:=hflen (parts.toList.map λ(i,x)=>(i,ρ x)) (λp hpm=>by
   obtain ⟨j,hj⟩:=List.getElem?_of_mem hpm
   exact (hidx j p hj).2)
  have hpl:(parts.toList.map λ(i,x)=>(i,ρ x)).length=len:=by simp [hlen]
  rw [hpl] at hfl2;refine eff_data (e:=e) (fr:=(0,0)) (c:=len) (t:=y) (l:=l) (cs:=(parts.toList.map λ(i,x)=>(i,ρ x)).flatMap λp=>p.2.cells.toList) hp (Grew.alloc w _) (.inl rfl) (.inl rfl) (by omega) (by rw [hfl2]) hrel hK λo ho=>?_
  have hparts:(parts.map λ(x:Nat×Operand)=>match x with | (i,x)=>(i,ρ x)).toList=parts.toList.map λ(i,x)=>(i,ρ x):=by simp
  have hnb:¬ len*i.size>2^24:=by rw [hsz];omega
  simp only [execOp,ho,Instr.buildSlice,Sem.run_bind,run_underlying hu,Result.andThen_ok,yi hi,if_neg hnb,hparts,Sem.run_ite,Sem.run_pure];have hzr:∀ w',(zeroValue e).run P w'=.ok z w':=λw'=>by simp [zeroValue,typeInfo,hi,hz]
  have hfill:∀ (Z:Array Value),Instr.fill (λj=>some (j*i.size,i.size)) ((Array.range (len*i.size)).map (λx=>Z[x % Z.size]!)) (parts.toList.map λ(i,x)=>(i,ρ x)) =
    some ((parts.toList.map λ(i,x)=>(i,ρ x)).flatMap λp=>p.2.cells.toList).toArray:=by
   intro Z;have hX:=hfl (((Array.range (len*i.size)).map (λx=>Z[x % Z.size]!)).toList) (λj p hj=>by simpa using hidx j p hj) (by simp [hlen,hsz]);rw [hsz];rw [hsz] at hX;simp only [Array.toArray_toList,Nat.zero_mul,List.take_zero,List.nil_append,Nat.zero_add,hpl] at hX;rw [hX];congr 2;rw [List.drop_of_length_le (by simp),List.append_nil]
  split
  ·simp only [hfill];simp [newRow,hln]
  ·simp only [hzr,Result.andThen_ok,hfill];simp [newRow,hln]
end
end Go.Ev
namespace Go.Ev
open Go
section
variable {P:Program} {T:Tb} {F:Frm T} {μ:Nat->Option Nat} {S:St} {w:World} {α:Type} {r:α} {ρ:Operand->Value} {ρA:Operand->AV} {K:AV->St->Option α}
theorem made_row (z:Array Value) (c i:Nat) (hi:i<c):((madeCells z (c*z.size)).toList.drop (i*z.size)).take z.size=z.toList:=by
 have hle:i*z.size+z.size<=c*z.size:=by rw [<- Nat.succ_mul];exact uf _ hi
 apply List.ext_getElem
 ·simp [size_madeCells];omega
 ·intro k h1 h2;simp only [xG,sG,Array.length_toList] at h1 h2;simp only [List.getElem_take,List.getElem_drop,Array.getElem_toList];have hk:k<z.size:=by omega
  simp only [madeCells,Array.getElem_map,Array.getElem_range];have:(i*z.size+k) % z.size=k:=by rw [Nat.mul_comm,Nat.mul_add_mod,Nat.mod_eq_of_lt hk]
  rw [this,getElem!_pos z k hk]
theorem eff_makeSlice (hp:Hp F μ S.H S.nx w) (hρ:∀ x,RelG w (Not F μ S.H) μ S.H ρ (ρA x) (ρ x)) {C:zW} {t:TypeId} {n c:Operand} (h:evEff P C (.makeSlice t n c) ρA S K=some r) :
  EffOK P F μ S w ρ (.makeSlice t n c) K r:=by
 simp only [evEff] at h
 cases he:tE P t with
 | none=>simp [he] at h
 | some q =>
  obtain ⟨e,y⟩:=q;simp only [he] at h;have hu:=sQ he;obtain ⟨h1,h2⟩:=zB h;simp only [yR] at h1;obtain ⟨kn,vn,hn,h3⟩:=xo (hρ n).rel h2;obtain ⟨kc,vc,hc,h4⟩:=xo (hρ c).rel h3;obtain ⟨i,z,cs,hi,hz,h5,hr⟩:=tJ (w:=w) (μ:=μ) (N:=Not F μ S.H) (H:=S.H) h4;obtain ⟨d,rest,es,us,h6,h7,h8,h9⟩:=uS hr h5
  cases rest with
  | cons _ _=>simp at h6
  | nil =>
   simp only [zC] at h9;subst h9;rw [List.append_nil] at h7;simp only [need] at h6;obtain ⟨h10,hK⟩:=zB h6;simp only [yR,xX,zH] at h10;obtain ⟨⟨g1,g2⟩,g3⟩:=h10;obtain ⟨i',hi',hsz⟩:=szOK_info h1.1;rw [hi] at hi';cases hi';have hby:P.bytesOf e=i.bytes:=by simp [Program.bytesOf,hi]
   rw [hby] at g3;have h1b:1<=i.bytes:=by have:=Nat.le_of_ble_eq_true h1.2;rwa [hby] at this
   have hc63:vc.toNat<=140737488355328:=Nat.le_trans (Nat.le_mul_of_pos_right _ h1b) g3;have hzs:z.cells.size=y.size:=by have:=h8.length;rw [<- h7] at this;simpa using this
   have hrun:=run_make (P:=P) w t e i z hu hi hz kn kc vn vc g1 g2 (by
    have:(vc.toNat*i.bytes:Nat)<=140737488355328:=g3
    have e1:(i.bytes:Int)*vc=((vc.toNat*i.bytes:Nat):Int):=by
     rw [Int.natCast_mul,Int.toNat_of_nonneg (by omega),Int.mul_comm]
    rw [e1];omega) (by omega)
   have hlen:(List.replicate vn.toNat d).length=vn.toNat:=by simp
   refine eff_data (e:=e) (fr:=(0,0)) (c:=vc.toNat) (t:=y) (l:=List.replicate vn.toNat d) (cs:=(madeCells z.cells (vc.toNat*i.size)).toList) hp
    (by simpa using Grew.alloc w (.cells (madeCells z.cells (vc.toNat*i.size)) e)) (.inl rfl) (.inl rfl) (by rw [hlen];omega) (by simp [size_madeCells,hsz]) (λk hk=>?_) hK λo ho=>?_
   ·rw [hlen] at hk;rw [hsz,<- hzs,made_row _ _ _ (by omega),List.getElem_replicate,h7];exact h8
   ·simp [execOp,ho,hn,hc,hrun]
structure Marked (w w':World) (g:Nat):Prop where
 heap:∀ k,k≠g->w'.heap[k]?=w.heap[k]?
 size:w'.heap.size=w.heap.size
 os:w'.os=w.os
 tape:w'.tape=w.tape
 output:w'.output=w.output
 cell:∀ k,w'.cell? ⟨g,k,none⟩=w.cell? ⟨g,k,none⟩
 froz:Wfm w g->∀ n,room w g n->∀ k,k<n->w'.frozen? ⟨g,k,none⟩=false
theorem run_mark {g o:Nat} (h:(w.cell? ⟨g,0,none⟩).isSome=true):∃ w',(markStringish ⟨g,o,none⟩).run P w=.ok () w'/\Marked w w' g:=by
 obtain ⟨cs,e,lo,hi,hg⟩:∃ cs e lo hi,w.heap[g]?=some (.cells cs e (lo,hi)):=by
  unfold World.cell? at h;simp only at h;split at h
  ·rename_i c e fr hh;exact ⟨c,e,fr.1,fr.2,hh⟩
  ·cases h
 have hsh:w.shape? g=some (e,cs.size):=by unfold World.shape?; rw [hg]
 refine ⟨w.freeze ⟨g,cs.size,none⟩ 1,?_,?_⟩
 ·simp only [markStringish,Sem.run_bind,run_shape,Result.andThen_ok,hsh,run_freeze]
 ·have hself:(w.freeze ⟨g,cs.size,none⟩ 1).heap[g]?=some (.cells cs e (if (lo == hi)=true then (cs.size,cs.size+1) else (min lo cs.size,max hi (cs.size+1)))):=by
   unfold World.freeze;rw [if_neg (by decide)];simp only [Array.getElem?_modify,if_pos,hg,Option.map_some]
  refine ⟨λk hk=>?_,?_,?_,?_,?_,λk=>?_,λhwf n hr k hk=>?_⟩
  rotate_right
  ·have hwf:=hwf _ _ _ hg;simp only at hwf;obtain ⟨r1,r2⟩:=hr k hk
   have r3:k<cs.size:=by
    simp only [World.cell?,hg] at r1;simpa using r1
   have r4:=(hr k hk).2;simp only [World.frozen?,hg] at r4;have r5:¬ (lo<=k/\k<hi):=by simpa using r4
   simp only [World.frozen?,hself];by_cases hlh:lo=hi
   ·subst hlh;simp;omega
   ·rw [if_neg (by simpa using hlh)];have h0:lo<hi:=by omega
    have r6:n<=lo:=by
     apply Nat.le_of_not_lt;intro hlo
     have:=(hr lo hlo).2
     simp only [World.frozen?,hg] at this;simp at this;omega
    simp;omega
  ·unfold World.freeze;rw [if_neg (by decide)];simp only [Array.getElem?_modify];rw [if_neg (λh=>hk h.symm)]
  ·unfold World.freeze;rw [if_neg (by decide)];simp
  ·unfold World.freeze;rw [if_neg (by decide)]
  ·unfold World.freeze;rw [if_neg (by decide)]
  ·unfold World.freeze;rw [if_neg (by decide)]
  ·simp only [World.cell?,hself,hg]
theorem eff_mark (hp:Hp F μ S.H S.nx w) (hρ:∀ x,RelG w (Not F μ S.H) μ S.H ρ (ρA x) (ρ x)) {src dst e e':TypeId} {x:Operand} {b:Nat} {l:List UInt8} (hs:P.underlying src=some (.slice e')) (hd:P.underlying dst=some (.slice e)) (he:P.underlying e=some (.int .u8))
    (hv:ρA x=.wh b) (hb:S.H b=.data .u8 l) (hsd:src=dst) (hne:l≠[]) (hK:K (.sl .u8 l) (S.seal [b])=some r):EffOK P F μ S w ρ (.convert src dst x) K r:=by
  have hx:=(hρ x).rel;rw [hv] at hx;simp only [zA] at hx;obtain ⟨t,l',hB,hx⟩:=hx;rw [hb] at hB
  cases hB;rcases hx with ⟨g,c,hm,hvv,hc,hroom⟩ | ⟨_,hl0,_⟩
  . have hlive:S.H b≠.dead:=by rw [hb];simp
    have hpos:0<l.length:=List.length_pos_iff.2 hne;have hc0:(w.cell? ⟨g,0,none⟩).isSome=true:=(hroom 0 (by simp [Ty.size];omega)).1;obtain ⟨w',hrun,hM⟩:=run_mark (P:=P) (o:=0) hc0
    have hother:∀ b' g',b'≠b->S.H b'≠.dead->μ b'=some g'->w'.heap[g']?=w.heap[g']?:=λb' g' hbb hl' hm' =>
      hM.heap g' λh=>hbb (hp.inj b' b g' hl' hlive hm' (by rw [h];exact hm))
    have hkeep:Keep (Not F μ S.H).trk w w':=⟨Nat.le_of_eq hM.size.symm,λg' _ hn=>hM.heap g' λh=>hn (.inr ⟨b,hlive,by rw [h];exact hm⟩)⟩
    have hcompat:∀ b',zS [b] b'=false->S.H b'≠.dead->ua w w' μ μ S.H (S.seal [b]).H b':=λb' hk hl'=>by
      have hbb:b'∉[b]:=λh=>by rw [zc.2 h] at hk;cases hk
      have hbne:b'≠b:=λh=>hbb (by simp [h])
      refine ⟨rfl,?_⟩;rw [wi hbb]
      cases hB:S.H b' with
      | dead=>trivial
      | data t l=>exact ⟨⟨l,by rw [sK],rfl⟩,λg' n hm' hr=>yI (hother b' g' hbne hl' hm') hr⟩
      | vars cs=>rw [sH];simp
      | iter s p=>rw [sJ];simp
      | mapd kt vt ag l=>rw [sI];simp
    have hsub:Sub w (Not F μ (S.seal [b]).H) (Not F μ S.H):=yG
    have hp':Hp F μ (S.seal [b]).H S.nx w':={
      blk:=λb'=>by
        by_cases hbb:b'∈[b]
        . rw [tw hbb];simp [za]
        . have hbne:b'≠b:=λh=>hbb (by simp [h])
          rw [wi hbb];have hB:=hp.blk b'
          cases hv:S.H b' with
          | dead=>rw [xg];simp [za]
          | vars cs =>
            rw [sH];simp only [hv,za] at hB ⊢;rcases hB with hB | ⟨g',vs,h1,h2,h3,h4⟩
            . exact .inl hB
            have hh:=hother b' g' hbne (by rw [hv];simp) h1;exact .inr ⟨g',vs,h1,ta hkeep hsub hcompat _ _ h2,ze hh h3,yI hh h4⟩
          | data t l =>
            rw [sK];simp only [hv,za] at hB ⊢;rcases hB with hB | ⟨g',h1,h2,h3⟩
            . exact .inl hB
            . have hh:=hother b' g' hbne (by rw [hv];simp) h1;refine .inr ⟨g',h1,yI hh h2,λi hi=>?_⟩;obtain ⟨es,e1,e2,e3⟩:=h3 i hi;exact ⟨es,e1,ze hh e2,e3.keep hkeep hsub⟩
          | iter s p =>
            rw [sJ];simp only [hv,za] at hB ⊢;obtain ⟨g',h1,h2⟩:=hB;exact ⟨g',h1,by rw [hother b' g' hbne (by rw [hv];simp) h1];exact h2⟩
          | mapd kt vt ag l =>
            rw [sI];simp only [hv,za] at hB ⊢;rcases hB with hB | ⟨g',es,c,h1,h2,h3,h4⟩
            . exact .inl hB
            exact .inr ⟨g',es,c,h1,by rw [hother b' g' hbne (by rw [hv];simp) h1];exact h2,h3,h4.keep hkeep hsub⟩
      lt:=λb' g' hl hg=>by rw [hM.size];exact hp.lt b' g' (yp hl).1 hg
      inj:=(seal_hp (ks:=[b]) hp).inj
      dead:=(seal_hp (ks:=[b]) hp).dead
      apart:=(seal_hp (ks:=[b]) hp).apart
      flt:=λg' hF=>by rw [hM.size];exact hp.flt g' hF
      tab:=T.stays w w' (λg' hg=>hM.heap g' λh=>hp.tapart b g' hlive (by rw [h];exact hm) hg) hp.tab
      tapart:=(seal_hp (ks:=[b]) hp).tapart
      mark:=λb' g' hl hg=>by
        by_cases hbb:b'∈[b]
        . rw [tw hbb] at hl;cases hl
        . rw [wi hbb,unm_kb] at hl;exact (hp.mark b' g' hl hg).of_heap (hother b' g' (λh=>hbb (by simp [h])) (λh=>by (rw [h] at hl;cases hl)) hg)
      wfm:=λb' g' hl hg=>by
        obtain ⟨h1,h2⟩:=yp hl
        exact (hp.wfm b' g' h1 hg).of_heap (hother b' g' (λh=>h2 (by simp [h])) h1 hg) }
    refine ⟨_,_,μ,w',[b],hK,rfl,rfl,hp',?_,.slice (some ⟨g,0,none⟩) l.length c,λo ho=>.inl ?_,?_,λh=>by rw [hs] at h;cases h⟩
    . exact {
        chg:=⟨⟨Nat.le_of_eq hM.size.symm,λg' _ hn=>hM.heap g' λh=>hn ⟨b,hlive,by rw [h];exact hm⟩⟩,hM.os,hM.tape,hM.output⟩
        new:=(seal_pl (F:=F) (w:=w) (ks:=[b])).new
        mono:=Nat.le_refl _
        tr:=λx v hx=>RelV_kv hkeep hsub hcompat x v hx
        pin:=(seal_pl (F:=F) (w:=w) (ks:=[b])).pin }
    . subst hsd;have hee:e'=e:=by rw [hs] at hd;cases hd;rfl
      subst hee;simp only [execOp,ho,convert,Sem.run_bind,run_underlying hs,Result.andThen_ok,hvv,beq_self_eq_true,run_underlying he];simp only [hrun,Result.andThen_ok,Sem.run_pure]
    . simp only [zA,RelD];have hrow:=hp.blk b;simp only [hb,za] at hrow;rcases hrow with ⟨_,h0⟩ | ⟨g',hm',_,hrows⟩
      . exact absurd h0 hne
      . rw [hm] at hm'
        cases hm';refine ⟨some ⟨g,0,none⟩,c,rfl,hc,λ_=>⟨g,0,rfl,λhN=>?_,?_,λ_ k hk=>by rw [Nat.zero_add];exact hM.froz (hp.wfm b g hlive hm) _ hroom k (Nat.lt_of_lt_of_le hk (uf _ hc)),λi hi=>?_⟩⟩
        . rcases hN with hF | ⟨b',hl',hm'⟩
          . exact hp.apart b g hlive hm hF
          . obtain ⟨h1,h2⟩:=yp hl'
            have:=hp.inj b b' g hlive h1 hm hm'
            subst this;exact h2 (by simp)
        . rw [hM.size];exact hp.lt b g hlive hm
        . obtain ⟨es,e1,e2,e3⟩:=hrows i hi;refine ⟨es,e1,λk hk=>?_,?_⟩
          . rw [hM.cell,Nat.zero_add];exact e2 k hk
          . simp only [RelD] at e3 ⊢; exact e3
  . exact absurd hl0 hne
theorem eff_toBytes (hp:Hp F μ S.H S.nx w) (hρ:∀ x,RelG w (Not F μ S.H) μ S.H ρ (ρA x) (ρ x)) {C:zW} {src dst:TypeId} {x:Operand} (h:evEff P C (.convert src dst x) ρA S K=some r) :
  EffOK P F μ S w ρ (.convert src dst x) K r:=by
 simp only [evEff] at h;split at h
 ·rename_i e l hs hd hv
  cases he:P.underlying e with
  | none=>simp [he] at h
  | some d =>
   simp only [he] at h;split at h
   ·rename_i heq
    cases heq;have hx:=(hρ x).rel;rw [hv] at hx;simp only [zA] at hx;have hsz:(⟨l.toArray⟩:ByteArray).size=l.length:=by simp [ByteArray.size]
    let cap:=(Question.appendCap l.length 0 e).cut (w.tape w.drawn (.appendCap l.length 0 e));have hcap:l.length<=cap:=by simp only [cap,Question.cut];omega
    let cs:List Value:=l.map (λb=>Value.int .u8 (b.toNat:Int))++List.replicate (cap-l.length) (.int .u8 0);have hcl:cs.length=cap:=by simp [cs];omega
    let w':World:=w.drew.alloc (.cells cs.toArray e (cap,cap+1));have hK:K (.wh S.nx) ⟨S.E,zp S.H S.nx (.data .u8 l),S.nx+1,S.kl⟩=some r:=h;refine eff_data (e:=e) (fr:=(cap,cap+1)) (c:=cap) (t:=.u8) (l:=l) (cs:=cs) (w':=w') hp (Grew.drew w _) (.inr rfl) (.inr ⟨by rw [hcl];exact Nat.le_refl _,Nat.le_succ _⟩) hcap (by simp [Ty.size,hcl]) (λi hi=>?_) hK λo ho=>?_
    ·simp only [Ty.size,Nat.mul_one,RelD,cs];rw [List.drop_append_of_le_length (by simp<;>omega),List.take_append_of_le_length (by simp<;>omega),<- List.map_drop,<- List.map_take];have hdr:(l.drop i).take 1=[l[i]]:=by rw [List.drop_eq_getElem_cons hi];rfl
     rw [hdr];rfl
    ·have e1:((⟨l.toArray⟩:ByteArray).data.map (λb:UInt8=>Value.int .u8 (b.toNat:Int))++Array.replicate (cap-l.length) (Value.int .u8 0))=cs.toArray:=by
      apply Array.ext';simp [cs]
     have hst:(Conv.stringToBytes e ⟨l.toArray⟩).run P w=.ok (.slice (some ⟨w.heap.size,0,none⟩) l.length cap) w':=by
      simp only [Conv.stringToBytes,Sem.run_bind,run_choose,Question.forced,Bool.false_eq_true,if_false,Result.andThen_ok,hsz,newRow,run_newObj,Sem.run_pure];have e2:(Question.appendCap l.length 0 e).cut (w.tape w.drawn (.appendCap l.length 0 e))=cap:=rfl;rw [e2,e1];simp only [markStringish,Sem.run_bind,run_shape,Result.andThen_ok]
      have hsh:World.shape? { heap:=w.heap.push (.cells cs.toArray e),tape:=w.tape,drawn:=w.drawn+1,os:=w.os,output:=w.output } w.heap.size=some (e,cap):=by
       simp [World.shape?,hcl]
      rw [hsh];simp only [run_freeze,World.freeze,Result.andThen_ok];simp only [w',World.alloc,World.drew];congr 1;simp only [Nat.succ_ne_self,if_false,World.mk.injEq,and_true];apply Array.ext
      ·simp
      ·intro k hk1 hk2;simp only [Array.getElem_modify,Array.getElem_push];by_cases hk:k=w.heap.size
       ·subst hk;simp
       ·have:k<w.heap.size:=by simp at hk2;omega
        simp [this];intro hh;omega
     simp [execOp,ho,convert,run_underlying hs,run_underlying hd,hx,run_underlying he,hst]
   ·cases h
 ·rename_i e' e b hs hd hv
  cases he:P.underlying e with
  | none=>simp [he] at h
  | some d =>
   simp only [he] at h;split at h
   ·rename_i heq
    cases heq;split at h
    ·rename_i l hb;simp only [need] at h;obtain ⟨h1,hK⟩:=zB h;simp only [yR,beq_iff_eq,Bool.not_eq_true',List.isEmpty_eq_false_iff] at h1;exact eff_mark hp hρ hs hd he hv hb h1.1 h1.2 hK
    ·cases h
   ·cases h
 ·cases h
theorem eff_next (hp:Hp F μ S.H S.nx w) (hρ:∀ x,RelG w (Not F μ S.H) μ S.H ρ (ρA x) (ρ x)) {C:zW} {x:Operand} {str:Bool} (h:evEff P C (.next x str) ρA S K=some r) :
    EffOK P F μ S w ρ (.next x str) K r:=by
  cases str with
  | false=>simp [evEff] at h
  | true =>
    simp only [evEff] at h;have hx:=(hρ x).rel;split at h
    . rename_i b hv;rw [hv] at hx;simp only [zA] at hx;obtain ⟨hl,g,hg,hxv⟩:=hx;have hB:=hp.blk b
      cases hb:S.H b <;> simp only [hb,reduceCtorEq] at h;rename_i l pos;simp only [hb,za] at hB;obtain ⟨g',hg',hobj⟩:=hB;rw [hg] at hg';cases hg';have hget:(getObj g).run P w=.ok (.stringIter ⟨l.toArray⟩ pos) w:=by simp [getObj,Sem.run,hobj]
      have hsz:(⟨l.toArray⟩:ByteArray).size=l.length:=by simp [ByteArray.size]
      by_cases hlt:pos<l.length
      . simp only [hlt,zd,zI] at h;let c:=(Utf8.decode ⟨l.toArray⟩ pos).1;let wd:=(Utf8.decode ⟨l.toArray⟩ pos).2;let w':World:={ w with heap:=w.heap.setIfInBounds g (.stringIter ⟨l.toArray⟩ (pos+wd)) };have hgl:g<w.heap.size:=hp.lt b g hl hg
        have T:Turned F μ S.H S.nx w [] b (some g) (.iter l (pos+wd)) S.nx w' :=
          { hp:=hp,os:=rfl,tape:=rfl,output:=rfl,size:=by simp [w'],live:=by simp,mono:=Nat.le_refl _
            keep:=λk hk hne=>by
              have:g≠k:=λe=>hne hl (by rw [hg,e])
              simp [w',this]
            at_:=λk hk=>by cases hk;exact .inl ⟨hl,hg⟩
            lt:=by
              rcases Nat.lt_or_ge b S.nx with h | h
              . exact h
              . exact absurd (hp.dead b h) hl
            kind:=λ_=>Pin.zero rfl
            mark:=λh=>by cases h
            wfm:=λg' hg' c e m hc=>by cases hg';simp [w',hgl] at hc
            self:=λ_ _=>⟨by rw [zN,hg],by simp [hb,zf]⟩ }
        have hp':=T.hp' (by simp only [za];exact ⟨g,zN _ _ _,by simp [w',hgl]⟩);have hM:xD μ b (some g)=μ:=by funext t;unfold xD;split <;> simp_all
        refine ⟨_,_,xD μ b (some g),w',[],h,rfl,by simp,hp',T.pl,.tuple #[.bool true,.int .i64 (pos:Int),.int .i32 (c:Int)],λo ho=>.inl ?_,?_⟩
        . have hset:(setObj g (.stringIter ⟨l.toArray⟩ (pos+wd))).run P w=.ok () w':=by simp [setObj,Sem.run,hobj,w']
          simp [execOp,ho,Instr.next,hxv,hget,hsz,hlt,hset,c,wd,goInt]
        . simp only [zA,zC];exact ⟨⟨_,rfl,_,_,rfl,rfl,_,_,rfl,rfl,_,_,rfl,rfl,rfl⟩,trivial⟩
      . simp only [hlt,xA,zK] at h;refine ⟨_,_,μ,w,[],h,rfl,by simp,hp,Pl.keep hp (Chg.refl w),.tuple #[.bool false],λo ho=>.inl ?_,?_⟩
        . simp [execOp,ho,Instr.next,hxv,hget,hsz,hlt]
        . simp only [zA,zC];exact ⟨⟨_,rfl,_,_,rfl,rfl,rfl⟩,trivial⟩
    . cases h
theorem eff_storeAV (hp:Hp F μ S.H S.nx w) (hρ:∀ x,RelG w (Not F μ S.H) μ S.H ρ (ρA x) (ρ x)) {t:TypeId} {a x:Operand} (h:storeAV P t (ρA a) (ρA x) S (K .bad)=some r) :
  EffOK P F μ S w ρ (.store t a x) K r:=by
 simp only [storeAV] at h;obtain ⟨vs,h1,hvs⟩:=vJ (hρ x).rel h;obtain ⟨h2,h3⟩:=zB h1;simp only [yR] at h2;obtain ⟨⟨hi,hn⟩,hok⟩:=h2;have hn':vs.length=P.cellsOf t:=xi hn;have hvl:=yU hvs;have hone:=vX hvs hok;have ha:=(hρ a).rel
 have fin:∀ {b g o:Nat} {B:Blk},S.H b≠.dead->μ b=some g->ρ a=.pointer (some ⟨g,o,none⟩) ->
   (∀ k,k<(ρ x).cells.toList.length->(w.cell? ⟨g,o+k,none⟩).isSome=true/\w.frozen? ⟨g,o+k,none⟩=false)->B≠.dead ->
   uT (S.H b) B ->
   (∀ w',SetMany w w' g o (ρ x).cells.toList->Turned F μ S.H S.nx w [] b (some g) B S.nx w'->za w' (Not F (xD μ b (some g)) (zp S.H b B)) (xD μ b (some g)) (zp S.H b B) b B) ->
   K .bad ⟨S.E,zp S.H b B,S.nx,S.kl⟩=some r->EffOK P F μ S w ρ (.store t a x) K r:=by
  intro b g o B hl hg hav hroom hB hkind hrel hK;obtain ⟨w',hrun,hS⟩:=run_storeAt (P:=P) hi (by rw [hvl,hn']) hone hroom;have T:=Turned.store hp hl hg hS hB hkind;refine ⟨_,_,xD μ b (some g),w',[],hK,rfl,by simp,T.hp' (hrel w' hS T),T.pl,undef,λop hop=>.inr ⟨?_,rfl⟩,by simp [zA],λX hX=>⟨Nat.le_of_eq hS.size.symm,λk _ hk=>hS.heap k λe=>hk (e ▸ hX g o hav)⟩⟩;rw [<- hav] at hrun;simp [execOp,hop,hrun]
 cases hav:ρA a <;> simp only [hav,reduceCtorEq] at h3 ha
 case ptr b o =>
  simp only [zA] at ha;obtain ⟨hl,g,hg,hae⟩:=ha
  cases hb:S.H b <;> simp only [hb,reduceCtorEq] at h3;rename_i cs;obtain ⟨hle,hK⟩:=zB h3;have hle':o+vs.length<=cs.length:=Nat.le_of_ble_eq_true hle;have hB:=hp.blk b;simp only [hb,za] at hB;rcases hB with hB | ⟨g',us,hg',hr,hrow,hroom⟩
  ·rw [hg] at hB;cases hB
  rw [hg] at hg';cases hg';have hul:=yU hr;refine fin hl hg hae (λk hk=>hroom _ (by omega)) (by simp) (by simp [hb,uT]) (λw' hS T=>?_) hK;simp only [za];refine .inr ⟨g,us.take o++(ρ x).cells.toList++us.drop (o+(ρ x).cells.toList.length),zN _ _ _,?_,?_,?_⟩
  ·have:=T.trs _ _ (splice_ok (o:=o) hr hvs)
   exact this
  ·have hS':SetMany w w' g (0+o) (ρ x).cells.toList:=by simpa using hS
   exact hS'.splice hrow (by omega)
  ·have:(us.take o++(ρ x).cells.toList++us.drop (o+(ρ x).cells.toList.length)).length=us.length:=by
    simp only [xe,xG,sG];omega
   rw [this];exact hS.room hroom
 case ep b y ix f =>
  simp only [zA] at ha;obtain ⟨l,g,hb,hix,hg,hae⟩:=ha;simp only [hb,zd,zI] at h3;obtain ⟨hle,h4⟩:=zB h3;have hle':f+vs.length<=y.size:=Nat.le_of_ble_eq_true hle;have hgd:l.getD ix y.dflt=l[ix]:=by simp [List.getD,List.getElem?_eq_getElem hix]
  rw [hgd] at h4;have hB:=hp.blk b;simp only [hb,za] at hB;rcases hB with ⟨_,rfl⟩ | ⟨g',hg',hroom,hrows⟩
  ·simp at hix
  rw [hg] at hg';cases hg';obtain ⟨es,e1,e2,e3⟩:=hrows ix hix;obtain ⟨d,rest,es',us,h5,h6,h7,h8⟩:=uS (splice_ok (o:=f) (ya e3) hvs) h4
  cases rest with
  | cons _ _=>simp at h5
  | nil =>
   simp only [zC] at h8;subst h8;rw [List.append_nil] at h6;have hmul:ix*y.size+y.size<=l.length*y.size:=by rw [<- Nat.succ_mul];exact uf _ hix
   refine fin (by simp [hb]) hg hae (λk hk=>hroom _ (by omega)) (by simp) (by simp [hb,uT]) (λw' hS T=>?_) h5;simp only [za];refine .inr ⟨g,zN _ _ _,by rw [List.length_set];exact hS.room hroom,λi hi=>?_⟩;rw [List.length_set] at hi;by_cases hii:i=ix
   ·subst hii;refine ⟨es',h7.length,?_,?_⟩
    ·rw [<- h6];exact hS.splice e2 (by omega)
    ·rw [List.getElem_set_self];exact h7.keep T.keepN T.notN
   ·obtain ⟨ds,d1,d2,d3⟩:=hrows i hi;refine ⟨ds,d1,hS.row d2 ?_,?_⟩
    ·rw [d1];rcases Nat.lt_or_ge i ix with hlt | hge
     ·left;have:(i+1)*y.size<=ix*y.size:=uf _ hlt;rw [Nat.succ_mul] at this;omega
     ·right;have:(ix+1)*y.size<=i*y.size:=uf _ (by omega);rw [Nat.succ_mul] at this;omega
    ·rw [List.getElem_set_ne (by omega)];exact d3.keep T.keepN T.notN
theorem eff_store (hp:Hp F μ S.H S.nx w) (hρ:∀ x,RelG w (Not F μ S.H) μ S.H ρ (ρA x) (ρ x)) {C:zW} {t:TypeId} {a x:Operand} (h:evEff P C (.store t a x) ρA S K=some r) :
  EffOK P F μ S w ρ (.store t a x) K r:=by
 simp only [evEff] at h;split at h
 ·exact tv hp hρ h λS ρA hp hρ h=>eff_storeAV hp hρ h
 ·exact eff_storeAV hp hρ h
end
end Go.Ev
