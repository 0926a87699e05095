/- Texts that the last one leans on, 9. -/
import Derived.Test.YtijhleakepbahaaGreatDoorZH
import Derived.Lib.IndexBytes
namespace Go.Qh
open Go Go.Ev Go.Qy
set_option maxRecDepth 100000
def bl (c:UInt8):Bool:=decide (c=32)||decide (c=9)
theorem bl_contains (c:UInt8):([32,9]:List UInt8).contains c=bl c:=by
 by_cases h1:c=32
 ·subst h1;rfl
 ·by_cases h2:c=9
  ·subst h2;rfl
  ·simp [bl,h1,h2]
def rtr:List UInt8->List UInt8
 | []=>[]
 | a::t=>if rtr t=[]/\bl a=true then [] else a::rtr t
theorem rtr_snoc:∀ (l:List UInt8) (a:UInt8),rtr (l++[a])=if bl a=true then rtr l else l++[a]
 | [],a=>by
  by_cases h:bl a=true <;> simp [rtr,h]
 | b::l,a=>by
  simp only [List.cons_append,rtr,rtr_snoc l a]
  by_cases h:bl a=true
  ·simp [h]
  ·simp [h]
theorem rtr_eq (l:List UInt8):Go.Lib.trimRightS l [32,9]=rtr l:=by
 unfold Go.Lib.trimRightS
 have:∀ r:List UInt8,(r.dropWhile (λx=>([32,9]:List UInt8).contains x)).reverse=rtr r.reverse:=by
  intro r
  induction r with
  | nil=>rfl
  | cons a t ih =>
   rw [List.reverse_cons,rtr_snoc,List.dropWhile_cons]
   simp only [bl_contains] at *
   by_cases h:bl a=true
   ·rw [if_pos h,if_pos h];exact ih
   ·rw [if_neg h,if_neg h];simp
 have:=this l.reverse
 rw [List.reverse_reverse] at this
 exact this
def ltr (l:List UInt8):List UInt8:=l.dropWhile bl
theorem ltr_eq (l:List UInt8):Go.Lib.trimLeftS l [32,9]=ltr l:=by
 unfold Go.Lib.trimLeftS ltr
 congr 1
 funext x
 exact bl_contains x
theorem trims_swap:∀ l:List UInt8,ltr (rtr l)=rtr (ltr l)
 | []=>rfl
 | a::t=>by
  have ih:=trims_swap t
  by_cases h:bl a=true
  ·have e:ltr (a::t)=ltr t:=by simp [ltr,h]
   rw [e]
   by_cases h0:rtr t=[]
   ·rw [<- ih,h0]
    simp [rtr,h0,h]
   ·have:rtr (a::t)=a::rtr t:=by simp [rtr,h0]
    rw [this,<- ih]
    simp [ltr,h]
  ·have e:ltr (a::t)=a::t:=by simp [ltr,h]
   have:rtr (a::t)=a::rtr t:=by simp [rtr,h]
   rw [e,this]
   simp [ltr,h]
def trm (l:List UInt8):List UInt8:=rtr (ltr l)
theorem trimS_eq (l:List UInt8):Go.Lib.trimS l [32,9]=trm l:=by
 unfold Go.Lib.trimS
 rw [rtr_eq,ltr_eq,trims_swap]
 rfl
theorem F90_eq (s:List UInt8) (hs:s.length<=9223372036854775807):F90 ((s,()),())=some (trm s,()):=by
 simp only [F90,hs,dTr,bAs,cTt,trimS_eq]
theorem F93_eq (c:UInt8):F93 ((c,()),())=some (bl c,()):=by
 simp only [F93,bl]
theorem F54_eq (c:UInt8):F54 ((c,()),())=some (bl c,()):=by
 simp only [F54,bl]
theorem L32a_eq:∀ (s:List UInt8) (k:Nat),s.length<k->iter B95_0 k ((s,()),())=some ((ltr s,()),())
 | _,0,h=>absurd h (Nat.not_lt_zero _)
 | [],k+1,_=>rfl
 | a::t,k+1,h=>by
  have c1:decide ((0:Int)<(((a::t).length:Nat):Int))=true:=by rw [dTe,List.length_cons];omega
  have c2:decide ((1:Int)<=(((a::t).length:Nat):Int))=true:=by rw [dTe,List.length_cons];omega
  have hg:(a::t).getD 0 0=a:=rfl
  simp only [iter,B95_0,c1,Bool.true_or,cTt,hg,F93_eq,oBs]
  by_cases hb:bl a=true
  ·have ht:List.take (Int.toNat (((a::t).length:Nat):Int)-1) (List.drop 1 (a::t))=t:=by
    rw [nCt];simp
   have e:ltr (a::t)=ltr t:=by simp [ltr,hb]
   simp only [hb,cTt,c2,Int.le_refl,dTr,bAs,oBs,ht,e]
   exact L32a_eq t k (by simp only [List.length_cons] at h;omega)
  ·have e:ltr (a::t)=a::t:=by simp [ltr,hb]
   rw [Bool.not_eq_true] at hb
   simp only [hb,cFf,e]
theorem L32b_eq:∀ (k:Nat) (s:List UInt8),s.length<=1100000->s.length<k->iter B95_1 k ((s,()),())=some ((rtr s,()),())
 | 0,_,_,h=>absurd h (Nat.not_lt_zero _)
 | k+1,s,hs,h=>by
  rcases List.eq_nil_or_concat s with rfl | ⟨l,a,rfl⟩
  ·rfl
  ·rw [List.concat_eq_append] at *
   have hlen:(l++[a]).length=l.length+1:=by simp
   have hw:w64 ((((l++[a]).length:Nat):Int)-1)=(l.length:Int):=by
    rw [hlen] at hs ⊢
    rw [w64_id (by omega) (by omega)];omega
   have c1:decide ((0:Int)<(((l++[a]).length:Nat):Int))=true:=by rw [dTe,hlen];omega
   have c2:l.length<(l++[a]).length:=by omega
   have c3:decide ((l.length:Int)<=(((l++[a]).length:Nat):Int))=true:=by rw [dTe,hlen];omega
   have hg:(l++[a]).getD l.length 0=a:=by
    rw [List.getD_eq_getElem?_getD,List.getElem?_append_right (Nat.le_refl _)];simp
   simp only [iter,B95_1,hw,c1,nat_nn,nat_lt,c2,dTr,bAs,Bool.true_or,cTt,nCt,hg,F93_eq,oBs,rtr_snoc]
   by_cases hb:bl a=true
   ·have ht:List.take l.length (l++[a])=l:=by simp
    simp only [hb,cTt,c3,bAs,oBs,ht,↓reduceIte]
    exact L32b_eq k l (by omega) (by omega)
   ·have hb':=hb
    rw [Bool.not_eq_true] at hb'
    simp only [hb',cFf,Bool.false_eq_true,↓reduceIte]
theorem ltr_len (s:List UInt8):(ltr s).length<=s.length:=by
 unfold ltr
 exact (List.dropWhile_sublist _).length_le
theorem F95_eq (s:List UInt8) (hs:s.length<=1100000):F95 ((s,()),())=some (trm s,()):=by
 have h1:L95_0 ((s,()),())=some ((ltr s,()),()):=L32a_eq s FUEL (by unfold FUEL;omega)
 have hl:=ltr_len s
 have h2:L95_1 ((ltr s,()),())=some ((rtr (ltr s),()),()):=L32b_eq FUEL (ltr s) (by omega) (by unfold FUEL;omega)
 simp only [F95,h1,h2,oBs,trm]
def badL:List UInt8:=[40,41,123,37,42,34,92,93]
theorem ub (a k:UInt8):(a == k)=decide (a.toNat=k.toNat):=by
 rw [Bool.eq_iff_iff,beq_iff_eq,dTe,UInt8.toNat_inj]
theorem cond_or {α β:Type} (s:α) (q:β) (A X:Bool):cond A (some ((s,(),A,()),q)) (some ((s,(),X,()),q))=some ((s,(),(A||X),()),q):=by
 cases A <;> rfl
def gd (c:UInt8):Bool:=decide (33<=c.toNat)&&decide (c.toNat<=126)&&!(badL.contains c)
def atom (s:List UInt8):Bool:=!s.isEmpty&&s.all gd
theorem L41b_eq (s:List UInt8) (i:Nat) (a:UInt8) (hi:i<s.length) (ha:s.getD i 0=a) :
  L40_1 ((s,(i:Int),(0:Int),()),())=some (if badL.contains a then .inr (((),()),()) else .inl ((s,(i:Int),()),())):=by
 have hF:=FUEL_big
 have h:=walk_list (f:=B40_1) (λ(_:Unit) k=>((s,(i:Int),(k:Int),()),())) badL (λx _=>if x == a then .inr (.inr (((),()),())) else .inl ()) (λ_=>.inl ((s,(i:Int),()),())) (b:=())
  (λb k x hk hx=>by
   have hk8:k<8:=hk
   have c1:decide ((k:Int)<8)=true:=by rw [dTe];omega
   have hx0:List.getD ([40,41,123,37,42,34,92,93]:List UInt8) k 0=x:=hx 0
   have hx125:x≠125:=by
    have:x∈badL:=by
     rw [<- hx 0,List.getD_eq_getElem?_getD,List.getElem?_eq_getElem hk]
     exact List.getElem_mem hk
    intro e
    rw [e] at this
    revert this
    decide
   simp only [B40_1,c1,nat_nn,nat_lt,hi,dTr,bAs,Bool.true_or,cTt,nCt,ha,hx0,w64_nat (show k<9223372036854775807 by omega)]
   by_cases he:a=x
   ·subst he
    have hne:¬ a=125:=hx125
    simp [hne]
   ·have hne:¬ (x == a)=true:=λh=>he (by simpa using (eq_of_beq h).symm)
    simp [he,hne])
  (λb=>rfl) (by show 8<FUEL;omega)
 have h':L40_1 ((s,(i:Int),(0:Int),()),())=_:=h
 rw [h']
 have:∀ l:List UInt8,foldS (λx (_:Unit)=>if x == a then (.inr (.inr (((),()),())):Unit⊕(((List UInt8×Int×Unit)×Unit)⊕((Unit×Unit)×Unit))) else .inl ()) (λ_=>.inl ((s,(i:Int),()),())) () l=if l.contains a then .inr (((),()),()) else .inl ((s,(i:Int),()),()):=by
  intro l
  induction l with
  | nil=>rfl
  | cons x t ih =>
   simp only [foldS]
   by_cases hxa:x=a
   ·subst hxa;simp
   ·have h1:¬ (x == a)=true:=λh=>hxa (eq_of_beq h)
    have h2:¬ (a == x)=true:=λh=>hxa (eq_of_beq h).symm
    rw [if_neg h1]
    simp only
    rw [ih]
    simp only [List.contains_cons,h2,Bool.false_or]
 rw [this]
theorem foldS_all {α τ:Type} (g:α->Bool) (y:τ) (n:τ):∀ (s:List α),foldS (λa (_:Unit)=>if g a=true then (.inl ():Unit⊕τ) else .inr n) (λ_=>y) () s=if s.all g then y else n
 | []=>rfl
 | a::t=>by
  simp only [foldS,List.all_cons]
  by_cases h:g a=true
  ·simp only [h,↓reduceIte,Bool.true_and]
   exact foldS_all g y n t
  ·simp only [h,↓reduceIte,Bool.false_and,Bool.false_eq_true]
theorem F40_eq (s:List UInt8) (hs:s.length<=1100000):F40 ((s,()),())=some (atom s,()):=by
 have hF:=FUEL_big
 have h:=walk_list (f:=B40_0) (λ(_:Unit) i=>((s,(i:Int),()),())) s (λa _=>if gd a=true then .inl () else .inr (.inr (((),()),()))) (λ_=>.inl ((s,()),())) (b:=())
  (λb i a hi ha=>by
   have e1:=L41b_eq s i a hi (ha 0)
   simp only [B40_0,nat_nn,nat_lt,hi,dTr,bAs,Bool.true_or,cTt,nCt,ha,show UInt8.toNat 33=33 from rfl,show UInt8.toNat 126=126 from rfl]
   unfold gd
   by_cases h1:a.toNat<33
   ·have:¬ 33<=a.toNat:=by omega
    simp only [h1,this,dTr,decide_false,Bool.true_or,Bool.false_and,cTt,Bool.false_eq_true,↓reduceIte,oBs]
   ·by_cases h2:126<a.toNat
    ·have:¬ a.toNat<=126:=by omega
     simp only [h2,this,dTr,decide_false,Bool.or_true,Bool.and_false,Bool.false_and,cTt,Bool.false_eq_true,↓reduceIte,oBs]
    ·have h3:33<=a.toNat:=by omega
     have h4:a.toNat<=126:=by omega
     simp only [h1,h2,h3,h4,dTr,decide_false,Bool.or_self,Bool.true_and,cFf]
     rw [e1]
     cases badL.contains a
     ·simp only [Bool.false_eq_true,↓reduceIte,oBs,Bool.not_false,w64_nat (show i<9223372036854775807 by omega)]
     ·simp only [↓reduceIte,oBs,Bool.not_true,Bool.false_eq_true])
  (λb=>by simp only [B40_0,Int.lt_irrefl,decide_false,cFf]) (by omega)
 rw [foldS_all] at h
 have h':L40_0 ((s,(0:Int),()),())=_:=h
 simp only [F40,h',atom]
 cases s with
 | nil=>rfl
 | cons c t =>
  have c1:decide ((0:Int)<(((c::t).length:Nat):Int))=true:=by rw [dTe,List.length_cons];omega
  cases (c::t).all gd
  ·simp
  ·simp only [↓reduceIte,oBs,c1,List.isEmpty_cons,Bool.not_false,bAs]
theorem dec_at {s:List UInt8} {i:Nat} (_h:i<s.length):Utf8.decode ⟨s.toArray⟩ i=Lib.decodeL (s.drop i):=by
 rw [<- Lib.decodeL_drop]
theorem decodeN_big (n b0 b1 b2 b3:Nat) (h:128<=b0):128<=(Lib.decodeN n b0 b1 b2 b3).1:=by
 unfold Lib.decodeN
 repeat' split
 all_goals simp only
 all_goals omega
theorem dec_big {b:UInt8} {t:List UInt8} (h:128<=b.toNat):128<=(Lib.decodeL (b::t)).1:=by
 rw [Lib.decodeL_N]
 exact decodeN_big _ _ _ _ _ h
theorem gd_rune (b:UInt8) (v:Int) (h1:b.toNat<128->v=(b.toNat:Int)) (h2:128<=b.toNat->128<=v) :
  ((decide (v<=32)||decide (126<v))||(decide (v=40)||(decide (v=41)||(decide (v=123)||(decide (v=37)||(decide (v=42)||(decide (v=34)||(decide (v=92)||decide (v=93)))))))))=!gd b:=by
 unfold gd badL
 simp only [List.contains_cons,List.contains_nil,Bool.or_false,ub,show UInt8.toNat 40=40 from rfl,show UInt8.toNat 41=41 from rfl,show UInt8.toNat 123=123 from rfl,show UInt8.toNat 37=37 from rfl,show UInt8.toNat 42=42 from rfl,show UInt8.toNat 34=34 from rfl,show UInt8.toNat 92=92 from rfl,show UInt8.toNat 93=93 from rfl]
 rw [Bool.eq_iff_iff]
 simp only [Bool.or_eq_true,Bool.not_eq_true',Bool.and_eq_false_iff,Bool.not_eq_false',dTe,decide_eq_false_iff_not]
 rcases Nat.lt_or_ge b.toNat 128 with h | h
 ·have:=h1 h;omega
 ·have:=h2 h;omega
theorem L81_iter (s:List UInt8):∀ (k i:Nat),i<=s.length->s.length-i<k ->
  iter B81_0 k ((s,(),()),((s,i),()))=some (if (s.drop i).all gd then .inl ((s,()),()) else .inr (((),()),()))
 | 0,_,_,h=>absurd h (Nat.not_lt_zero _)
 | k+1,i,hi,hk=>by
  by_cases hlt:i<s.length
  ·have hd:=List.drop_eq_getElem_cons hlt
   generalize hb:s[i]=b at hd
   have hg:=gd_rune b ((Lib.decodeL (b::s.drop (i+1))).1:Int) (λh=>by rw [Lib.decodeL_ascii b _ h]) (λh=>by
    have:=dec_big (t:=s.drop (i+1)) h
    omega)
   simp only [iter,B81_0,hlt,dTr,cTt,dec_at hlt]
   rw [hd]
   simp only [cond_or,hg,oBs,List.all_cons]
   by_cases h:gd b=true
   case neg =>
    rw [Bool.not_eq_true] at h
    simp only [h,Bool.not_false,cTt,Bool.false_and,Bool.false_eq_true,↓reduceIte]
   ·have h128:b.toNat<128:=by
     unfold gd at h
     simp only [bAt,dTe] at h
     omega
    have ih:=L81_iter s k (i+1) (by omega) (by omega)
    simp only [h,Bool.not_true,cFf,Bool.true_and]
    rw [Lib.decodeL_ascii b _ h128]
    exact ih
  ·obtain rfl:i=s.length:=by omega
   simp only [iter,B81_0,Nat.lt_irrefl,decide_false,cFf,List.drop_length,List.all_nil,↓reduceIte]
theorem F81_eq (s:List UInt8) (hs:s.length<=1100000):F81 ((s,()),())=some (atom s,()):=by
 have h:L81_0 ((s,(),()),((s,0),()))=_:=L81_iter s FUEL 0 (Nat.zero_le _) (by unfold FUEL;omega)
 rw [List.drop_zero] at h
 simp only [F81,h,atom]
 cases s with
 | nil=>rfl
 | cons c t =>
  cases (c::t).all gd
  ·simp
  ·simp
def fst (c:UInt8):List UInt8->Option Nat
 | []=>none
 | b::t=>if b=c then some 0 else (fst c t).map (·+1)
theorem indexByte_fst (c:UInt8):∀ l:List UInt8,Go.Lib.indexByte l c=match fst c l with | none=>-1 | some k=>(k:Int)
 | []=>rfl
 | b::t=>by
  have ih:=indexByte_fst c t
  unfold Go.Lib.indexByte fst
  by_cases h:b=c
  ·subst h
   simp
  ·have h1:¬ (b == c)=true:=λe=>h (eq_of_beq e)
   rw [if_neg h1,if_neg h,ih]
   cases fst c t with
   | none=>rfl
   | some k =>
    have:¬ (((k:Int)) == -1)=true:=by
     intro e
     have:=eq_of_beq e
     omega
    simp only [this,Option.map_some]
    rfl
theorem fst_lt (c:UInt8):∀ (l:List UInt8) (k:Nat),fst c l=some k->k<l.length
 | [],_,h=>by cases h
 | b::t,k,h=>by
  unfold fst at h
  by_cases hb:b=c
  ·rw [if_pos hb] at h
   injection h with h
   subst h
   simp
  ·rw [if_neg hb] at h
   cases hf:fst c t with
   | none=>rw [hf] at h;cases h
   | some j =>
    rw [hf] at h
    simp only [Option.map_some,oSi] at h
    have:=fst_lt c t j hf
    simp only [List.length_cons]
    omega
def nmc (c:UInt8):Bool:=!((decide (c.toNat<33)||decide (126<c.toNat))||decide (c=58))
def rn (s:List UInt8):Bool:=s.all nmc&&(decide (1<=s.length)&&decide (s.length<=24))
theorem F39_eq (s:List UInt8) (hs:s.length<=9223372036854775807):F39 ((s,()),())=some (rn s,()):=by
 have hF:(9223372036854775807:Nat)<FUEL:=by unfold FUEL;omega
 have h:=walk_list (f:=B39_0) (λ(_:Unit) i=>((s,(i:Int),()),())) s (λa _=>if nmc a=true then .inl () else .inr (.inr (((),()),()))) (λ_=>.inl ((s,()),())) (b:=())
  (λb i a hi ha=>by
   simp only [B39_0,nat_nn,nat_lt,hi,dTr,bAs,Bool.true_or,cTt,nCt,ha,show UInt8.toNat 33=33 from rfl,show UInt8.toNat 126=126 from rfl]
   unfold nmc
   cases ((decide (a.toNat<33)||decide (126<a.toNat))||decide (a=58))
   ·simp only [cFf,Bool.not_false,↓reduceIte,w64_nat (show i<9223372036854775807 by omega)]
   ·simp only [cTt,Bool.not_true,Bool.false_eq_true,↓reduceIte])
  (λb=>by simp only [B39_0,Int.lt_irrefl,decide_false,cFf]) (by omega)
 rw [foldS_all] at h
 have h':L39_0 ((s,(0:Int),()),())=_:=h
 simp only [F39,h',rn]
 cases s.all nmc
 ·simp only [Bool.false_eq_true,↓reduceIte,oBs,Bool.false_and]
 ·have e1:decide ((1:Int)<=((s.length:Nat):Int))=decide (1<=s.length):=by rw [decide_eq_decide];omega
  have e2:decide (((s.length:Nat):Int)<=24)=decide (s.length<=24):=by rw [decide_eq_decide];omega
  simp only [↓reduceIte,oBs,Bool.true_and,e1,e2]
theorem F56_eq (s:List UInt8) (hs:s.length<=9223372036854775807):F56 ((s,()),())=some (rn s,()):=by
 have hF:(9223372036854775807:Nat)<FUEL:=by unfold FUEL;omega
 have h:=walk_list (f:=B56_0) (λ(_:Unit) i=>((s,(s.length:Int),(i:Int),()),())) s (λa _=>if nmc a=true then .inl () else .inr (.inr (((),()),()))) (λ_=>.inl ((s,()),())) (b:=())
  (λb i a hi ha=>by
   simp only [B56_0,nat_nn,nat_lt,hi,dTr,bAs,Bool.true_or,cTt,nCt,ha,show UInt8.toNat 33=33 from rfl,show UInt8.toNat 126=126 from rfl]
   unfold nmc
   cases ((decide (a.toNat<33)||decide (126<a.toNat))||decide (a=58))
   ·simp only [cFf,Bool.not_false,↓reduceIte,w64_nat (show i<9223372036854775807 by omega)]
   ·simp only [cTt,Bool.not_true,Bool.false_eq_true,↓reduceIte])
  (λb=>by simp only [B56_0,Int.lt_irrefl,decide_false,cFf]) (by omega)
 rw [foldS_all] at h
 have h':L56_0 ((s,(s.length:Int),(0:Int),()),())=_:=h
 simp only [F56,h',rn]
 cases s.all nmc
 ·simp only [Bool.false_eq_true,↓reduceIte,oBs,Bool.false_and]
 ·have e2:decide (((s.length:Nat):Int)<=24)=decide (s.length<=24):=by rw [decide_eq_decide];omega
  have e1:(!decide (s=[]))=decide (1<=s.length):=by cases s <;> simp
  simp only [↓reduceIte,oBs,Bool.true_and,e1,e2]
def lowc (c:UInt8):UInt8:=if 65<=c.toNat/\c.toNat<=90 then c+32 else c
theorem append_set {α:Type}:∀ (a t:List α) (x y:α),(a++x::t).set a.length y=a++y::t
 | [],_,_,_=>rfl
 | b::a,t,x,y=>by
  simp only [List.cons_append,List.length_cons,List.set_cons_succ,append_set a t x y]
theorem drop_cons {α:Type} {s:List α} {i:Nat} {a:α} (hi:i<s.length) (ha:∀ d,s.getD i d=a):s.drop i=a::s.drop (i+1):=by
 rw [List.drop_eq_getElem_cons hi]
 have:=ha s[i]
 rw [List.getD_eq_getElem?_getD,List.getElem?_eq_getElem hi] at this
 rw [show s[i]=a from this]
theorem foldS_push {α β τ:Type} (g:α->β) (fin:List β->τ):∀ (s:List α) (b:List β),foldS (λa b=>(.inl (b++[g a]):List β⊕τ)) fin b s=fin (b++s.map g)
 | [],b=>by simp [foldS]
 | a::t,b=>by
  simp only [foldS]
  rw [foldS_push g fin t]
  simp
theorem F88_eq (s:List UInt8) (hs:s.length<=maxLen):F88 ((s,()),())=some (s.map lowc,()):=by
 have hF:maxLen<FUEL:=by unfold maxLen FUEL;omega
 have hm:maxLen=9223372036854775807:=rfl
 have h:=walk_listI (f:=B88_0) (λ(b:List UInt8) i=>(((),(),((s.length:Nat):Int),(i:Int),()),(b++s.drop i,()))) s (λa b=>.inl (b++[lowc a])) (λb=>(((),()),(b,()))) (λb i=>b.length=i) (b:=[])
  (λb i a hI hi ha=>.inl ⟨_,rfl,by rw [List.length_append,hI];rfl,by
   subst hI
   have hd:=drop_cons hi ha
   have hlt:b.length<(b++s.drop b.length).length:=by rw [hd];simp
   have hg:(b++s.drop b.length).getD b.length 0=a:=by
    rw [hd,List.getD_eq_getElem?_getD,List.getElem?_append_right (Nat.le_refl _)]
    simp
   have hset:(b++s.drop b.length).set b.length (a+32)=b++[a+32]++s.drop (b.length+1):=by
    rw [hd,append_set];simp
   have hkeep:b++s.drop b.length=b++[a]++s.drop (b.length+1):=by
    rw [hd];simp
   simp only [B88_0,nat_lt,nat_nn,hi,hlt,dTr,Bool.and_true,cTt,nCt,hg,hset,show UInt8.toNat 65=65 from rfl,show UInt8.toNat 90=90 from rfl]
   unfold lowc
   by_cases h1:65<=a.toNat
   ·by_cases h2:a.toNat<=90
    ·simp only [h1,h2,dTr,bAs,cTt,oBs,and_self,↓reduceIte,w64_nat (show b.length<9223372036854775807 by omega)]
    ·simp only [h1,h2,dTr,decide_false,Bool.and_false,cFf,oBs,and_false,↓reduceIte,<- hkeep,w64_nat (show b.length<9223372036854775807 by omega)]
   ·simp only [h1,decide_false,Bool.false_and,cFf,oBs,false_and,↓reduceIte,<- hkeep,w64_nat (show b.length<9223372036854775807 by omega)]⟩)
  (λb _=>by simp only [B88_0,Int.lt_irrefl,decide_false,cFf,List.drop_length,List.append_nil]) (by omega) rfl
 rw [foldS_push] at h
 have h':L88_0 (((),(),((s.length:Nat):Int),(0:Int),()),(s,()))=some (((),()),(s.map lowc,())):=h
 simp only [F88,h',oBs]
theorem F96_eq (s:List UInt8) (hs:s.length<=maxLen):F96 ((s,()),())=some (s.map lowc,()):=by
 have hF:maxLen<FUEL:=by unfold maxLen FUEL;omega
 have hm:maxLen=9223372036854775807:=rfl
 have h:=walk_listI (f:=B96_0) (λ(b:List UInt8) i=>((s,b,(i:Int),()),())) s (λa b=>.inl (b++[lowc a])) (λb=>((b,()),())) (λb i=>b.length=i) (b:=[])
  (λb i a hI hi ha=>.inl ⟨_,rfl,by rw [List.length_append,hI];rfl,by
   have hf:fits (b.length+1)=true:=dTt (by omega)
   simp only [B96_0,nat_lt,nat_nn,hi,dTr,Bool.and_true,cTt,nCt,ha,List.length_cons,List.length_nil,Nat.zero_add,show UInt8.toNat 65=65 from rfl,show UInt8.toNat 90=90 from rfl]
   unfold lowc
   by_cases h1:65<=a.toNat
   ·by_cases h2:a.toNat<=90
    ·simp only [h1,h2,dTr,bAs,cTt,oBs,and_self,↓reduceIte,hf,w64_nat (show i<9223372036854775807 by omega)]
    ·simp only [h1,h2,dTr,decide_false,Bool.and_false,cFf,cTt,oBs,and_false,↓reduceIte,hf,w64_nat (show i<9223372036854775807 by omega)]
   ·simp only [h1,decide_false,Bool.false_and,cFf,cTt,oBs,false_and,↓reduceIte,hf,w64_nat (show i<9223372036854775807 by omega)]⟩)
  (λb _=>by simp only [B96_0,Int.lt_irrefl,decide_false,cFf]) (by omega) rfl
 rw [foldS_push] at h
 have h':L96_0 ((s,[],(0:Int),()),())=some ((s.map lowc,()),()):=h
 simp only [F96,h',oBs]
abbrev Fld:Type:=List UInt8×(List UInt8×(Int×Unit))
def hit (name:List UInt8) (f:Fld):Bool:=decide (f.1.map lowc=name.map lowc)
def alls (l:List Fld) (name:List UInt8):List (List UInt8):=(l.filter (hit name)).map λf=>f.2.1
theorem F86_eq (a b:List UInt8) (ha:a.length<=maxLen) (hb:b.length<=maxLen):F86 ((a,b,()),())=some (decide (a.map lowc=b.map lowc),()):=by
 simp only [F86,F88_eq a ha,F88_eq b hb,oBs]
theorem foldS_filter {τ:Type} (name:List UInt8) (fin:List (List UInt8)->τ):∀ (s:List Fld) (b:List (List UInt8)),foldS (λa b=>(.inl (if hit name a=true then b++[a.2.1] else b):List (List UInt8)⊕τ)) fin b s=fin (b++alls s name)
 | [],b=>by simp [foldS,alls]
 | a::t,b=>by
  simp only [foldS]
  rw [foldS_filter name fin t]
  unfold alls
  rw [List.filter_cons]
  split <;> simp
theorem F49_eq (l:List Fld) (name:List UInt8) (hl:l.length<=1100000) (hn:name.length<=maxLen) (hf:∀ f∈l,f.1.length<=maxLen):F49 ((l,name,()),())=some (alls l name,()):=by
 have hF:=FUEL_big
 have h:=walk_listI (f:=B49_0) (λ(b:List (List UInt8)) i=>((name,(),l,(l.length:Int),(i:Int),()),(b,()))) l (λa b=>.inl (if hit name a=true then b++[a.2.1] else b)) (λb=>(((),()),(b,())))
  (λb i=>b.length<=i) (b:=[])
  (λb i a hI hi ha=>.inl ⟨_,rfl,by
   have hI:b.length<=i:=hI
   show (if hit name a=true then b++[a.2.1] else b).length<=i+1
   split
   ·rw [List.length_append,List.length_singleton];omega
   ·omega,by
   have hI:b.length<=i:=hI
   have hm:a∈l:=by
    have:=ha a
    rw [List.getD_eq_getElem?_getD,List.getElem?_eq_getElem hi] at this
    rw [<- show l[i]=a from this]
    exact List.getElem_mem hi
   have e:=F86_eq a.1 name (hf a hm) hn
   have hby:bytesOK (b.length+(List.length ([a.2.1]:List (List UInt8)))) 16=true:=by
    unfold bytesOK;rw [dTe,List.length_singleton];omega
   simp only [B49_0,nat_lt,nat_nn,hi,dTr,bAs,cTt,nCt,ha,oBs,e]
   unfold hit
   cases decide (a.1.map lowc=name.map lowc)
   ·simp only [cFf,oBs,Bool.false_eq_true,↓reduceIte,w64_nat (show i<9223372036854775807 by omega)]
   ·simp only [cTt,oBs,↓reduceIte,hby,w64_nat (show i<9223372036854775807 by omega)]⟩)
  (λb _=>by simp only [B49_0,Int.lt_irrefl,decide_false,cFf]) (by omega) (Nat.le_refl _)
 rw [foldS_filter,List.nil_append] at h
 have h':L49_0 ((name,(),l,(l.length:Int),(0:Int),()),(([]:List (List UInt8)),()))=_:=h
 simp only [F49,h',oBs]
theorem F60_eq (l:List Fld) (name:List UInt8) (hl:l.length<=1100000) (hn:name.length<=maxLen) (hf:∀ f∈l,f.1.length<=maxLen):F60 ((l,name,()),())=some (alls l name,()):=by
 have hF:=FUEL_big
 have h:=walk_listI (f:=B60_0) (λ(b:List (List UInt8)) i=>((l,name,(),(i:Int),()),(b,()))) l (λa b=>.inl (if hit name a=true then b++[a.2.1] else b)) (λb=>(((),()),(b,())))
  (λb i=>b.length<=i) (b:=[])
  (λb i a hI hi ha=>.inl ⟨_,rfl,by
   have hI:b.length<=i:=hI
   show (if hit name a=true then b++[a.2.1] else b).length<=i+1
   split
   ·rw [List.length_append,List.length_singleton];omega
   ·omega,by
   have hI:b.length<=i:=hI
   have hm:a∈l:=by
    have:=ha a
    rw [List.getD_eq_getElem?_getD,List.getElem?_eq_getElem hi] at this
    rw [<- show l[i]=a from this]
    exact List.getElem_mem hi
   have e:=F96_eq a.1 (hf a hm)
   have e2:=F96_eq name hn
   have hby:bytesOK (b.length+(List.length ([a.2.1]:List (List UInt8)))) 16=true:=by
    unfold bytesOK;rw [dTe,List.length_singleton];omega
   simp only [B60_0,nat_lt,nat_nn,hi,dTr,bAs,cTt,nCt,ha,oBs,e,e2]
   unfold hit
   cases decide (a.1.map lowc=name.map lowc)
   ·simp only [cFf,oBs,Bool.false_eq_true,↓reduceIte,w64_nat (show i<9223372036854775807 by omega)]
   ·simp only [cTt,oBs,↓reduceIte,hby,w64_nat (show i<9223372036854775807 by omega)]⟩)
  (λb _=>by simp only [B60_0,Int.lt_irrefl,decide_false,cFf]) (by omega) (Nat.le_refl _)
 rw [foldS_filter,List.nil_append] at h
 have h':L60_0 ((l,name,(),(0:Int),()),(([]:List (List UInt8)),()))=_:=h
 simp only [F60,h',oBs]
theorem F136_eq (l:List Fld) (name:List UInt8) (hl:l.length<=1100000) (hn:name.length<=maxLen) (hf:∀ f∈l,f.1.length<=maxLen) :
  F136 ((l,name,()),())=some (((alls l name).getD 0 [],!(alls l name).isEmpty,()),()):=by
 simp only [F136,F49_eq l name hl hn hf,oBs]
 cases alls l name with
 | nil=>rfl
 | cons a t =>
  have c1:decide ((((a::t).length:Nat):Int)=0)=false:=by rw [decide_eq_false_iff_not,List.length_cons];omega
  have c2:decide ((0:Int)<(((a::t).length:Nat):Int))=true:=by rw [dTe,List.length_cons];omega
  simp only [c1,c2,cTt,cFf]
  rfl
def ln:List UInt8->List UInt8×Nat
 | []=>([],0)
 | a::t=>if a=13/\t.head?=some 10 then ([],2) else (a::(ln t).1,(ln t).2+1)
theorem ln_le:∀ l:List UInt8,(ln l).2<=l.length/\(ln l).1.length<=(ln l).2
 | []=>⟨Nat.le_refl _,Nat.le_refl _⟩
 | a::t=>by
  have ih:=ln_le t
  unfold ln
  split
  ·next h =>
   have:t≠[]:=by rintro rfl;cases h.2
   have:=List.length_pos_iff.mpr this
   simp only [List.length_cons,List.length_nil]
   omega
  ·simp only [List.length_cons];omega
theorem ln_pos (a:UInt8) (t:List UInt8):1<=(ln (a::t)).2:=by
 unfold ln
 split
 ·decide
 ·simp
theorem ln_take:∀ l:List UInt8,(ln l).1=l.take (ln l).1.length
 | []=>rfl
 | a::t=>by
  have ih:=ln_take t
  unfold ln
  split
  ·rfl
  ·simp only [List.length_cons,List.take_succ_cons]
   rw [<- ih]
theorem pre1310 (a:UInt8) (t:List UInt8):([13,10]:List UInt8).isPrefixOf (a::t)=decide (a=13/\t.head?=some 10):=by
 rw [Bool.eq_iff_iff,dTe]
 cases t with
 | nil=>simp [List.isPrefixOf]
 | cons b t =>
  simp only [List.isPrefixOf,bAt,beq_iff_eq,Bool.and_true,List.head?_cons,oSi]
  exact ⟨λh=>⟨h.1.symm,h.2.symm⟩,λh=>⟨h.1.symm,h.2.symm⟩⟩
theorem ln_index:∀ l:List UInt8,(Lib.index l [13,10]=-1/\ln l=(l,l.length))\/(∃ i:Nat,Lib.index l [13,10]=(i:Int)/\ln l=(l.take i,i+2)/\i+2<=l.length)
 | []=>.inl ⟨rfl,rfl⟩
 | a::t=>by
  unfold Lib.index ln
  rw [pre1310]
  by_cases h:a=13/\t.head?=some 10
  ·right
   have:t≠[]:=by rintro rfl;cases h.2
   have:=List.length_pos_iff.mpr this
   exact ⟨0,by simp [h],by simp [h],by simp only [List.length_cons];omega⟩
  ·rcases ln_index t with ⟨h1,h2⟩ | ⟨i,h1,h2,h3⟩
   ·left
    rw [h1,h2]
    simp [h]
   ·right
    rw [h1,h2]
    refine ⟨i+1,?_,?_,by simp only [List.length_cons];omega⟩
    ·have:¬ ((i:Int) == -1)=true:=by
      intro e
      have:=eq_of_beq e
      omega
     simp [h,this]
    ·simp [h]
theorem F52_eq (l:List UInt8) (h0:l≠[]) (hl:l.length<=1100000):F52 ((l,()),())=some (((ln l).1,(((ln l).2:Nat):Int),()),()):=by
 have c0:((((!(List.isEmpty l))&&(decide (l.length<4294967281)))&&true)&&true)=true:=by
  cases l with
  | nil=>exact absurd rfl h0
  | cons a t=>simp only [List.isEmpty_cons,Bool.not_false,Bool.true_and,Bool.and_true];rw [dTe];omega
 simp only [F52,c0,cTt]
 rcases ln_index l with ⟨h1,h2⟩ | ⟨i,h1,h2,h3⟩
 ·rw [h1,h2];rfl
 ·have c1:decide ((i:Int)<0)=false:=by rw [decide_eq_false_iff_not];omega
  have c2:decide ((i:Int)<=((l.length:Nat):Int))=true:=by rw [dTe];omega
  have c3:w64 ((i:Int)+2)=((i+2:Nat):Int):=by rw [w64_id (by omega) (by omega)];omega
  rw [h1,h2]
  simp only [c1,c2,c3,nat_nn,bAs,cTt,cFf,nCt]
def post28 (n:Nat) (r:((List UInt8×Unit)×Unit)⊕((Int×Int×Unit)×Unit)):Int×Int :=
 match r with
 | .inl _=>((n:Int),(n:Int))
 | .inr q=>(q.1.1,q.1.2.1)
theorem L92_iter (b:List UInt8) (hb:b.length<=1100000):∀ (rest:List UInt8) (k at':Nat),at'<=b.length->b.drop at'=rest->rest.length<k ->
  ∃ r,iter B92_0 k ((b,(at':Int),()),())=some r/\(∀ q,r=.inl q->q.1.1=b)/\post28 b.length r=(((at'+(ln rest).1.length:Nat):Int),((at'+(ln rest).2:Nat):Int))
 | _,0,_,_,_,h=>absurd h (Nat.not_lt_zero _)
 | [],k+1,at',hi,hd,_=>by
  have hl:b.length<=at':=List.drop_eq_nil_iff.mp hd
  have:decide (((at'+1:Nat):Int)<((b.length:Nat):Int))=false:=by rw [decide_eq_false_iff_not];omega
  refine ⟨.inl ((b,()),()),?_,λq h=>by cases h;rfl,?_⟩
  ·simp only [iter,B92_0,w64_nat (show at'<9223372036854775807 by omega),this,cFf]
  ·have:b.length=at':=by omega
   simp [post28,ln,this]
 | [a],k+1,at',hi,hd,_=>by
  have hl:=congrArg List.length hd
  rw [List.length_drop,List.length_singleton] at hl
  have:decide (((at'+1:Nat):Int)<((b.length:Nat):Int))=false:=by rw [decide_eq_false_iff_not];omega
  refine ⟨.inl ((b,()),()),?_,λq h=>by cases h;rfl,?_⟩
  ·simp only [iter,B92_0,w64_nat (show at'<9223372036854775807 by omega),this,cFf]
  ·have:b.length=at'+1:=by omega
   simp [post28,ln,this]
 | a::c::t,k+1,at',hi,hd,hk=>by
  have hl:=congrArg List.length hd
  rw [List.length_drop,List.length_cons,List.length_cons] at hl
  have hlt:at'<b.length:=by omega
  have hlt1:at'+1<b.length:=by omega
  have e:=List.drop_eq_getElem_cons hlt
  rw [hd] at e
  obtain ⟨e1,e2⟩:=List.cons.inj e
  have ee:=List.drop_eq_getElem_cons hlt1
  rw [<- e2] at ee
  obtain ⟨e3,e4⟩:=List.cons.inj ee
  have g1:b.getD at' (0:UInt8)=a:=by rw [List.getD_eq_getElem?_getD,List.getElem?_eq_getElem hlt,e1];rfl
  have g2:b.getD (at'+1) (0:UInt8)=c:=by rw [List.getD_eq_getElem?_getD,List.getElem?_eq_getElem hlt1,e3];rfl
  have c3:w64 ((at':Int)+2)=((at'+2:Nat):Int):=by rw [w64_id (by omega) (by omega)];omega
  simp only [iter,B92_0,w64_nat (show at'<9223372036854775807 by omega),nat_lt,nat_nn,hlt,hlt1,dTr,bAs,Bool.true_or,cTt,nCt,g1,g2,c3]
  by_cases h:a=13/\c=10
  ·obtain ⟨rfl,rfl⟩:=h
   exact ⟨.inr ((((at':Nat):Int),((at'+2:Nat):Int),()),()),rfl,(λq h=>by cases h),by simp [post28,ln]⟩
  ·have h':(decide (a=13)&&decide (c=10))=false:=by
    rw [Bool.and_eq_false_iff,decide_eq_false_iff_not,decide_eq_false_iff_not]
    by_cases ha:a=13
    ·exact .inr λhc=>h ⟨ha,hc⟩
    ·exact .inl ha
   obtain ⟨r,q1,q2,q3⟩:=L92_iter b hb (c::t) k (at'+1) (by omega) e2.symm (by simp only [List.length_cons] at hk ⊢; omega)
   simp only [h',cFf]
   refine ⟨r,q1,q2,?_⟩
   rw [q3]
   have hn:ln (a::c::t)=(a::(ln (c::t)).1,(ln (c::t)).2+1):=by
    conv=>lhs;unfold ln
    rw [if_neg (by simpa using h)]
   rw [hn]
   simp only [List.length_cons]
   congr 2 <;> omega
theorem F92_eq (b:List UInt8) (at':Nat) (hb:b.length<=1100000) (hi:at'<=b.length):F92 ((b,(at':Int),()),())=some ((((at'+(ln (b.drop at')).1.length:Nat):Int),((at'+(ln (b.drop at')).2:Nat):Int),()),()):=by
 have hF:=FUEL_big
 obtain ⟨r,h1,h2,h3⟩:=L92_iter b hb _ FUEL at' hi rfl (by rw [List.length_drop];omega)
 have h1':L92_0 ((b,(at':Int),()),())=some r:=h1
 simp only [F92,h1',oBs]
 cases r with
 | inl q =>
  have:=h2 q rfl
  simp only [post28,Prod.mk.injEq] at h3
  simp only [oBs,this,h3.1]
  rw [<- h3.2,h3.1]
 | inr q =>
  simp only [post28,Prod.mk.injEq] at h3
  simp only [oBs,h3.1,h3.2]
theorem F94_eq (l:List UInt8) (hl:l.length<=1100000):F94 ((l,()),())=some (match fst 58 l with | none=>-1 | some k=>(k:Int),()):=by
 have hF:=FUEL_big
 have h2:=walk_listI (f:=B94_0) (λ(_:Nat) i=>((l,(i:Int),()),())) l
  (λa k=>if a=58 then .inr (.inr ((((k:Nat):Int),()),())) else .inl (k+1)) (λ_=>.inl ((),())) (λb i=>b=i) (b:=0)
  (λb i a hI hi ha=>by
   subst hI
   simp only [B94_0,nat_nn,nat_lt,hi,dTr,bAs,cTt,nCt,ha]
   by_cases h:a=58
   ·right
    refine ⟨_,if_pos h,?_⟩
    simp only [h,dTr,cTt]
   ·left
    refine ⟨b+1,if_neg h,rfl,?_⟩
    simp only [h,decide_false,cFf,w64_nat (show b<9223372036854775807 by omega)])
  (λb _=>by simp only [B94_0,Int.lt_irrefl,decide_false,cFf]) (by omega) rfl
 have h3:L94_0 ((l,(0:Int),()),())=_:=h2
 simp only [F94,h3]
 clear h2 h3
 suffices H:∀ (t:List UInt8) (k:Nat),foldS (λ(a:UInt8) (k:Nat)=>if a=58 then (.inr (.inr ((((k:Nat):Int),()),())):Nat⊕((Unit×Unit)⊕((Int×Unit)×Unit))) else .inl (k+1)) (λ_=>.inl ((),())) k t =
   match fst 58 t with | none=>.inl ((),()) | some j=>.inr ((((k+j:Nat):Int),()),()) by
  rw [H l 0]
  cases fst 58 l with
  | none=>rfl
  | some j=>simp
 intro t
 induction t with
 | nil=>intro k;rfl
 | cons a t ih =>
  intro k
  simp only [foldS,fst]
  by_cases h:a=58
  ·simp only [h,↓reduceIte,Nat.add_zero]
  ·simp only [h,↓reduceIte]
   rw [ih]
   cases fst 58 t with
   | none=>rfl
   | some j =>
    simp only [Option.map_some]
    rw [show k+1+j=k+(j+1) by omega]
def trf (f:Fld):Fld:=(f.1,(trm f.2.1,(f.2.2.1,())))
theorem F53_eq (o:List Fld) (hlen:o.length<=1000) (ho:∀ f∈o,f.2.1.length<=1100000):F53 (((),()),(o,()))=some ((),(o.map trf,())):=by
 have hF:=FUEL_big
 have h:=walk_listI (f:=B53_0) (λ(b:List Fld) i=>(((),(o.length:Int),(i:Int),()),(b++o.drop i,()))) o (λa b=>.inl (b++[trf a])) (λb=>(((),()),(b,()))) (λb i=>b.length=i) (b:=[])
  (λb i a hI hi ha=>.inl ⟨_,rfl,by rw [List.length_append,hI];rfl,by
   subst hI
   have hd:=drop_cons hi ha
   have hm:a∈o:=by
    have:=ha a
    rw [List.getD_eq_getElem?_getD,List.getElem?_eq_getElem hi] at this
    rw [<- show o[b.length]=a from this]
    exact List.getElem_mem hi
   have hlt:b.length<(b++o.drop b.length).length:=by rw [hd];simp
   have hg:(b++o.drop b.length).getD b.length (([]:List UInt8),(([]:List UInt8),((0:Int),())))=a:=by
    rw [hd,List.getD_eq_getElem?_getD,List.getElem?_append_right (Nat.le_refl _)]
    simp
   have hset:(b++o.drop b.length).set b.length (trf a)=b++[trf a]++o.drop (b.length+1):=by
    rw [hd,append_set];simp
   have e:=F90_eq a.2.1 (by have:=ho a hm;omega)
   have hset':(b++o.drop b.length).set b.length (a.1,(trm a.2.1,(a.2.2.1,())))=b++[trf a]++o.drop (b.length+1):=hset
   simp only [B53_0,nat_lt,nat_nn,hi,hlt,dTr,bAs,cTt,nCt,hg,e,oBs,hset',w64_nat (show b.length<9223372036854775807 by omega)]⟩)
  (λb _=>by simp only [B53_0,Int.lt_irrefl,decide_false,cFf,List.drop_length,List.append_nil]) (by omega) rfl
 rw [foldS_push,List.nil_append] at h
 have h':L53_0 (((),(o.length:Int),(0:Int),()),(o,()))=_:=h
 simp only [F53,h',oBs,List.nil_append]
theorem L11b_eq (at':Int) (o:List Fld) (hlen:o.length<=1000) (ho:∀ f∈o,f.2.1.length<=1100000):L57_1 (((),at',(0:Int),()),(o,()))=some (((),at',()),(o.map trf,())):=by
 have hF:=FUEL_big
 have h:=walk_listI (f:=B57_1) (λ(b:List Fld) i=>(((),at',(i:Int),()),(b++o.drop i,()))) o (λa b=>.inl (b++[trf a])) (λb=>(((),at',()),(b,()))) (λb i=>b.length=i/\i<=o.length) (b:=[])
  (λb i a hI hi ha=>.inl ⟨_,rfl,by rw [List.length_append,hI.1];exact ⟨rfl,hi⟩,by
   obtain ⟨rfl,hle⟩:=hI
   have hd:=drop_cons hi ha
   have hm:a∈o:=by
    have:=ha a
    rw [List.getD_eq_getElem?_getD,List.getElem?_eq_getElem hi] at this
    rw [<- show o[b.length]=a from this]
    exact List.getElem_mem hi
   have hlt:b.length<(b++o.drop b.length).length:=by rw [hd];simp
   have hg:(b++o.drop b.length).getD b.length (([]:List UInt8),(([]:List UInt8),((0:Int),())))=a:=by
    rw [hd,List.getD_eq_getElem?_getD,List.getElem?_append_right (Nat.le_refl _)]
    simp
   have hset:(b++o.drop b.length).set b.length (trf a)=b++[trf a]++o.drop (b.length+1):=by
    rw [hd,append_set];simp
   have e:=F95_eq a.2.1 (ho a hm)
   have hset':(b++o.drop b.length).set b.length (a.1,(trm a.2.1,(a.2.2.1,())))=b++[trf a]++o.drop (b.length+1):=hset
   simp only [B57_1,nat_lt,nat_nn,hlt,dTr,bAs,cTt,nCt,hg,e,oBs,hset',w64_nat (show b.length<9223372036854775807 by omega)]⟩)
  (λb hI=>by
   have:(b++List.drop o.length o).length=o.length:=by rw [List.drop_length,List.append_nil];exact hI.1
   simp only [B57_1,this,Int.lt_irrefl,decide_false,cFf]
   rw [List.drop_length,List.append_nil]) (by omega) ⟨rfl,Nat.zero_le _⟩
 rw [foldS_push,List.nil_append] at h
 exact h
def nof:Fld:=([],([],((0:Int),())))
def addl (out:List Fld) (l:List UInt8):List Fld :=
 out.set (out.length-1) ((out.getD (out.length-1) nof).1,((out.getD (out.length-1) nof).2.1++l,((out.getD (out.length-1) nof).2.2.1,())))
def spl:Nat->List UInt8->Nat->List Fld->(List Fld×Nat)⊕(Nat×Int)
 | 0,_,at',out=>.inl (out,at')
 | k+1,rest,at',out =>
  if rest=[] then .inl (out,at')
  else if (ln rest).1=[] then .inl (out,at'+(ln rest).2)
  else if 1024<(ln rest).1.length then .inr (at',6)
  else if (bl ((ln rest).1.getD 0 0)&&decide (0<out.length))=true then spl k (rest.drop (ln rest).2) (at'+(ln rest).2) (addl out (ln rest).1)
  else match fst 58 (ln rest).1 with
   | none=>.inr (at',4)
   | some j =>
    if rn ((ln rest).1.take j)=true then
     if 40<=out.length then .inr (at',6)
     else spl k (rest.drop (ln rest).2) (at'+(ln rest).2) (out++[((ln rest).1.take j,((ln rest).1.drop (j+1),(((at':Nat):Int),())))])
    else .inr (at',4)
def fin:(List Fld×Nat)⊕(Nat×Int)->List Fld×Int×Int×Unit
 | .inl o=>(o.1.map trf,((o.2:Nat):Int),0,())
 | .inr e=>([],((e.1:Nat):Int),e.2,())
def split (b:List UInt8):List Fld×Int×Int×Unit:=fin (spl (b.length+1) b 0 [])
def keeps (n:Nat) (rest:List UInt8) (out:List Fld):Prop:=out.length<=40/\∀ f∈out,f.2.1.length+rest.length<=n
theorem keeps_add {n:Nat} {rest:List UInt8} {out:List Fld} (h:keeps n rest out) (h0:0<out.length):keeps n (rest.drop (ln rest).2) (addl out (ln rest).1):=by
 have hl:=ln_le rest
 refine ⟨by unfold addl;rw [List.length_set];exact h.1,λf hf=>?_⟩
 rw [List.length_drop]
 rcases List.mem_or_eq_of_mem_set hf with hm | rfl
 ·have:=h.2 f hm;omega
 ·have hmem:out.getD (out.length-1) nof∈out:=by
   rw [List.getD_eq_getElem?_getD,List.getElem?_eq_getElem (by omega)]
   exact List.getElem_mem _
  have:=h.2 _ hmem
  simp only [List.length_append]
  omega
theorem keeps_new {n:Nat} {rest:List UInt8} {out:List Fld} (h:keeps n rest out) (h40:out.length<40) (hn:rest.length<=n) (a:List UInt8) (j:Nat) (i:Int) :
  keeps n (rest.drop (ln rest).2) (out++[(a,((ln rest).1.drop (j+1),(i,())))]):=by
 have hl:=ln_le rest
 refine ⟨by rw [List.length_append,List.length_singleton];omega,λf hf=>?_⟩
 rw [List.length_drop]
 rcases List.mem_append.mp hf with hm | hm
 ·have:=h.2 f hm;omega
 ·rw [List.mem_singleton] at hm
  subst hm
  simp only [List.length_drop]
  omega
abbrev R10:Type:=(((List UInt8×Unit×Unit)×(List Fld×Unit))⊕((Unit×Int×Int×Unit)×(List Fld×Unit)))
def post10 (n:Nat):R10->List Fld×Int×Int×Unit
 | .inl q=>(q.2.1.map trf,(n:Int),0,())
 | .inr q=>(q.2.1,q.1.2.1,q.1.2.2.1,())
theorem lastD {out:List Fld} (h0:0<out.length) (h40:out.length<=40):w64 (((out.length:Nat):Int)-1)=((out.length-1:Nat):Int):=by
 rw [w64_id (by omega) (by omega)];omega
theorem L29_iter (b:List UInt8) (hb:b.length<=1100000):∀ (k K at':Nat) (rest:List UInt8) (out:List Fld),at'<=b.length->b.drop at'=rest->keeps b.length rest out->rest.length<k->k<=K ->
  ∃ r:R10,iter B29_0 K ((b,(),(at':Int),()),(out,()))=some r/\post10 b.length r=fin (spl k rest at' out)/\(∀ q,r=.inl q->q.1.1=b/\keeps b.length [] q.2.1)
 | 0,_,_,_,_,_,_,_,h,_=>absurd h (Nat.not_lt_zero _)
 | k+1,0,_,_,_,_,_,_,_,h=>absurd h (by omega)
 | k+1,K+1,at',rest,out,hi,hd,hkeep,hk,hK=>by
  by_cases hr:rest=[]
  ·subst hr
   have hl:b.length<=at':=List.drop_eq_nil_iff.mp hd
   obtain rfl:at'=b.length:=by omega
   refine ⟨.inl ((b,(),()),(out,())),?_,?_,λq h=>by cases h;exact ⟨rfl,hkeep⟩⟩
   ·simp only [iter,B29_0,Int.lt_irrefl,decide_false,cFf]
   ·simp only [post10,spl,↓reduceIte,fin]
  ·have hlt:at'<b.length:=by
    rcases Nat.lt_or_ge at' b.length with h | h
    ·exact h
    ·rw [List.drop_eq_nil_iff.mpr h] at hd;exact absurd hd.symm hr
   have hlen:=congrArg List.length hd
   rw [List.length_drop] at hlen
   have hle:decide (((at':Nat):Int)<=((b.length:Nat):Int))=true:=by rw [dTe];omega
   have htk:List.take (b.length-at') (List.drop at' b)=rest:=by rw [hd];exact List.take_of_length_le (by omega)
   have e23:=F52_eq rest hr (by omega)
   obtain ⟨n1,n2⟩:=ln_le rest
   have n3:1<=(ln rest).2:=by
    cases rest with
    | nil=>exact absurd rfl hr
    | cons a t=>exact ln_pos a t
   have hw:w64 (((at':Nat):Int)+(((ln rest).2:Nat):Int))=((at'+(ln rest).2:Nat):Int):=by
    rw [w64_id (by omega) (by omega)];omega
   have hdrop:b.drop (at'+(ln rest).2)=rest.drop (ln rest).2:=by rw [<- List.drop_drop,hd]
   have hrest:(rest.drop (ln rest).2).length<k:=by rw [List.length_drop];omega
   unfold spl
   rw [if_neg hr]
   have hka:0<out.length->keeps b.length (rest.drop (ln rest).2) (addl out (ln rest).1):=λh0=>keeps_add hkeep h0
   have hkn:out.length<40->∀ j,keeps b.length (rest.drop (ln rest).2) (out++[((ln rest).1.take j,((ln rest).1.drop (j+1),(((at':Nat):Int),())))]):=λh j=>keeps_new hkeep h (by omega) _ _ _
   have hval:∀ f∈out,f.2.1.length<=1100000:=λf hf=>by have:=hkeep.2 f hf;omega
   have h40:=hkeep.1
   simp only [iter,B29_0,nat_lt,nat_nn,hlt,hle,Int.le_refl,dTr,bAs,cTt,nCt,htk,e23,oBs]
   clear htk e23
   generalize ln rest=L at *
   obtain ⟨l,n⟩:=L
   simp only at *
   cases l with
   | nil =>
    have e24:=F53_eq out (by omega) hval
    simp only [List.length_nil,show decide (((0:Nat):Int)=0)=true from rfl,cTt,e24,oBs,hw,↓reduceIte]
    exact ⟨_,rfl,rfl,λq h=>by cases h⟩
   | cons c t =>
    have d1:decide ((((c::t).length:Nat):Int)=0)=false:=by rw [decide_eq_false_iff_not,List.length_cons];omega
    have d2:decide ((1024:Int)<(((c::t).length:Nat):Int))=decide (1024<(c::t).length):=by rw [decide_eq_decide];omega
    have d3:decide ((0:Int)<(((c::t).length:Nat):Int))=true:=by rw [dTe,List.length_cons];omega
    have d4:decide ((0:Int)<((out.length:Nat):Int))=decide (0<out.length):=by rw [decide_eq_decide];omega
    have hne:¬ ((c::t)=([]:List UInt8)):=by simp
    rw [if_neg hne]
    simp only [d1,d2,d3,d4,cFf,cTt,F54_eq,oBs]
    by_cases hlong:1024<(c::t).length
    ·simp only [hlong,dTr,cTt,↓reduceIte]
     exact ⟨_,rfl,rfl,λq h=>by cases h⟩
    ·simp only [hlong,decide_false,cFf,↓reduceIte]
     cases hbo:bl ((c::t).getD 0 0)&&decide (0<out.length)
     case true =>
      have h0:0<out.length:=by
       rw [bAt,dTe] at hbo
       exact hbo.2
      have hwl:=lastD h0 h40
      have hlt2:out.length-1<out.length:=by omega
      have hmem:out.getD (out.length-1) nof∈out:=by
       rw [List.getD_eq_getElem?_getD,List.getElem?_eq_getElem (by omega)]
       exact List.getElem_mem _
      have hfit:fits ((out.getD (out.length-1) nof).2.1.length+(c::t).length)=true:=by
       have:=hval _ hmem
       unfold fits;rw [dTe];omega
      have hfit':fits ((out.getD (out.length-1) (([]:List UInt8),(([]:List UInt8),((0:Int),())))).2.1.length+(c::t).length)=true:=hfit
      simp only [cTt,hwl,nat_nn,nat_lt,hlt2,dTr,bAs,nCt,hfit',oBs,hw,↓reduceIte]
      exact L29_iter b hb k K (at'+n) (rest.drop n) (addl out (c::t)) (by omega) hdrop (hka h0) hrest (by omega)
     case false =>
      have hif:=indexByte_fst 58 (c::t)
      simp only [cFf,List.isEmpty_cons,Bool.not_false,cTt,Bool.false_eq_true,↓reduceIte]
      rw [hif]
      cases hf:fst 58 (c::t) with
      | none =>
       simp only [show decide ((-1:Int)<0)=true from rfl,Bool.or_true,Bool.not_true,cTt,cFf]
       exact ⟨_,rfl,rfl,λq h=>by cases h⟩
      | some j =>
       have hj:=fst_lt 58 _ j hf
       have c1:decide ((j:Int)<0)=false:=by rw [decide_eq_false_iff_not];omega
       have c2:decide ((j:Int)<=(((c::t).length:Nat):Int))=true:=by rw [dTe];omega
       have c3:decide (((j+1:Nat):Int)<=(((c::t).length:Nat):Int))=true:=by rw [dTe];omega
       have e27:=F56_eq ((c::t).take j) (by rw [List.length_take];omega)
       simp only [nat_nn,c1,c2,bAs,Bool.true_or,Bool.not_false,cTt,nCt,e27,oBs]
       by_cases hrn:rn ((c::t).take j)=true
       ·by_cases h4:40<=out.length
        ·have:decide (((out.length:Nat):Int)=40)=true:=by rw [dTe];omega
         simp only [hrn,Bool.not_true,cFf,this,cTt,h4,↓reduceIte]
         exact ⟨_,rfl,rfl,λq h=>by cases h⟩
        ·have d40:decide (((out.length:Nat):Int)=40)=false:=by rw [decide_eq_false_iff_not];omega
         have hby:∀ x:Fld,bytesOK (out.length+([x]:List Fld).length) 40=true:=λx=>by
          unfold bytesOK;rw [dTe,List.length_singleton];omega
         have htl:List.take ((c::t).length-(j+1)) (List.drop (j+1) (c::t))=List.drop (j+1) (c::t):=List.take_of_length_le (by rw [List.length_drop];omega)
         simp only [hrn,Bool.not_true,cFf,cTt,d40,h4,↓reduceIte,w64_nat (show j<9223372036854775807 by omega),nat_nn,c3,bAs,nCt,htl,hby,oBs,hw]
         exact L29_iter b hb k K (at'+n) (rest.drop n) _ (by omega) hdrop (hkn (by omega) j) hrest (by omega)
       ·have hrn':=hrn
        rw [Bool.not_eq_true] at hrn'
        simp only [hrn',Bool.not_false,cTt,Bool.false_eq_true,↓reduceIte]
        exact ⟨_,rfl,rfl,λq h=>by cases h⟩
theorem F29_eq (b:List UInt8) (hb:b.length<=1100000):F29 ((b,()),())=some (split b,()):=by
 obtain ⟨r,h1,h2,h3⟩:=L29_iter b hb (b.length+1) FUEL 0 b [] (Nat.zero_le _) rfl ⟨Nat.zero_le _,λf hf=>by cases hf⟩ (by omega) (by unfold FUEL;omega)
 have h1':L29_0 ((b,(),(0:Int),()),(([]:List Fld),()))=some r:=h1
 unfold split
 rw [<- h2]
 simp only [F29,h1',oBs]
 cases r with
 | inl q =>
  obtain ⟨e1,e2⟩:=h3 q rfl
  obtain ⟨⟨q1,q2,q3⟩,q4,q5⟩:=q
  simp only at e1 e2
  subst e1
  have e24:=F53_eq q4 (Nat.le_trans e2.1 (by omega)) (λf hf=>by have:=e2.2 f hf;omega)
  simp only [oBs,e24,post10]
 | inr q=>simp only [oBs,post10]
abbrev R11:Type:=(((Unit×Int×Unit)×(List Fld×Unit))⊕((Unit×Int×Int×Unit)×(List Fld×Unit)))
def post11:R11->List Fld×Int×Int×Unit
 | .inl q=>(q.2.1.map trf,q.1.2.1,0,())
 | .inr q=>(q.2.1,q.1.2.1,q.1.2.2.1,())
theorem L57_iter (b:List UInt8) (hb:b.length<=1100000):∀ (k K at':Nat) (rest:List UInt8) (out:List Fld),at'<=b.length->b.drop at'=rest->keeps b.length rest out->rest.length<k->k<=K ->
  ∃ r:R11,iter B57_0 K ((b,(),(at':Int),()),(out,()))=some r/\post11 r=fin (spl k rest at' out)/\(∀ q,r=.inl q->keeps b.length [] q.2.1)
 | 0,_,_,_,_,_,_,_,h,_=>absurd h (Nat.not_lt_zero _)
 | k+1,0,_,_,_,_,_,_,_,h=>absurd h (by omega)
 | k+1,K+1,at',rest,out,hi,hd,hkeep,hk,hK=>by
  have hkeep0:keeps b.length [] out:=⟨hkeep.1,λf hf=>by have:=hkeep.2 f hf;simp only [List.length_nil];omega⟩
  by_cases hr:rest=[]
  ·subst hr
   have hl:b.length<=at':=List.drop_eq_nil_iff.mp hd
   obtain rfl:at'=b.length:=by omega
   refine ⟨.inl (((),(b.length:Int),()),(out,())),?_,?_,λq h=>by cases h;exact hkeep0⟩
   ·simp only [iter,B57_0,Int.lt_irrefl,decide_false,cFf]
   ·simp only [post11,spl,↓reduceIte,fin]
  ·have hlt:at'<b.length:=by
    rcases Nat.lt_or_ge at' b.length with h | h
    ·exact h
    ·rw [List.drop_eq_nil_iff.mpr h] at hd;exact absurd hd.symm hr
   have hlen:=congrArg List.length hd
   rw [List.length_drop] at hlen
   have e28:=F92_eq b at' hb hi
   rw [hd] at e28
   obtain ⟨n1,n2⟩:=ln_le rest
   have n3:1<=(ln rest).2:=by
    cases rest with
    | nil=>exact absurd rfl hr
    | cons a t=>exact ln_pos a t
   have hc1:decide (((at':Nat):Int)<=((at'+(ln rest).1.length:Nat):Int))=true:=by rw [dTe];omega
   have hc2:decide (((at'+(ln rest).1.length:Nat):Int)<=((b.length:Nat):Int))=true:=by rw [dTe];omega
   have htk:List.take (at'+(ln rest).1.length-at') (List.drop at' b)=(ln rest).1:=by
    rw [hd,Nat.add_sub_cancel_left];exact (ln_take rest).symm
   have hdrop:b.drop (at'+(ln rest).2)=rest.drop (ln rest).2:=by rw [<- List.drop_drop,hd]
   have hrest:(rest.drop (ln rest).2).length<k:=by rw [List.length_drop];omega
   unfold spl
   rw [if_neg hr]
   have hka:0<out.length->keeps b.length (rest.drop (ln rest).2) (addl out (ln rest).1):=λh0=>keeps_add hkeep h0
   have hkn:out.length<40->∀ j,keeps b.length (rest.drop (ln rest).2) (out++[((ln rest).1.take j,((ln rest).1.drop (j+1),(((at':Nat):Int),())))]):=λh j=>keeps_new hkeep h (by omega) _ _ _
   have hval:∀ f∈out,f.2.1.length<=1100000:=λf hf=>by have:=hkeep.2 f hf;omega
   have h40:=hkeep.1
   simp only [iter,B57_0,nat_lt,nat_nn,hlt,dTr,cTt,e28,oBs,hc1,hc2,bAs,nCt,htk]
   clear htk e28 hc1 hc2
   generalize ln rest=L at *
   obtain ⟨l,n⟩:=L
   simp only at *
   cases l with
   | nil =>
    simp only [List.length_nil,show decide (((0:Nat):Int)=0)=true from rfl,cTt,↓reduceIte]
    exact ⟨_,rfl,rfl,λq h=>by cases h;exact hkeep0⟩
   | cons c t =>
    have d1:decide ((((c::t).length:Nat):Int)=0)=false:=by rw [decide_eq_false_iff_not,List.length_cons];omega
    have d2:decide ((1024:Int)<(((c::t).length:Nat):Int))=decide (1024<(c::t).length):=by rw [decide_eq_decide];omega
    have d3:decide ((0:Int)<(((c::t).length:Nat):Int))=true:=by rw [dTe,List.length_cons];omega
    have d4:decide ((0:Int)<((out.length:Nat):Int))=decide (0<out.length):=by rw [decide_eq_decide];omega
    have hne:¬ ((c::t)=([]:List UInt8)):=by simp
    rw [if_neg hne]
    simp only [d1,d2,cFf]
    by_cases hlong:1024<(c::t).length
    ·simp only [hlong,dTr,cTt,↓reduceIte]
     exact ⟨_,rfl,rfl,λq h=>by cases h⟩
    ·simp only [hlong,decide_false,cFf,d3,d4,cTt,F93_eq,oBs,↓reduceIte]
     cases hbo:bl ((c::t).getD 0 0)&&decide (0<out.length)
     case true =>
      have h0:0<out.length:=by
       rw [bAt,dTe] at hbo
       exact hbo.2
      have hwl:=lastD h0 h40
      have hlt2:out.length-1<out.length:=by omega
      have hmem:out.getD (out.length-1) nof∈out:=by
       rw [List.getD_eq_getElem?_getD,List.getElem?_eq_getElem (by omega)]
       exact List.getElem_mem _
      have hfit:fits ((out.getD (out.length-1) nof).2.1.length+(c::t).length)=true:=by
       have:=hval _ hmem
       unfold fits;rw [dTe];omega
      have hfit':fits ((out.getD (out.length-1) (([]:List UInt8),(([]:List UInt8),((0:Int),())))).2.1.length+(c::t).length)=true:=hfit
      simp only [cTt,hwl,nat_nn,nat_lt,hlt2,dTr,bAs,nCt,hfit',oBs,↓reduceIte]
      exact L57_iter b hb k K (at'+n) (rest.drop n) (addl out (c::t)) (by omega) hdrop (hka h0) hrest (by omega)
     case false =>
      have e30:=F94_eq (c::t) (by omega)
      simp only [cFf,e30,oBs,Bool.false_eq_true,↓reduceIte]
      cases hf:fst 58 (c::t) with
      | none =>
       simp only [show decide ((-1:Int)<0)=true from rfl,Bool.or_true,Bool.not_true,cTt,cFf,oBs]
       exact ⟨_,rfl,rfl,λq h=>by cases h⟩
      | some j =>
       have hj:=fst_lt 58 _ j hf
       have c1:decide ((j:Int)<0)=false:=by rw [decide_eq_false_iff_not];omega
       have c2:decide ((j:Int)<=(((c::t).length:Nat):Int))=true:=by rw [dTe];omega
       have c3:decide (((j+1:Nat):Int)<=(((c::t).length:Nat):Int))=true:=by rw [dTe];omega
       have e31:=F39_eq ((c::t).take j) (by rw [List.length_take];omega)
       have d40:decide ((40:Int)<=((out.length:Nat):Int))=decide (40<=out.length):=by rw [decide_eq_decide];omega
       simp only [nat_nn,c1,c2,bAs,Bool.true_or,Bool.not_false,cTt,nCt,e31,oBs]
       by_cases hrn:rn ((c::t).take j)=true
       ·by_cases h4:40<=out.length
        ·simp only [hrn,Bool.not_true,cFf,d40,h4,dTr,cTt,oBs,↓reduceIte]
         exact ⟨_,rfl,rfl,λq h=>by cases h⟩
        ·have hby:∀ x:Fld,bytesOK (out.length+([x]:List Fld).length) 40=true:=λx=>by
          unfold bytesOK;rw [dTe,List.length_singleton];omega
         have htl:List.take ((c::t).length-(j+1)) (List.drop (j+1) (c::t))=List.drop (j+1) (c::t):=List.take_of_length_le (by rw [List.length_drop];omega)
         simp only [hrn,Bool.not_true,cFf,cTt,d40,h4,decide_false,↓reduceIte,w64_nat (show j<9223372036854775807 by omega),nat_nn,c3,Int.le_refl,dTr,bAs,nCt,htl,hby,oBs]
         exact L57_iter b hb k K (at'+n) (rest.drop n) _ (by omega) hdrop (hkn (by omega) j) hrest (by omega)
       ·have hrn':=hrn
        rw [Bool.not_eq_true] at hrn'
        simp only [hrn',Bool.not_false,cTt,Bool.false_eq_true,↓reduceIte,oBs]
        exact ⟨_,rfl,rfl,λq h=>by cases h⟩
theorem F57_eq (b:List UInt8) (hb:b.length<=1100000):F57 ((b,()),())=some (split b,()):=by
 obtain ⟨r,h1,h2,h3⟩:=L57_iter b hb (b.length+1) FUEL 0 b [] (Nat.zero_le _) rfl ⟨Nat.zero_le _,λf hf=>by cases hf⟩ (by omega) (by unfold FUEL;omega)
 have h1':L57_0 ((b,(),(0:Int),()),(([]:List Fld),()))=some r:=h1
 unfold split
 rw [<- h2]
 simp only [F57,h1',oBs]
 cases r with
 | inl q =>
  have e2:=h3 q rfl
  obtain ⟨⟨q1,q2,q3⟩,q4,q5⟩:=q
  simp only at e2
  have e:=L11b_eq q2 q4 (Nat.le_trans e2.1 (by omega)) (λf hf=>by have:=e2.2 f hf;omega)
  simp only [oBs,e,post11]
 | inr q=>simp only [oBs,post11]
end Go.Qh
