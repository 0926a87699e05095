/- Texts that the last one leans on, 10. -/
import Derived.Test.YtijhleakepbahaaGreatDoorZI
namespace Go.Qd
open Go Go.Ev Go.Qy
set_option maxRecDepth 100000
section
abbrev Ls:=List (List UInt8)
def peek (l:Ls) (a:Nat):List UInt8:=l.getD a []
def tk (f:List UInt8->Bool) (l:Ls) (a:Nat) (w:Int):List UInt8×Nat×Int :=
 if w=0/\peek l a≠[]/\f (peek l a)=true then (peek l a,a+1,0) else ([],a,if w=0 then (if a=l.length then 3 else 4) else w)
def isdig (c:List UInt8):Bool:=decide (c.length=1)&&decide (48<=(c.getD 0 0).toNat)&&decide ((c.getD 0 0).toNat<=57)
def dval (c:List UInt8):Int:=(((c.getD 0 0)-48).toNat:Int)
def nm (below:Int) (l:Ls):Nat->Int->Nat->Int->Int×Nat×Int
 | 0,v,a,w=>(v,a,w)
 | j+1,v,a,w =>
  let t:=tk (λc=>isdig c&&decide ((v*10+dval c)*10^j<below)) l a w
  nm below l j (if t.1=[] then v else v*10+dval t.1) t.2.1 t.2.2
def low1 (b:UInt8):UInt8:=if 65<=b.toNat/\b.toNat<=90 then b+32 else b
def low (s:List UInt8):List UInt8:=s.map low1
def hit (names:Ls) (k:Nat) (got:List UInt8):Option Nat:=names.findIdx? λx=>decide (x.length=k)&&decide (low x=low got)
def goes (names:Ls) (k:Nat) (got c:List UInt8):Bool:=names.any λx=>decide (k<x.length)&&decide (low (x.take k)=low got)&&decide (low ((x.drop k).take 1)=low c)
def wd (names l:Ls):Nat->Nat->List UInt8->Nat->Int->Int×Nat×Int
 | 0,_,_,a,w=>(0,a,w)
 | f+1,k,got,a,w =>
  match hit names k got with
  | some i=>((i:Int),a,w)
  | none =>
   let t:=tk (goes names k got) l a w
   if t.1=[] then (0,t.2.1,t.2.2) else wd names l f (k+1) (got++t.1) t.2.1 t.2.2
theorem tk_le (f:List UInt8->Bool) {l:Ls} {a:Nat} {w:Int} (h:a<=l.length):(tk f l a w).2.1<=l.length:=by
 unfold tk
 split
 ·next hc =>
  have:a<l.length:=by
   rcases Nat.lt_or_ge a l.length with h1 | h1
   ·exact h1
   ·exact absurd (by rw [peek,List.getD_eq_getElem?_getD,List.getElem?_eq_none h1];rfl) hc.2.1
  show a+1<=_
  omega
 ·exact h
end
section
theorem w64_id {n:Int} (h1:-9223372036854775808<=n) (h2:n<=9223372036854775807):w64 n=n:=by
 unfold w64 IntKind.wrap
 simp only [IntKind.bits,IntKind.signed]
 by_cases h:n % 2^64>=2^63
 ·simp;omega
 ·simp;omega
theorem tdiv_nn {a b:Int} (h:0<=a):Int.tdiv a b=a/b:=Int.tdiv_eq_ediv_of_nonneg h
theorem tmod_nn {a b:Int} (h:0<=a):Int.tmod a b=a % b:=Int.tmod_eq_emod_of_nonneg h
def leap (y:Int):Bool:=(decide (y % 4=0)&&!decide (y % 100=0))||decide (y % 400=0)
def long (y m:Int):Int :=
 if m=2 then (if leap y=true then 29 else 28) else if m=4\/m=6\/m=9\/m=11 then 30 else 31
def lp (y:Int):Int:=if leap y=true then 1 else 0
def cum (y m:Int):Int :=
 if m<=1 then 0 else if m<=2 then 31 else if m<=3 then 59+lp y else if m<=4 then 90+lp y else if m<=5 then 120+lp y else if m<=6 then 151+lp y
 else if m<=7 then 181+lp y else if m<=8 then 212+lp y else if m<=9 then 243+lp y else if m<=10 then 273+lp y else if m<=11 then 304+lp y else 334+lp y
def ahead (y:Int):Int:=365*(y-1)+(y-1)/4-(y-1)/100+(y-1)/400
def num (y m d:Int):Int:=ahead y-719162+cum y m+d-1
structure Valid (y m d:Int):Prop where
 y1:1<=y
 y2:y<=9999
 m1:1<=m
 m2:m<=12
 d1:1<=d
 d2:d<=long y m
theorem F126_eq {y m:Int} (hy:1<=y):F126 ((y,m,()),())=some (long y m,()):=by
 simp only [F126,tmod_nn (show (0:Int)<=y by omega)]
 unfold long leap
 by_cases h2:m=2
 ·subst h2
  cases h4:decide (y % 4=0) <;> cases h1:decide (y % 100=0) <;> cases h0:decide (y % 400=0) <;> simp
 ·have:decide (m=2)=false:=by simpa using h2
  simp only [h2,if_false]
  by_cases h4:m=4 <;> by_cases h6:m=6 <;> by_cases h9:m=9 <;> by_cases h11:m=11 <;> simp [h4,h6,h9,h11]
theorem F121_eq {y:Int} (hy:1<=y):F121 ((y,()),())=some (leap y,()):=by
 simp only [F121,tmod_nn (show (0:Int)<=y by omega),leap]
 cases h4:decide (y % 4=0) <;> cases h1:decide (y % 100=0) <;> cases h0:decide (y % 400=0) <;> rfl
theorem F75_eq {y m:Int} (hy:1<=y) (h1:1<=m) (h2:m<=12):F75 ((y,m,()),())=some (long y m,()):=by
 have hm:m=1\/m=2\/m=3\/m=4\/m=5\/m=6\/m=7\/m=8\/m=9\/m=10\/m=11\/m=12:=by omega
 simp only [F75,F121_eq hy,oBs]
 unfold long
 rcases hm with rfl | rfl | rfl | rfl | rfl | rfl | rfl | rfl | rfl | rfl | rfl | rfl
 all_goals first
  | (cases leap y <;> rfl)
  | rfl
theorem valid_iff {y m d:Int}:(decide (1<=y)&&decide (y<=9999)&&decide (1<=m)&&decide (m<=12)&&decide (1<=d))=true/\d<=long y m<->Valid y m d:=by
 simp only [bAt,dTe]
 exact ⟨λ⟨⟨⟨⟨⟨a,b⟩,c⟩,d⟩,e⟩,f⟩=>⟨a,b,c,d,e,f⟩,λ⟨a,b,c,d,e,f⟩=>⟨⟨⟨⟨⟨a,b⟩,c⟩,d⟩,e⟩,f⟩⟩
theorem F78_eq {y m d:Int}:∃ b,F78 (((y,m,d,()),()),())=some (b,())/\F37 (((y,m,d,()),()),())=some (b,())/\(b=true<->Valid y m d):=by
 simp only [F78,F37]
 cases hc:(decide (1<=y)&&decide (y<=9999)&&decide (1<=m)&&decide (m<=12)&&decide (1<=d)) with
 | false =>
  refine ⟨false,rfl,rfl,?_⟩
  rw [<- valid_iff,hc]
  simp
 | true =>
  have hc':=hc
  simp only [bAt,dTe] at hc'
  obtain ⟨⟨⟨⟨a,b⟩,c⟩,d'⟩,e⟩:=hc'
  refine ⟨decide (d<=long y m),by simp [F126_eq a],by simp [F75_eq a c d'],?_⟩
  rw [<- valid_iff,hc]
  simp
theorem long_le (y m:Int):long y m<=31:=by
 unfold long
 split
 ·split <;> omega
 ·split <;> omega
theorem F79_eq {a b:Int} (hb:0<b) (hb2:b<=1000000000) (ha:-1000000000000<=a) (ha2:a<=1000000000000):F79 ((a,b,()),())=some (a/b,()):=by
 have hne:decide (b≠0)=true:=by simp;omega
 simp only [F79,hne,cTt]
 have hq:a.tdiv b*b+a.tmod b=a:=by rw [Int.mul_comm];exact Int.mul_tdiv_add_tmod a b
 by_cases h0:0<=a
 ·have hm:decide (a.tmod b<0)=false:=by
   rw [tmod_nn h0]
   have:=Int.emod_nonneg a (show b≠0 by omega)
   simpa using this
  have:0<=a/b:=Int.ediv_nonneg h0 (by omega)
  have h3:a/b<=a:=Int.ediv_le_self b h0
  simp only [hm,cFf,oBs,tdiv_nn h0]
  rw [w64_id (by omega) (by omega)]
 ·have hneg:a<0:=by omega
  have hb1:=Int.emod_nonneg a (show b≠0 by omega)
  have hb3:=Int.emod_lt_of_pos a hb
  have hed:=Int.mul_ediv_add_emod a b
  by_cases hz:a.tmod b<0
  ·have hlt:-b<a.tmod b:=by
    have:=Int.lt_tmod_of_pos a hb
    exact this
   have hdiv:a/b=a.tdiv b-1:=by
    refine Int.le_antisymm ?_ ?_
    ·refine Int.le_sub_one_of_lt ?_
     rw [Int.ediv_lt_iff_lt_mul hb]
     omega
    ·rw [Int.le_ediv_iff_mul_le hb]
     rw [Int.sub_mul]
     omega
   have hr1:-1000000000000<=a.tdiv b:=by
    have h1:-a>=0:=by omega
    have:a.tdiv b=-((-a).tdiv b):=by rw [Int.neg_tdiv];omega
    rw [this,tdiv_nn h1]
    have:=Int.ediv_le_self b h1
    omega
   have hr2:a.tdiv b<=0:=by
    have h1:-a>=0:=by omega
    have:a.tdiv b=-((-a).tdiv b):=by rw [Int.neg_tdiv];omega
    rw [this,tdiv_nn h1]
    have:=Int.ediv_nonneg h1 (show 0<=b by omega)
    omega
   have hm:decide (a.tmod b<0)=true:=by simpa using hz
   simp only [hm,cTt,oBs]
   rw [w64_id (n:=a.tdiv b) (by omega) (by omega),w64_id (by omega) (by omega),hdiv]
  ·have hm:decide (a.tmod b<0)=false:=by simpa using hz
   have hz0:a.tmod b=0:=by
    have h1:-a>=0:=by omega
    have h2:a.tmod b=-((-a).tmod b):=by rw [Int.neg_tmod];omega
    rw [tmod_nn h1] at h2
    have:=Int.emod_nonneg (-a) (show b≠0 by omega)
    omega
   have hdiv:a/b=a.tdiv b:=by
    rw [hz0,Int.add_zero] at hq
    have h4:a/b=(a.tdiv b*b)/b:=by rw [hq]
    rw [h4,Int.mul_ediv_cancel _ (by omega)]
   have h1:-a>=0:=by omega
   have h5:a.tdiv b=-((-a).tdiv b):=by rw [Int.neg_tdiv];omega
   have h6:=Int.ediv_le_self b h1
   have h7:=Int.ediv_nonneg h1 (show 0<=b by omega)
   rw [<- tdiv_nn h1] at h6 h7
   simp only [hm,cFf,oBs]
   rw [w64_id (by omega) (by omega),hdiv]
end
section
theorem lp_spec (y:Int):(lp y=1/\((y % 4=0/\¬ y % 100=0)\/y % 400=0))\/(lp y=0/\¬ ((y % 4=0/\¬ y % 100=0)\/y % 400=0)):=by
 unfold lp leap
 by_cases h:((decide (y % 4=0)&&!decide (y % 100=0))||decide (y % 400=0))=true
 ·left
  rw [if_pos h]
  simpa using h
 ·right
  rw [if_neg h]
  simpa using h
theorem F37_bad {y m d:Int} (h:¬ Valid y m d):F43 (((y,m,d,()),()),())=some ((0,2,()),()):=by
 obtain ⟨b,h1,_,h3⟩:=@F78_eq y m d
 have hb:b=false:=by cases b <;> simp_all
 simp only [F43,h1,hb,oBs,Bool.not_false,cTt]
theorem F33_bad {y m d:Int} (h:¬ Valid y m d):F63 (((y,m,d,()),()),())=some ((0,2,()),()):=by
 obtain ⟨b,_,h1,h3⟩:=@F78_eq y m d
 have hb:b=false:=by cases b <;> simp_all
 simp only [F63,h1,hb,oBs,Bool.not_false,cTt]
theorem cum_hi {y m:Int} (h:3<=m) (h2:m<=12):cum y m=59+lp y+(153*(m-3)+2)/5:=by
 have hm:m=3\/m=4\/m=5\/m=6\/m=7\/m=8\/m=9\/m=10\/m=11\/m=12:=by omega
 rcases hm with rfl | rfl | rfl | rfl | rfl | rfl | rfl | rfl | rfl | rfl <;> simp [cum] <;> omega
theorem cum_lo {y m:Int} (h:1<=m) (h2:m<3):cum y m=(153*(m+9)+2)/5-306:=by
 have hm:m=1\/m=2:=by omega
 rcases hm with rfl | rfl <;> simp [cum]
theorem F43_eq {y m d:Int} (h:Valid y m d):F43 (((y,m,d,()),()),())=some ((num y m d,0,()),()):=by
 obtain ⟨b,h1,_,h3⟩:=@F78_eq y m d
 have hb:b=true:=h3.2 h
 have hd:=long_le y m
 obtain ⟨a1,a2,a3,a4,a5,a6⟩:=h
 have hl:=lp_spec y
 simp only [F43,h1,hb,oBs,Bool.not_true,cFf]
 rw [w64_id (n:=m-3) (by omega) (by omega)]
 by_cases h3:m-3<0
 ·have hc:decide (m-3<0)=true:=by simpa using h3
  simp only [hc,cTt,oBs]
  rw [w64_id (n:=y-1) (by omega) (by omega),F79_eq (by omega) (by omega) (by omega) (by omega)]
  simp only [oBs]
  congr 3
  simp (disch:=omega) only [w64_id,tdiv_nn]
  unfold num ahead
  rw [cum_lo a3 (by omega)]
  omega
 ·have hc:decide (m-3<0)=false:=by simpa using h3
  simp only [hc,cFf,oBs]
  rw [F79_eq (by omega) (by omega) (by omega) (by omega)]
  simp only [oBs]
  congr 3
  simp (disch:=omega) only [w64_id,tdiv_nn]
  unfold num ahead
  rw [cum_hi (by omega) a4]
  omega
end
section
theorem F110_eq {y:Int} (h:1<=y) (h2:y<=20000):F110 ((y,()),())=some (ahead y,()):=by
 simp only [F110]
 congr 2
 simp (disch:=omega) only [w64_id,tdiv_nn]
 unfold ahead
 omega
theorem long_eq (y m:Int):(m=2->long y m=28+lp y)/\(m=4\/m=6\/m=9\/m=11->long y m=30)/\(¬ (m=2\/m=4\/m=6\/m=9\/m=11)->long y m=31):=by
 unfold long lp
 refine ⟨λh=>?_,λh=>?_,λh=>?_⟩
 ·subst h;cases leap y <;> rfl
 ·rw [if_neg (by omega),if_pos h]
 ·rw [if_neg (by omega),if_neg (by omega)]
theorem cum_step {y m:Int} (h:1<=m) (h2:m<=11):cum y (m+1)=cum y m+long y m:=by
 have hm:m=1\/m=2\/m=3\/m=4\/m=5\/m=6\/m=7\/m=8\/m=9\/m=10\/m=11:=by omega
 rcases hm with rfl | rfl | rfl | rfl | rfl | rfl | rfl | rfl | rfl | rfl | rfl <;> simp [cum,long,lp] <;> (cases leap y <;> simp)
theorem cum_bd {y m:Int} (h:1<=m) (h2:m<=12):0<=cum y m/\cum y m<=335:=by
 have:=lp_spec y
 have hm:m=1\/m=2\/m=3\/m=4\/m=5\/m=6\/m=7\/m=8\/m=9\/m=10\/m=11\/m=12:=by omega
 rcases hm with rfl | rfl | rfl | rfl | rfl | rfl | rfl | rfl | rfl | rfl | rfl | rfl <;> simp [cum] <;> omega
theorem long_ge (y m:Int):28<=long y m:=by
 unfold long
 split
 ·split <;> omega
 ·split <;> omega
theorem L63_eq {y m d:Int} (h:Valid y m d):L63_0 (((),ahead y-719162,1,()),(y,m,d,()),())=some (((),ahead y-719162+cum y m,()),(y,m,d,()),()):=by
 obtain ⟨a1,a2,a3,a4,a5,a6⟩:=h
 have hah:0<=ahead y/\ahead y<=10000000:=by unfold ahead;omega
 obtain ⟨r,h1,h2⟩:=loop_ind (f:=B63_0) (λp=>∃ i,1<=i/\i<=m/\p=(((),ahead y-719162+cum y i,i,()),(y,m,d,()),())) (λp=>(m-p.1.2.2.1).toNat) (λr=>r=(((),ahead y-719162+cum y m,()),(y,m,d,()),()))
  (λp ⟨i,hi,him,hp⟩=>by
   subst hp
   have hb:=@cum_bd y i hi (by omega)
   have hl:=long_le y i
   have hl2:=long_ge y i
   by_cases hlt:i<m
   ·left
    refine ⟨_,by simp only [B63_0,hlt,dTr,cTt,F75_eq a1 hi (show i<=12 by omega),oBs];exact rfl,⟨i+1,by omega,by omega,?_⟩,?_⟩
    ·simp (disch:=omega) only [w64_id,cum_step hi (show i<=11 by omega)]
     rw [Int.add_assoc]
    ·simp (disch:=omega) only [w64_id]
     omega
   ·right
    have:i=m:=by omega
    subst this
    exact ⟨_,by simp only [B63_0,hlt,decide_false,cFf],rfl⟩) (p:=(((),ahead y-719162,1,()),(y,m,d,()),())) ⟨1,by omega,by omega,by simp [cum]⟩ (by unfold FUEL;simp only;omega)
 rw [h2] at h1
 exact h1
theorem F63_eq {y m d:Int} (h:Valid y m d):F63 (((y,m,d,()),()),())=some ((num y m d,0,()),()):=by
 obtain ⟨b,_,h1,h3⟩:=@F78_eq y m d
 have hb:b=true:=h3.2 h
 have hd:=long_le y m
 have hL:=L63_eq h
 obtain ⟨a1,a2,a3,a4,a5,a6⟩:=h
 have hah:0<=ahead y/\ahead y<=10000000:=by unfold ahead;omega
 have hcum:=@cum_bd y m a3 a4
 have h1970:ahead 1970=719162:=by decide
 simp only [F63,h1,hb,oBs,Bool.not_true,cFf,F110_eq a1 (show y<=20000 by omega),F110_eq (show (1:Int)<=1970 by omega) (show (1970:Int)<=20000 by omega),h1970]
 rw [w64_id (n:=ahead y-719162) (by omega) (by omega),hL]
 simp only [oBs]
 congr 3
 simp (disch:=omega) only [w64_id]
 unfold num
 omega
end
section
def chk (doe:Nat):Bool :=
 let yoe:=(doe-doe/1460+doe/36524-doe/146096)/365
 let s:=365*yoe+yoe/4-yoe/100
 Nat.ble s doe&&Nat.ble yoe 399&&(Nat.ble (doe-s) 364||(Nat.beq (doe-s) 365&&((Nat.beq ((yoe+1) % 4) 0&&!Nat.beq ((yoe+1) % 100) 0)||Nat.beq ((yoe+1) % 400) 0)))
def all2 (f:Nat->Bool):Nat->Nat->Bool
 | 0,lo=>f lo
 | k+1,lo=>all2 f k lo&&all2 f k (lo+2^k)
theorem all2_ok {f:Nat->Bool}:∀ (k lo:Nat),all2 f k lo=true->∀ i,lo<=i->i<lo+2^k->f i=true
 | 0,lo,h,i,h1,h2=>by
  have:i=lo:=by omega
  subst this;exact h
 | k+1,lo,h,i,h1,h2=>by
  simp only [all2,bAt] at h
  have hp:2^(k+1)=2^k+2^k:=by rw [Nat.pow_succ];omega
  rcases Nat.lt_or_ge i (lo+2^k) with hi | hi
  ·exact all2_ok k lo h.1 i h1 hi
  ·exact all2_ok k (lo+2^k) h.2 i hi (by omega)
def chk' (doe:Nat):Bool:=Nat.ble 146097 doe||chk doe
theorem era_all:all2 chk' 18 0=true:=by kernel_rfl
theorem era_nat {doe:Nat} (h:doe<=146096):chk doe=true:=by
 have:=all2_ok 18 0 era_all doe (Nat.zero_le _) (by omega)
 unfold chk' at this
 have hb:Nat.ble 146097 doe=false:=by
  cases hh:Nat.ble 146097 doe with
  | false=>rfl
  | true=>have:=Nat.le_of_ble_eq_true hh;omega
 simpa [hb] using this
theorem era {doe:Int} (h:0<=doe) (h2:doe<=146096) {yoe:Int} (hy:yoe=(doe-doe/1460+doe/36524-doe/146096)/365) :
  0<=yoe/\yoe<=399/\0<=doe-(365*yoe+yoe/4-yoe/100) /\
  (doe-(365*yoe+yoe/4-yoe/100)<=364\/(doe-(365*yoe+yoe/4-yoe/100)=365/\(((yoe+1) % 4=0/\¬ (yoe+1) % 100=0)\/(yoe+1) % 400=0))):=by
 obtain ⟨n,rfl⟩:∃ n:Nat,doe=(n:Int):=⟨doe.toNat,by omega⟩
 have hc:=era_nat (doe:=n) (by omega)
 unfold chk at hc
 simp only [bAt,Bool.or_eq_true,Bool.not_eq_true'] at hc
 obtain ⟨⟨a1,a2⟩,a3⟩:=hc
 have a1:=Nat.le_of_ble_eq_true a1
 have a2:=Nat.le_of_ble_eq_true a2
 generalize hyn:(n-n/1460+n/36524-n/146096)/365=yn at a1 a2 a3
 have hyy:yoe=(yn:Int):=by omega
 subst hyy
 refine ⟨by omega,by omega,by omega,?_⟩
 rcases a3 with a3 | ⟨a3,a4⟩
 ·left;have a3:=Nat.le_of_ble_eq_true a3;omega
 ·right
  have a3:=Nat.eq_of_beq_eq_true a3
  refine ⟨by omega,?_⟩
  rcases a4 with ⟨a4,a5⟩ | a4
  ·left
   have a4:=Nat.eq_of_beq_eq_true a4
   have a5:¬ (yn+1) % 100=0:=λe=>by rw [e] at a5;cases a5
   omega
  ·right
   have a4:=Nat.eq_of_beq_eq_true a4
   omega
end
section
theorem F200_eq:F200 ((),())=some ((-719162,2932896,()),()):=by kernel_rfl
theorem ahead_next (y:Int):ahead (y+1)=ahead y+365+lp y:=by
 have:=lp_spec y
 unfold ahead
 omega
theorem ahead_era {yoe era:Int} (h:0<=yoe) (h2:yoe<=399):ahead (yoe+400*era+1)=146097*era+(365*yoe+yoe/4-yoe/100):=by
 unfold ahead
 omega
theorem num_hi {yoe era doy mp d:Int} (h:0<=yoe) (h2:yoe<=399) (hd:doy-(153*mp+2)/5+1=d) (h3:0<=mp) (h4:mp<=9) :
  num (yoe+400*era) (mp+3) d=era*146097+(365*yoe+yoe/4-yoe/100)+doy-719468:=by
 have h5:=ahead_next (yoe+400*era)
 rw [ahead_era h h2] at h5
 unfold num
 rw [cum_hi (by omega) (by omega),Int.add_sub_cancel]
 generalize (365*yoe+yoe/4-yoe/100)=a at *
 generalize (153*mp+2)/5=b at *
 omega
theorem num_lo {yoe era doy mp d:Int} (h:0<=yoe) (h2:yoe<=399) (hd:doy-(153*mp+2)/5+1=d) (h3:10<=mp) (h4:mp<=11) :
  num (yoe+400*era+1) (mp+3-12) d=era*146097+(365*yoe+yoe/4-yoe/100)+doy-719468:=by
 have h5:=ahead_era (yoe:=yoe) (era:=era) h h2
 unfold num
 rw [cum_lo (by omega) (by omega),h5,show mp+3-12+9=mp by omega]
 generalize (365*yoe+yoe/4-yoe/100)=a at *
 generalize (153*mp+2)/5=b at *
 omega
theorem day_hi {y doy mp d:Int} (h:0<=doy) (h2:doy<=365) (hmp:(5*doy+2)/153=mp) (hd:doy-(153*mp+2)/5+1=d) (h4:mp<=9):1<=d/\d<=long y (mp+3):=by
 have hm:mp=0\/mp=1\/mp=2\/mp=3\/mp=4\/mp=5\/mp=6\/mp=7\/mp=8\/mp=9:=by omega
 obtain ⟨l1,l2,l3⟩:=long_eq y (mp+3)
 rcases hm with rfl | rfl | rfl | rfl | rfl | rfl | rfl | rfl | rfl | rfl <;> first
  | (rw [l3 (by omega)];omega)
  | (rw [l2 (by omega)];omega)
theorem day_lo {y doy mp d:Int} (h:0<=doy) (h2:doy<=365) (h5:doy<=364\/lp y=1) (hmp:(5*doy+2)/153=mp) (hd:doy-(153*mp+2)/5+1=d) (h4:10<=mp):mp<=11/\1<=d/\d<=long y (mp+3-12):=by
 have hm:mp=10\/mp=11:=by omega
 obtain ⟨l1,l2,l3⟩:=long_eq y (mp+3-12)
 have hl:=lp_spec y
 have hl':0<=lp y:=by rcases hl with h | h <;> omega
 clear hl
 rcases hm with rfl | rfl
 ·rw [l3 (by omega)];omega
 ·rw [l1 (by omega)];omega
theorem F155_eq {n:Int} (h:-719162<=n) (h2:n<=2932896):∃ y m d,Valid y m d/\num y m d=n/\F155 ((n,()),())=some (((y,m,d,()),0,()),()):=by
 have hc:(decide (n < -719162)||decide (2932896<n))=false:=by
  rw [Bool.or_eq_false_iff]
  constructor <;> simp <;> omega
 unfold F155
 rw [F200_eq,oBs]
 simp only [hc,cFf]
 generalize hz:n+719468=z
 rw [w64_id (n:=z) (by omega) (by omega),F79_eq (by omega) (by omega) (by omega) (by omega),oBs]
 generalize hera:z/146097=era
 generalize hdoe:z-era*146097=doe
 have hd0:0<=doe:=by omega
 have hd1:doe<=146096:=by omega
 have e1:w64 (z-w64 (era*146097))=doe:=by
  rw [w64_id (n:=era*146097) (by omega) (by omega),w64_id (by omega) (by omega),hdoe]
 simp only [e1]
 generalize hyoe:(doe-doe/1460+doe/36524-doe/146096)/365=yoe
 have e2:w64 (Int.tdiv (w64 (w64 (w64 (doe-w64 (Int.tdiv doe 1460))+w64 (Int.tdiv doe 36524))-w64 (Int.tdiv doe 146096))) 365)=yoe:=by
  simp (disch:=omega) only [w64_id,tdiv_nn]
  exact hyoe
 obtain ⟨y0,y1,y2,y3⟩:=Go.Qd.era hd0 hd1 hyoe.symm
 generalize hdoy:doe-(365*yoe+yoe/4-yoe/100)=doy at y2 y3
 have e3:w64 (doe-w64 (w64 (w64 (365*yoe)+w64 (Int.tdiv yoe 4))-w64 (Int.tdiv yoe 100)))=doy:=by
  simp (disch:=omega) only [w64_id,tdiv_nn]
  exact hdoy
 have hdoy1:doy<=365:=by omega
 generalize hmp:(5*doy+2)/153=mp
 have e4:w64 (Int.tdiv (w64 (w64 (5*doy)+2)) 153)=mp:=by
  simp (disch:=omega) only [w64_id,tdiv_nn]
  exact hmp
 generalize hd:doy-(153*mp+2)/5+1=d
 have e5:w64 (w64 (doy-w64 (Int.tdiv (w64 (w64 (153*mp)+2)) 5))+1)=d:=by
  simp (disch:=omega) only [w64_id,tdiv_nn]
  exact hd
 rw [e2,oBs]
 simp only [e3]
 rw [oBs]
 simp only [e4]
 rw [oBs]
 simp only [e5]
 have e6:w64 (mp+3)=mp+3:=w64_id (by omega) (by omega)
 have e7:w64 (yoe+w64 (400*era))=yoe+400*era:=by
  rw [w64_id (n:=400*era) (by omega) (by omega),w64_id (by omega) (by omega)]
 rw [e6,e7,oBs,oBs]
 have hn:n=era*146097+(365*yoe+yoe/4-yoe/100)+doy-719468:=by
  generalize (365*yoe+yoe/4-yoe/100)=a at *
  omega
 have hera0:0<=era:=by omega
 have hera1:era<=24:=by omega
 have hmp0:0<=mp:=by omega
 have hmp1:mp<=11:=by omega
 have hy9:-719162<=n/\n<=2932896:=⟨h,h2⟩
 clear e1 e2 e3 e4 e5 hyoe hdoy hdoe hera hz
 have hlast:era=24->365*yoe+yoe/4-yoe/100+doy<=146036:=by omega
 by_cases h12:12<mp+3
 ·have hc2:decide (12<mp+3)=true:=by simpa using h12
  have hl:=lp_spec (yoe+400*era+1)
  have hlp:doy<=364\/lp (yoe+400*era+1)=1:=by
   rcases y3 with y3 | ⟨_,y3⟩
   ·exact .inl y3
   ·right
    rcases hl with hl | ⟨_,hl⟩
    ·exact hl.1
    ·exfalso;omega
  obtain ⟨k1,k2,k3⟩:=day_lo (y:=yoe+400*era+1) y2 hdoy1 hlp hmp hd (by omega)
  have hyy:yoe+400*era+1<=9999:=by
   by_cases he:era=24
   ·have:=hlast he
    subst he
    clear hl hlp hn hlast y3
    omega
   ·omega
  simp only [hc2,cTt,oBs]
  refine ⟨yoe+400*era+1,mp+3-12,d,⟨by omega,hyy,by omega,by omega,k2,k3⟩,?_,?_⟩
  ·rw [num_lo y0 y1 hd (by omega) k1,hn]
  ·rw [w64_id (n:=yoe+400*era+1) (by omega) (by omega),w64_id (n:=mp+3-12) (by omega) (by omega)]
 ·have hc2:decide (12<mp+3)=false:=by simpa using h12
  obtain ⟨k2,k3⟩:=day_hi (y:=yoe+400*era) y2 hdoy1 hmp hd (by omega)
  have hy1:1<=yoe+400*era:=by
   by_cases he:era=0
   ·subst he
    have:306<=(365*yoe+yoe/4-yoe/100)+doy:=by omega
    clear hn hlast y3
    by_cases hy:yoe=0
    ·subst hy
     simp at this
     omega
    ·omega
   ·omega
  have hyy:yoe+400*era<=9999:=by omega
  simp only [hc2,cFf,oBs]
  refine ⟨yoe+400*era,mp+3,d,⟨hy1,hyy,by omega,by omega,k2,k3⟩,?_,rfl⟩
  rw [num_hi y0 y1 hd hmp0 (by omega),hn]
end
section
theorem ahead_mono {a b:Int} (h:a<=b):ahead a<=ahead b:=by
 unfold ahead;omega
theorem cum_mono (y:Int) {a:Int} (h:1<=a):∀ k:Nat,a+k<=12->cum y a<=cum y (a+k)
 | 0,_=>by simp
 | k+1,h2=>by
  have h3:=cum_mono y h k (by omega)
  have h4:=@cum_step y (a+k) (by omega) (by omega)
  have h5:=long_ge y (a+k)
  have h6:a+((k+1:Nat):Int)=a+k+1:=by omega
  rw [h6,h4]
  omega
theorem cum_mono' (y:Int) {a b:Int} (h:1<=a) (h2:a<=b) (h3:b<=12):cum y a<=cum y b:=by
 have:=cum_mono y h (b-a).toNat (by omega)
 rwa [show a+((b-a).toNat:Int)=b by omega] at this
theorem L11a {k y y0:Int} (h0:1<=y0) (h1:y0<=y) (h2:y<=9999) (h3:ahead y<=k) (h4:k<ahead (y+1)):L109_0 (((),k,y0,()),(0,0,0,()),())=some (((),k,y,()),(0,0,0,()),()):=by
 obtain ⟨r,e1,e2⟩:=loop_ind (f:=B109_0) (λp=>∃ y',1<=y'/\y'<=y/\p=(((),k,y',()),(0,0,0,()),())) (λp=>(y-p.1.2.2.1).toNat) (λr=>r=(((),k,y,()),(0,0,0,()),()))
  (λp ⟨y',hy1,hy2,hp⟩=>by
   subst hp
   have e1:w64 (y'+1)=y'+1:=w64_id (by omega) (by omega)
   by_cases hlt:y'<y
   ·left
    have hle:ahead (y'+1)<=k:=Int.le_trans (ahead_mono (by omega)) h3
    refine ⟨_,by simp only [B109_0,e1,F110_eq (show 1<=y'+1 by omega) (show y'+1<=20000 by omega),oBs,hle,dTr,cTt] <;> rfl,⟨y'+1,by omega,by omega,rfl⟩,?_⟩
    simp only
    omega
   ·right
    have:y'=y:=by omega
    subst this
    have hnle:¬ ahead (y'+1)<=k:=by omega
    exact ⟨_,by simp only [B109_0,e1,F110_eq (show 1<=y'+1 by omega) (show y'+1<=20000 by omega),oBs,hnle,decide_false,cFf] <;> rfl,rfl⟩)
  (p:=(((),k,y0,()),(0,0,0,()),())) ⟨y0,h0,h1,rfl⟩ (by unfold FUEL;simp only;omega)
 rw [e2] at e1
 exact e1
theorem L11b {y m d:Int} (h:Valid y m d):L109_1 (((),cum y m+d-1,y,1,()),(0,0,0,()),())=some (((),d-1,y,m,()),(0,0,0,()),()):=by
 obtain ⟨a1,a2,a3,a4,a5,a6⟩:=h
 have hl31:=long_le y m
 obtain ⟨r,e1,e2⟩:=loop_ind (f:=B109_1) (λp=>∃ i,1<=i/\i<=m/\p=(((),cum y m-cum y i+d-1,y,i,()),(0,0,0,()),())) (λp=>(m-p.1.2.2.2.1).toNat) (λr=>r=(((),d-1,y,m,()),(0,0,0,()),()))
  (λp ⟨i,hi1,hi2,hp⟩=>by
   subst hp
   have hb:=@cum_bd y i hi1 (by omega)
   have hb2:=@cum_bd y m a3 a4
   have hl:=long_le y i
   have hl2:=long_ge y i
   by_cases hlt:i<m
   ·left
    have hs:=@cum_step y i hi1 (by omega)
    have hm:=cum_mono' y (a:=i+1) (b:=m) (by omega) (by omega) a4
    have hle:long y i<=cum y m-cum y i+d-1:=by omega
    refine ⟨_,by simp only [B109_1,F75_eq a1 hi1 (show i<=12 by omega),oBs,hle,dTr,cTt] <;> rfl,⟨i+1,by omega,by omega,?_⟩,?_⟩
    ·rw [w64_id (by omega) (by omega),w64_id (by omega) (by omega),hs]
     congr 3
     omega
    ·rw [w64_id (n:=i+1) (by omega) (by omega)]
     simp only
     omega
   ·right
    have:i=m:=by omega
    subst this
    have hnle:¬ long y i<=cum y i-cum y i+d-1:=by omega
    refine ⟨_,by simp only [B109_1,F75_eq a1 hi1 (show i<=12 by omega),oBs,hnle,decide_false,cFf] <;> rfl,?_⟩
    rw [Int.sub_self,Int.zero_add])
  (p:=(((),cum y m+d-1,y,1,()),(0,0,0,()),())) ⟨1,by omega,by omega,by simp [cum]⟩ (by unfold FUEL;simp only;omega)
 rw [e2] at e1
 exact e1
theorem ahead_1970:ahead 1970=719162:=by decide
theorem ahead_10000:ahead 10000=3652059:=by decide
theorem F66_out {n:Int} (h:n < -719162\/2932896<n):F109 ((n,()),())=some (((0,0,0,()),2,()),()):=by
 simp only [F109,F110_eq (show (1:Int)<=1970 by omega) (show (1970:Int)<=20000 by omega),F110_eq (show (1:Int)<=10000 by omega) (show (10000:Int)<=20000 by omega),oBs,ahead_1970,ahead_10000]
 rw [w64_id (n:=0-719162) (by omega) (by omega),w64_id (n:=3652059-719162) (by omega) (by omega),w64_id (n:=3652059-719162-1) (by omega) (by omega)]
 have hc:(decide (n<0-719162)||decide (3652059-719162-1<n))=true:=by
  simp only [Bool.or_eq_true,dTe];omega
 rw [hc,cTt]
theorem F109_eq {y m d n:Int} (h:Valid y m d) (hn:num y m d=n):F109 ((n,()),())=some (((y,m,d,()),0,()),()):=by
 have hb:=L11b h
 obtain ⟨a1,a2,a3,a4,a5,a6⟩:=h
 have hcum:=@cum_bd y m a3 a4
 have hl31:=long_le y m
 have hah:0<=ahead y/\ahead y<=3651694:=by unfold ahead;omega
 unfold num at hn
 have hnext:=ahead_next y
 have hyear:cum y m+d-1<365+lp y:=by
  by_cases h12:m=12
  ·subst h12
   have:cum y 12=334+lp y:=by simp [cum]
   omega
  ·have h1:=@cum_step y m a3 (by omega)
   have h2:=cum_mono' y (a:=m+1) (b:=12) (by omega) (by omega) (by omega)
   have:cum y 12=334+lp y:=by simp [cum]
   omega
 have hlp:=lp_spec y
 have hlp1:lp y<=1:=by rcases hlp with h | h <;> omega
 have h366:ahead (y+1)<=366*y:=by unfold ahead;omega
 clear hlp
 have htop:ahead (y+1)<=3652059:=by
  have:=ahead_mono (a:=y+1) (b:=10000) (by omega)
  rw [ahead_10000] at this
  exact this
 simp only [F109,F110_eq (show (1:Int)<=1970 by omega) (show (1970:Int)<=20000 by omega),F110_eq (show (1:Int)<=10000 by omega) (show (10000:Int)<=20000 by omega),oBs,ahead_1970,ahead_10000]
 rw [w64_id (n:=0-719162) (by omega) (by omega),w64_id (n:=3652059-719162) (by omega) (by omega),w64_id (n:=3652059-719162-1) (by omega) (by omega)]
 have hc:(decide (n<0-719162)||decide (3652059-719162-1<n))=false:=by
  rw [Bool.or_eq_false_iff];constructor <;> simp <;> omega
 rw [hc,cFf,w64_id (n:=n-(0-719162)) (by omega) (by omega)]
 generalize hk:n-(0-719162)=k
 rw [tdiv_nn (by omega),w64_id (n:=k/366) (by omega) (by omega),w64_id (n:=k/366+1) (by omega) (by omega),L11a (y:=y) (by omega) (by omega) a2 (by omega) (by omega)]
 simp only [oBs,F110_eq a1 (show y<=20000 by omega)]
 rw [w64_id (n:=k-ahead y) (by omega) (by omega),show k-ahead y=cum y m+d-1 by omega,hb]
 simp only [oBs]
 rw [w64_id (by omega) (by omega),show d-1+1=d by omega]
end
section
theorem week_eq (n:Int):∃ k,F214 ((n,()),())=some (k,())/\F107 ((n,()),())=some (k,())/\0<=k/\k<=6/\(n+3-k) % 7=0:=by
 have h1:-7<n.tmod 7:=Int.lt_tmod_of_pos n (by omega)
 have h2:n.tmod 7<7:=Int.tmod_lt_of_pos n (by omega)
 have h3:(n-n.tmod 7) % 7=0:=by
  have:=Int.mul_tdiv_add_tmod n 7
  omega
 generalize hr:n.tmod 7=r at *
 simp only [F214,F107,hr]
 have hr':r=-6\/r=-5\/r=-4\/r=-3\/r=-2\/r=-1\/r=0\/r=1\/r=2\/r=3\/r=4\/r=5\/r=6:=by omega
 clear hr
 rcases hr' with rfl | rfl | rfl | rfl | rfl | rfl | rfl | rfl | rfl | rfl | rfl | rfl | rfl
 ·exact ⟨4,rfl,rfl,by omega,by omega,by omega⟩
 ·exact ⟨5,rfl,rfl,by omega,by omega,by omega⟩
 ·exact ⟨6,rfl,rfl,by omega,by omega,by omega⟩
 ·exact ⟨0,rfl,rfl,by omega,by omega,by omega⟩
 ·exact ⟨1,rfl,rfl,by omega,by omega,by omega⟩
 ·exact ⟨2,rfl,rfl,by omega,by omega,by omega⟩
 ·exact ⟨3,rfl,rfl,by omega,by omega,by omega⟩
 ·exact ⟨4,rfl,rfl,by omega,by omega,by omega⟩
 ·exact ⟨5,rfl,rfl,by omega,by omega,by omega⟩
 ·exact ⟨6,rfl,rfl,by omega,by omega,by omega⟩
 ·exact ⟨0,rfl,rfl,by omega,by omega,by omega⟩
 ·exact ⟨1,rfl,rfl,by omega,by omega,by omega⟩
 ·exact ⟨2,rfl,rfl,by omega,by omega,by omega⟩
theorem days (y m d:Int):(Valid y m d/\F43 (((y,m,d,()),()),())=some ((num y m d,0,()),())/\F63 (((y,m,d,()),()),())=some ((num y m d,0,()),())) \/
  (¬ Valid y m d/\F43 (((y,m,d,()),()),())=some ((0,2,()),())/\F63 (((y,m,d,()),()),())=some ((0,2,()),())):=by
 by_cases h:Valid y m d
 ·exact .inl ⟨h,F43_eq h,F63_eq h⟩
 ·exact .inr ⟨h,F37_bad h,F33_bad h⟩
end
section
theorem F37_eq {y m d:Int}:∃ b,F37 (((y,m,d,()),()),())=some (b,())/\(b=true<->Valid y m d):=by
 obtain ⟨b,_,h2,h3⟩:=@F78_eq y m d
 exact ⟨b,h2,h3⟩
end
section
theorem fits_true {n:Nat} (h:n<=1000):fits n=true:=by
 unfold fits
 simp
 omega
end
section
theorem floor_eq {t q:Int} (hq:q=t.tdiv 86400):(t<q*86400->q-1=t/86400)/\(¬ t<q*86400->q=t/86400):=by
 by_cases h:0<=t
 ·rw [tdiv_nn h] at hq
  omega
 ·have h1:0<=-t:=by omega
  have h2:t.tdiv 86400=-((-t)/86400):=by
   rw [<- tdiv_nn h1,Int.neg_tdiv];omega
  rw [h2] at hq
  omega
theorem civil_err (n:Int):∃ y m d e,F109 ((n,()),())=some (((y,m,d,()),e,()),())/\decide (e=0)=(decide (-719162<=n)&&decide (n<=2932896)):=by
 by_cases h:-719162<=n/\n<=2932896
 ·obtain ⟨y,m,d,h1,h2,_⟩:=F155_eq h.1 h.2
  refine ⟨y,m,d,0,F109_eq h1 h2,?_⟩
  simp [h.1,h.2]
 ·have:n < -719162\/2932896<n:=by omega
  refine ⟨0,0,0,2,F66_out this,?_⟩
  rcases this with h | h
  ·have:decide (-719162<=n)=false:=by simpa using h
   rw [this];rfl
  ·have:decide (n<=2932896)=false:=by simpa using h
   rw [this,Bool.and_false];rfl
theorem F51_in {s z:Int} (h1:-1439<=z) (h2:z<=1439) (h3:-100000000000<=s) (h4:s<=1000000000000) :
  F108 (((s,z,()),()),())=some (((s+60*z)/86400,s+60*z-(s+60*z)/86400*86400,decide (-719162<=(s+60*z)/86400)&&decide ((s+60*z)/86400<=2932896),()),()):=by
 have hc:(decide (z < -1439)||decide (1439<z)||decide (s < -100000000000)||decide (1000000000000<s))=false:=by
  simp only [Bool.or_eq_false_iff,decide_eq_false_iff_not];omega
 simp only [F108,hc,cFf]
 rw [w64_id (n:=60*z) (by omega) (by omega),w64_id (n:=s+60*z) (by omega) (by omega)]
 generalize ht:s+60*z=t
 have ht1:-100000100000<=t:=by omega
 have ht2:t<=1000000100000:=by omega
 obtain ⟨f1,f2⟩:=floor_eq (t:=t) rfl
 generalize hq:t.tdiv 86400=q at f1 f2
 generalize hd:t/86400=day at f1 f2
 have hqb:-100000000<=q/\q<=100000000:=by
  by_cases h:t<q*86400
  ·have:=f1 h;omega
  ·have:=f2 h;omega
 rw [w64_id (n:=q) (by omega) (by omega),oBs]
 simp only []
 rw [w64_id (n:=q*86400) (by omega) (by omega),oBs]
 obtain ⟨y,m,d,e,e1,e2⟩:=civil_err day
 by_cases h:t<q*86400
 ·have hc2:decide (t<q*86400)=true:=by simpa using h
  simp only [hc2,cTt,oBs]
  rw [w64_id (n:=q-1) (by omega) (by omega),f1 h,e1,oBs]
  simp only [e2]
  rw [w64_id (n:=86400*day) (by omega) (by omega),w64_id (by omega) (by omega),Int.mul_comm 86400 day]
 ·have hc2:decide (t<q*86400)=false:=by simpa using h
  simp only [hc2,cFf,oBs]
  rw [f2 h,e1,oBs]
  simp only [e2]
  rw [w64_id (n:=86400*day) (by omega) (by omega),w64_id (by omega) (by omega),Int.mul_comm 86400 day]
theorem there (s z:Int):(∃ day rest y m d,F154 (((s,z,()),()),())=some ((day,rest,true,()),())/\F108 (((s,z,()),()),())=some ((day,rest,true,()),())/\Valid y m d/\F155 ((day,()),())=some (((y,m,d,()),0,()),())/\F109 ((day,()),())=some (((y,m,d,()),0,()),())) \/
  (∃ a b c d,F154 (((s,z,()),()),())=some ((a,b,false,()),())/\F108 (((s,z,()),()),())=some ((c,d,false,()),())):=by
 have w1:w64 (w64 (-719162-2)*86400)=-62135769600:=by decide
 have w2:w64 (w64 (2932896+2)*86400)=253402387200:=by decide
 by_cases hz:z < -1439\/1439<z
 ·right
  have hc:(decide (z < -1439)||decide (1439<z))=true:=by simpa using hz
  exact ⟨0,0,0,0,by simp only [F154,F200_eq,oBs,hc,Bool.true_or,cTt],by simp only [F108,hc,Bool.true_or,cTt]⟩
 ·have hz1:-1439<=z:=by omega
  have hz2:z<=1439:=by omega
  by_cases hs:s < -62135769600\/253402387200<s
  ·right
   have hc:(decide (z < -1439)||decide (1439<z)||decide (s < -62135769600)||decide (253402387200<s))=true:=by
    simp only [Bool.or_eq_true,dTe];omega
   have e30:F154 (((s,z,()),()),())=some ((0,0,false,()),()):=by
    simp only [F154,F200_eq,oBs,w1,w2,hc,cTt]
   by_cases hs2:s < -100000000000\/1000000000000<s
   ·have hc:(decide (z < -1439)||decide (1439<z)||decide (s < -100000000000)||decide (1000000000000<s))=true:=by
     simp only [Bool.or_eq_true,dTe];omega
    exact ⟨0,0,0,0,e30,by simp only [F108,hc,cTt]⟩
   ·have e37:=F51_in hz1 hz2 (s:=s) (by omega) (by omega)
    have hf:(decide (-719162<=(s+60*z)/86400)&&decide ((s+60*z)/86400<=2932896))=false:=by
     rw [Bool.and_eq_false_iff]
     rcases hs with hs | hs
     ·left;simp;omega
     ·right;simp;omega
    rw [hf] at e37
    exact ⟨0,0,_,_,e30,e37⟩
  ·have e37:=F51_in hz1 hz2 (s:=s) (by omega) (by omega)
   have hc:(decide (z < -1439)||decide (1439<z)||decide (s < -62135769600)||decide (253402387200<s))=false:=by
    simp only [Bool.or_eq_false_iff,decide_eq_false_iff_not];omega
   have e30:F154 (((s,z,()),()),())=some (((s+60*z)/86400,s+60*z-(s+60*z)/86400*86400,decide (-719162<=(s+60*z)/86400)&&decide ((s+60*z)/86400<=2932896),()),()):=by
    simp only [F154,F200_eq,oBs,w1,w2,hc,cFf]
    rw [w64_id (n:=60*z) (by omega) (by omega),w64_id (n:=s+60*z) (by omega) (by omega),F79_eq (by omega) (by omega) (by omega) (by omega),oBs]
    simp only []
    generalize ht:s+60*z=t
    have ht1:-62135869600<=t:=by omega
    have ht2:t<=253402487200:=by omega
    rw [w64_id (n:=t/86400*86400) (by omega) (by omega),w64_id (n:=t-t/86400*86400) (by omega) (by omega)]
   by_cases hd:-719162<=(s+60*z)/86400/\(s+60*z)/86400<=2932896
   ·left
    have hf:(decide (-719162<=(s+60*z)/86400)&&decide ((s+60*z)/86400<=2932896))=true:=by simpa using hd
    rw [hf] at e30 e37
    obtain ⟨y,m,d,h1,h2,h3⟩:=F155_eq hd.1 hd.2
    exact ⟨_,_,y,m,d,e30,e37,h1,h3,F109_eq h1 h2⟩
   ·right
    have hf:(decide (-719162<=(s+60*z)/86400)&&decide ((s+60*z)/86400<=2932896))=false:=by
     rw [Bool.and_eq_false_iff]
     by_cases h:-719162<=(s+60*z)/86400
     ·right;simp;omega
     ·left;simp;omega
    rw [hf] at e30 e37
    exact ⟨_,_,_,_,e30,e37⟩
end
section
variable {l:Ls} {a:Nat} {w y m d s z k:Int}
theorem F178_eq (l:Ls) (a:Nat) (w y m d s z k:Int):F178 (((),()),((l,(a:Int),w,y,m,d,s,z,k,()),()))=some (peek l a,((l,(a:Int),w,y,m,d,s,z,k,()),())):=by
 have d0:decide ((0:Int)<=(a:Int))=true:=by simp
 by_cases h:a<l.length
 ·have d1:decide ((a:Int)<((l.length:Nat):Int))=true:=by simp;omega
  simp only [F178,d0,d1,bAs,cTt,nCt,peek]
 ·have d1:decide ((a:Int)<((l.length:Nat):Int))=false:=by simp;omega
  simp only [F178,d1,cFf,peek]
  rw [List.getD_eq_getElem?_getD,List.getElem?_eq_none (by omega)]
  rfl
def stopw (l:Ls) (a:Nat) (w:Int):Int:=if w=0 then (if a=l.length then 3 else 4) else w
theorem F232_eq (l:Ls) (a:Nat) (w y m d s z k:Int):F232 (((),()),((l,(a:Int),w,y,m,d,s,z,k,()),()))=some ((),((l,(a:Int),stopw l a w,y,m,d,s,z,k,()),())):=by
 unfold stopw
 by_cases h:w=0
 ·subst h
  by_cases h1:a=l.length
  ·have d1:decide ((a:Int)=((l.length:Nat):Int))=true:=by simp;omega
   simp only [F232,dTr,d1,cTt,if_pos h1,if_true]
  ·have d1:decide ((a:Int)=((l.length:Nat):Int))=false:=by simp;omega
   simp only [F232,dTr,d1,cTt,cFf,if_neg h1,if_true]
 ·have d1:decide (w=0)=false:=by simpa using h
  simp only [F232,d1,cFf,if_neg h]
theorem tk_yes {f:List UInt8->Bool} (h:w=0) (h1:peek l a≠[]) (h2:f (peek l a)=true):tk f l a w=(peek l a,a+1,0):=by
 unfold tk;rw [if_pos ⟨h,h1,h2⟩]
theorem tk_no {f:List UInt8->Bool} (h:¬ (w=0/\peek l a≠[]/\f (peek l a)=true)):tk f l a w=([],a,stopw l a w):=by
 unfold tk;rw [if_neg h];rfl
theorem F181_eq (hl:l.length<=2000000) (ha:a<=l.length) (c:List UInt8) :
  F181 (((),c,()),((l,(a:Int),w,y,m,d,s,z,k,()),()))=some ((),((l,((tk (λx=>decide (x=c)) l a w).2.1:Int),(tk (λx=>decide (x=c)) l a w).2.2,y,m,d,s,z,k,()),())):=by
 have wa:w64 ((a:Int)+1)=((a+1:Nat):Int):=by rw [w64_id (by omega) (by omega)];rfl
 by_cases h:w=0/\peek l a≠[]
 ·obtain ⟨rfl,hne⟩:=h
  have c3:decide (peek l a=[])=false:=by simpa using hne
  by_cases h2:peek l a=c
  ·rw [tk_yes rfl hne (by simpa using h2)]
   have c2:decide (peek l a=c)=true:=by simpa using h2
   simp only [F181,F178_eq,oBs,dTr,Bool.not_true,Bool.false_or,c3,Bool.not_false,cTt,c2,cFf,wa]
  ·rw [tk_no (λhh=>h2 (by simpa using hh.2.2))]
   have c2:decide (peek l a=c)=false:=by simpa using h2
   simp only [F181,F178_eq,oBs,dTr,Bool.not_true,Bool.false_or,c3,Bool.not_false,cTt,c2,F232_eq]
 ·have c1:(!((!decide (w=0))||decide (peek l a=[])))=false:=by
   by_cases h1:w=0
   ·have:peek l a=[]:=Classical.byContradiction λh2=>h ⟨h1,h2⟩
    simp [h1,this]
   ·simp [h1]
  rw [tk_no (λhh=>h ⟨hh.1,hh.2.1⟩)]
  simp only [F181,F178_eq,oBs,c1,cFf,F232_eq]
theorem F177_eq (c:List UInt8):F177 ((c,()),())=some (isdig c,()):=by
 by_cases h:c.length=1
 ·have d1:decide (((c.length:Nat):Int)=1)=true:=by simp;omega
  have d2:decide ((0:Int)<((c.length:Nat):Int))=true:=by simp;omega
  have d3:decide (c.length=1)=true:=by simpa using h
  simp only [F177,d1,d2,Bool.true_or,cTt,isdig,d3,Bool.true_and]
  rfl
 ·have d1:decide (((c.length:Nat):Int)=1)=false:=by simp;omega
  have d3:decide (c.length=1)=false:=by simpa using h
  simp only [F177,d1,Bool.not_false,Bool.or_true,Bool.false_and,cTt,isdig,d3]
theorem isdig_val {c:List UInt8} (h:isdig c=true):c≠[]/\0<=dval c/\dval c<=9:=by
 simp only [isdig,bAt,dTe] at h
 refine ⟨λh1=>by rw [h1] at h;simp at h,?_⟩
 unfold dval
 generalize c.getD 0 0=b at h ⊢
 have h1:(48:UInt8)<=b:=by rw [UInt8.le_iff_toNat_le];exact h.1.2
 have:(b-48).toNat=b.toNat-48:=UInt8.toNat_sub_of_le _ _ h1
 omega
end
section
variable {l:Ls} {a:Nat} {w y m d s z q:Int}
theorem scale_eq (n k b v x1 x2 x3 x4 x5 x6 x7 x8:Int) (l:Ls) {j:Nat} (hj:j<=3):L183_1 (((),n,(),(),(),n,k,(j:Int),0,()),((l,x1,x2,x3,x4,x5,x6,x7,x8,()),(b,()),(v,()),(1,()),())) =
  some (((),n,(),(),(),n,k,()),((l,x1,x2,x3,x4,x5,x6,x7,x8,()),(b,()),(v,()),((10:Int)^j,()),())):=by
 have h:j=0\/j=1\/j=2\/j=3:=by omega
 rcases h with rfl | rfl | rfl | rfl
 ·show L183_1 _=_
  kernel_rfl
 ·show L183_1 _=_
  kernel_rfl
 ·show L183_1 _=_
  kernel_rfl
 ·show L183_1 _=_
  kernel_rfl
theorem F212_eq {c:List UInt8} {v b:Int} {j:Nat} (hj:j<=3) (hv:0<=v) (hv2:v<=1000):F212 ((c,(),(),(),()),((v,()),((10:Int)^j,()),(b,()),())) =
  some (isdig c&&decide ((v*10+dval c)*10^j<b),((v,()),((10:Int)^j,()),(b,()),())):=by
 have hp:(10:Int)^j=1\/(10:Int)^j=10\/(10:Int)^j=100\/(10:Int)^j=1000:=by
  have h:j=0\/j=1\/j=2\/j=3:=by omega
  rcases h with rfl | rfl | rfl | rfl <;> simp
 simp only [F212,F177_eq,oBs]
 cases hd:isdig c with
 | false=>simp only [Bool.not_false,Bool.or_true,cTt,Bool.false_and]
 | true =>
  obtain ⟨h1,h2,h3⟩:=isdig_val hd
  have d1:decide ((0:Int)<((c.length:Nat):Int))=true:=by
   have:0<c.length:=List.length_pos_iff.2 h1
   simpa using this
  have hdv:((UInt8.toNat (c.getD 0 0-48):Nat):Int)=dval c:=rfl
  rw [hdv,w64_id (n:=v*10) (by omega) (by omega),w64_id (n:=v*10+dval c) (by omega) (by omega)]
  have hm:w64 ((v*10+dval c)*(10:Int)^j)=(v*10+dval c)*10^j:=by
   rcases hp with h | h | h | h <;> rw [h] <;> exact w64_id (by omega) (by omega)
  simp only [d1,hm,Bool.true_or,cTt]
theorem b49_step {n k j:Nat} {v b:Int} (hl:l.length<=2000000) (ha:a<=l.length) (hn:n<=4) (hk:k<n) (hj:n=k+1+j) (hv:0<=v) (hv2:v<=1000) :
  B183_0 (((),(n:Int),(),(),(n:Int),(k:Int),()),((l,(a:Int),w,y,m,d,s,z,q,()),(b,()),(v,()),())) =
  some (Sum.inl (((),(n:Int),(),(),(n:Int),((k+1:Nat):Int),()),((l,((tk (λc=>isdig c&&decide ((v*10+dval c)*10^j<b)) l a w).2.1:Int),(tk (λc=>isdig c&&decide ((v*10+dval c)*10^j<b)) l a w).2.2,y,m,d,s,z,q,()),(b,()),
   (if (tk (λc=>isdig c&&decide ((v*10+dval c)*10^j<b)) l a w).1=[] then v else v*10+dval (tk (λc=>isdig c&&decide ((v*10+dval c)*10^j<b)) l a w).1,()),()))):=by
 have wa:w64 ((a:Int)+1)=((a+1:Nat):Int):=by rw [w64_id (by omega) (by omega)];rfl
 have wk:w64 ((k:Int)+1)=((k+1:Nat):Int):=by rw [w64_id (by omega) (by omega)];rfl
 have w1:w64 ((n:Int)-1)=(n:Int)-1:=w64_id (by omega) (by omega)
 have w2:w64 ((n:Int)-1-k)=(j:Int):=by rw [w64_id (by omega) (by omega)];omega
 have c0:decide ((k:Int)<(n:Int))=true:=by simp;omega
 by_cases h:w=0/\peek l a≠[]
 ·obtain ⟨rfl,hne⟩:=h
  have c3:decide (peek l a=[])=false:=by simpa using hne
  by_cases h2:(isdig (peek l a)&&decide ((v*10+dval (peek l a))*10^j<b))=true
  ·rw [tk_yes rfl hne h2]
   have hd:isdig (peek l a)=true:=by rw [bAt] at h2;exact h2.1
   obtain ⟨_,hd2,hd3⟩:=isdig_val hd
   have d1:decide ((0:Int)<(((peek l a).length:Nat):Int))=true:=by
    have:0<(peek l a).length:=List.length_pos_iff.2 hne
    simpa using this
   have hdv:((UInt8.toNat ((peek l a).getD 0 0-48):Nat):Int)=dval (peek l a):=rfl
   have w3:w64 (v*10)=v*10:=w64_id (by omega) (by omega)
   have w4:w64 (v*10+dval (peek l a))=v*10+dval (peek l a):=w64_id (by omega) (by omega)
   simp only [B183_0,c0,cTt,w1,w2,scale_eq _ _ _ _ _ _ _ _ _ _ _ _ l (show j<=3 by omega),oBs,F178_eq,dTr,Bool.false_or,F212_eq (show j<=3 by omega) hv hv2,h2,Bool.not_true,cFf,c3,Bool.not_false,d1,wa,wk,hdv,w3,w4,if_neg hne]
  ·have h2':(isdig (peek l a)&&decide ((v*10+dval (peek l a))*10^j<b))=false:=by simpa using h2
   rw [tk_no (λhh=>h2 hh.2.2)]
   simp only [B183_0,c0,cTt,w1,w2,scale_eq _ _ _ _ _ _ _ _ _ _ _ _ l (show j<=3 by omega),oBs,F178_eq,dTr,Bool.not_true,Bool.false_or,c3,F212_eq (show j<=3 by omega) hv hv2,h2',Bool.not_false,cTt,F232_eq,wk,if_true]
 ·have c1:(!((!decide (w=0))||decide (peek l a=[])))=false:=by
   by_cases h1:w=0
   ·have:peek l a=[]:=Classical.byContradiction λh2=>h ⟨h1,h2⟩
    simp [h1,this]
   ·simp [h1]
  rw [tk_no (λhh=>h ⟨hh.1,hh.2.1⟩)]
  simp only [B183_0,c0,cTt,w1,w2,scale_eq _ _ _ _ _ _ _ _ _ _ _ _ l (show j<=3 by omega),oBs,F178_eq,c1,cFf,F232_eq,wk,if_true]
theorem tk_val {f:List UInt8->Bool} (h:(tk f l a w).1≠[]):f (tk f l a w).1=true:=by
 unfold tk at h ⊢
 split
 ·next hc=>exact hc.2.2
 ·next hc=>rw [if_neg hc] at h;exact absurd rfl h
theorem F183_eq {n:Nat} {b:Int} (hn:n<=4) (hl:l.length<=2000000) (ha:a<=l.length):F183 (((),(n:Int),b,()),((l,(a:Int),w,y,m,d,s,z,q,()),())) =
  some ((nm b l n 0 a w).1,((l,((nm b l n 0 a w).2.1:Int),(nm b l n 0 a w).2.2,y,m,d,s,z,q,()),()))/\(nm b l n 0 a w).2.1<=l.length:=by
 obtain ⟨r,h1,h2,h3⟩:=loop_ind (f:=B183_0) (λp=>∃ (k j a':Nat) (w' v:Int),p=(((),(n:Int),(),(),(n:Int),(k:Int),()),((l,(a':Int),w',y,m,d,s,z,q,()),(b,()),(v,()),()))/\n=k+j/\a'<=l.length /\
   0<=v/\v<10^k/\nm b l j v a' w'=nm b l n 0 a w) (λp=>((n:Int)-p.1.2.2.2.2.2.1).toNat)
  (λr=>r=(((),(),()),((l,((nm b l n 0 a w).2.1:Int),(nm b l n 0 a w).2.2,y,m,d,s,z,q,()),((nm b l n 0 a w).1,()),()))/\(nm b l n 0 a w).2.1<=l.length)
  (λp ⟨k,j,a',w',v,hp,hk,ha',hv,hv2,hnm⟩=>by
   subst hp
   cases j with
   | zero =>
    right
    have c0:decide ((k:Int)<(n:Int))=false:=by simp;omega
    rw [<- hnm]
    exact ⟨_,by simp only [B183_0,c0,cFf] <;> rfl,rfl,ha'⟩
   | succ j =>
    left
    have hv3:v<=1000:=by
     have h:k=0\/k=1\/k=2\/k=3:=by omega
     rcases h with rfl | rfl | rfl | rfl <;> simp at hv2 <;> omega
    refine ⟨_,b49_step (k:=k) (j:=j) hl ha' hn (by omega) (by omega) hv hv3,⟨k+1,j,_,_,_,rfl,(by omega:n=k+1+j),tk_le _ ha',?_,?_,by rw [<- hnm];rfl⟩,by simp only;omega⟩
    ·split
     ·exact hv
     ·next hc =>
      have:=tk_val hc
      rw [bAt] at this
      have:=(isdig_val this.1).2.1
      omega
    ·rw [Int.pow_succ]
     split
     ·omega
     ·next hc =>
      have:=tk_val hc
      rw [bAt] at this
      have:=(isdig_val this.1).2.2
      omega)
  (p:=(((),(n:Int),(),(),(n:Int),0,()),((l,(a:Int),w,y,m,d,s,z,q,()),(b,()),(0,()),()))) ⟨0,n,a,w,0,rfl,by omega,ha,by omega,by simp,rfl⟩ (by unfold FUEL;simp only;omega)
 subst h2
 refine ⟨?_,h3⟩
 have h1':L183_0 (((),(n:Int),(),(),(n:Int),0,()),((l,(a:Int),w,y,m,d,s,z,q,()),(b,()),(0,()),()))=some (((),(),()),((l,((nm b l n 0 a w).2.1:Int),(nm b l n 0 a w).2.2,y,m,d,s,z,q,()),((nm b l n 0 a w).1,()),())):=h1
 simp only [F183,h1',oBs]
end
section
theorem getD_lt {s:List UInt8} {i:Nat} (h:i<s.length):s.getD i 0=s[i]:=by
 rw [List.getD_eq_getElem?_getD,List.getElem?_eq_getElem h];rfl
theorem getD_ltL {s:Ls} {i:Nat} (h:i<s.length):s.getD i []=s[i]:=by
 rw [List.getD_eq_getElem?_getD,List.getElem?_eq_getElem h];rfl
theorem take_snoc {α:Type} {l:List α} {n:Nat} (h:n<l.length) (d:α):l.take (n+1)=l.take n++[l.getD n d]:=by
 rw [List.take_add_one,List.getD_eq_getElem?_getD,List.getElem?_eq_getElem h];rfl
theorem getD_mid {α:Type} {a b:List α} {c d:α} {i:Nat} (h:i=a.length):(a++c::b).getD i d=c:=by
 subst h
 simp [List.getD_eq_getElem?_getD]
theorem F88_eq {s:List UInt8} (hs:s.length<=500):F88 ((s,()),())=some (low s,()):=by
 obtain ⟨r,h1,h2⟩:=loop_ind (f:=B88_0) (λp=>∃ (i:Nat),p=(((),(),(s.length:Int),(i:Int),()),(low (s.take i)++s.drop i,()))/\i<=s.length) (λp=>((s.length:Int)-p.1.2.2.2.1).toNat) (λr=>r=(((),()),(low s,())))
  (λp ⟨i,hp,hi⟩=>by
   subst hp
   by_cases hlt:i<s.length
   ·left
    have hll:(low (s.take i)).length=i:=by simp [low];omega
    have c1:decide ((i:Int)<((s.length:Nat):Int))=true:=by simp;omega
    have c2:decide ((0:Int)<=(i:Int))=true:=by simp
    have c4:decide ((i:Int)<(((low (s.take i)++s.drop i).length:Nat):Int))=true:=by
     simp only [List.length_append,List.length_drop,hll,dTe];omega
    have wi:w64 ((i:Int)+1)=((i+1:Nat):Int):=by rw [w64_id (by omega) (by omega)];rfl
    have hd:s.drop i=s.getD i 0::s.drop (i+1):=by rw [List.drop_eq_getElem_cons hlt,getD_lt hlt]
    have hg:(low (s.take i)++s.drop i).getD i 0=s.getD i 0:=by
     rw [hd];exact getD_mid hll.symm
    have hset:∀ x,(low (s.take i)++s.drop i).set i x=low (s.take i)++x::s.drop (i+1):=λx=>by
     rw [hd,List.set_append_right _ _ (by omega),hll,Nat.sub_self];rfl
    have hls:low (s.take (i+1))++s.drop (i+1)=low (s.take i)++low1 (s.getD i 0)::s.drop (i+1):=by
     rw [take_snoc hlt 0];simp [low]
    refine ⟨(((),(),(s.length:Int),((i+1:Nat):Int),()),(low (s.take (i+1))++s.drop (i+1),())),?_,⟨i+1,rfl,by omega⟩,by simp only;omega⟩
    rw [hls]
    unfold low1
    by_cases hc:65<=(s.getD i 0).toNat/\(s.getD i 0).toNat<=90
    ·have c3:(decide (UInt8.toNat (65:UInt8)<=(s.getD i 0).toNat)&&decide ((s.getD i 0).toNat<=UInt8.toNat (90:UInt8)))=true:=by
      simpa using hc
     simp only [B88_0,c1,c2,c4,bAs,cTt,oBs,nCt,hg,c3,wi,if_pos hc,hset]
    ·have c3:(decide (UInt8.toNat (65:UInt8)<=(s.getD i 0).toNat)&&decide ((s.getD i 0).toNat<=UInt8.toNat (90:UInt8)))=false:=by
      rw [<- Bool.decide_and,decide_eq_false_iff_not];exact hc
     simp only [B88_0,c1,c2,c4,bAs,cTt,cFf,oBs,nCt,hg,c3,wi,if_neg hc]
     rw [<- hd]
   ·right
    have c1:decide ((i:Int)<((s.length:Nat):Int))=false:=by simp;omega
    exact ⟨_,by simp only [B88_0,c1,cFf] <;> rfl,by rw [List.take_of_length_le (by omega),List.drop_of_length_le (by omega),List.append_nil]⟩)
  (p:=(((),(),(s.length:Int),0,()),(s,()))) ⟨0,rfl,Nat.zero_le _⟩ (by unfold FUEL;simp only;omega)
 subst h2
 have h1':L88_0 (((),(),(s.length:Int),0,()),(s,()))=some (((),()),(low s,())):=h1
 simp only [F88,h1',oBs]
theorem F86_eq {s t:List UInt8} (hs:s.length<=500) (ht:t.length<=500):F86 ((s,t,()),())=some (decide (low s=low t),()):=by
 simp only [F86,F88_eq hs,F88_eq ht,oBs]
structure Nms (names:Ls):Prop where
 len:names.length<=100
 each:∀ x∈names,x.length<=3
theorem F210_eq {names:Ls} (hN:Nms names) {k:Nat} (hk:k<=10) {got c:List UInt8} (hg:got.length<=400) (hc:c.length<=400) :
  F210 ((c,(),(),(),()),((names,()),((k:Int),()),(got,()),()))=some (goes names k got c,((names,()),((k:Int),()),(got,()),())):=by
 have wk:w64 ((k:Int)+1)=((k+1:Nat):Int):=by rw [w64_id (by omega) (by omega)];rfl
 obtain ⟨r,h1,h2⟩:=loop_ind (f:=B210_0) (λp=>∃ (i:Nat),p=((c,(),(),(),names,(names.length:Int),(i:Int),()),((names,()),((k:Int),()),(got,()),()))/\i<=names.length/\goes (names.drop i) k got c=goes names k got c)
  (λp=>((names.length:Int)-p.1.2.2.2.2.2.2.1).toNat)
  (λr=>r=if goes names k got c then Sum.inr (((),(),(),(),()),((names,()),((k:Int),()),(got,()),())) else Sum.inl (((),(),(),()),((names,()),((k:Int),()),(got,()),())))
  (λp ⟨i,hp,hi,hG⟩=>by
   subst hp
   by_cases hlt:i<names.length
   ·have c1:decide ((i:Int)<((names.length:Nat):Int))=true:=by simp;omega
    have c2:decide ((0:Int)<=(i:Int))=true:=by simp
    have c3:decide ((0:Int)<=(k:Int))=true:=by simp
    have wi:w64 ((i:Int)+1)=((i+1:Nat):Int):=by have:=hN.len;rw [w64_id (by omega) (by omega)];rfl
    have hmem:names.getD i []∈names:=by rw [getD_ltL hlt];exact List.getElem_mem hlt
    have hxl:=hN.each _ hmem
    have hd:names.drop i=names.getD i []::names.drop (i+1):=by rw [List.drop_eq_getElem_cons hlt,getD_ltL hlt]
    rw [hd] at hG
    have go:(decide (k<(names.getD i []).length)&&decide (low ((names.getD i []).take k)=low got)&&decide (low (((names.getD i []).drop k).take 1)=low c))=goes [names.getD i []] k got c:=by simp [goes]
    have gs:goes (names.getD i []::names.drop (i+1)) k got c=(goes [names.getD i []] k got c||goes (names.drop (i+1)) k got c):=by simp [goes]
    rw [gs] at hG
    have c4:decide ((0:Int)<=((k:Nat):Int))=true:=by simp
    by_cases hkx:k<(names.getD i []).length
    ·have c5:decide ((k:Int)<(((names.getD i []).length:Nat):Int))=true:=dTt (by omega)
     have c6:decide ((k:Int)<=(((names.getD i []).length:Nat):Int))=true:=dTt (by omega)
     have c7:decide ((k:Int)<=((k+1:Nat):Int))=true:=dTt (by omega)
     have c8:decide (((k+1:Nat):Int)<=(((names.getD i []).length:Nat):Int))=true:=dTt (by omega)
     have e1:=F86_eq (s:=(names.getD i []).take k) (t:=got) (by rw [List.length_take];omega) (by omega)
     have e2:=F86_eq (s:=((names.getD i []).drop k).take 1) (t:=c) (by rw [List.length_take,List.length_drop];omega) (by omega)
     have e3:k+1-k=1:=by omega
     have c9:decide (k<(names.getD i []).length)=true:=dTt hkx
     rw [c9,Bool.true_and] at go
     cases hA:decide (low ((names.getD i []).take k)=low got) with
     | true =>
      rw [hA,Bool.true_and] at go
      cases hB:decide (low (((names.getD i []).drop k).take 1)=low c) with
      | true =>
       right
       rw [hB] at go
       rw [<- go,Bool.true_or] at hG
       rw [<- hG]
       refine ⟨_,?_,rfl⟩
       simp only [B210_0,nCt,c1,c2,c4,c5,c6,wk,c7,c8,e1,e2,e3,hA,hB,bAs,Bool.true_or,cTt,oBs,if_true]
      | false =>
       left
       rw [hB] at go
       rw [<- go,Bool.false_or] at hG
       refine ⟨_,?_,⟨i+1,rfl,by omega,hG⟩,by simp only;omega⟩
       simp only [B210_0,nCt,c1,c2,c4,c5,c6,wk,c7,c8,e1,e2,e3,hA,hB,bAs,Bool.true_or,cTt,cFf,oBs,wi]
     | false =>
      left
      rw [hA,Bool.false_and] at go
      rw [<- go,Bool.false_or] at hG
      refine ⟨_,?_,⟨i+1,rfl,by omega,hG⟩,by simp only;omega⟩
      simp only [B210_0,nCt,c1,c2,c4,c5,c6,e1,hA,bAs,Bool.true_or,Bool.not_false,Bool.or_true,cTt,cFf,oBs,wi]
    ·left
     have c5:decide ((k:Int)<(((names.getD i []).length:Nat):Int))=false:=dFf (by omega)
     have c9:decide (k<(names.getD i []).length)=false:=dFf hkx
     rw [c9,Bool.false_and,Bool.false_and] at go
     rw [<- go,Bool.false_or] at hG
     refine ⟨_,?_,⟨i+1,rfl,by omega,hG⟩,by simp only;omega⟩
     simp only [B210_0,nCt,c1,c2,c5,bAs,Bool.not_false,Bool.or_true,cTt,cFf,oBs,wi]
   ·right
    have c1:decide ((i:Int)<((names.length:Nat):Int))=false:=dFf (by omega)
    have hf:goes names k got c=false:=by
     rw [<- hG,List.drop_of_length_le (by omega)];rfl
    rw [hf]
    exact ⟨_,by simp only [B210_0,c1,cFf] <;> rfl,rfl⟩)
  (p:=((c,(),(),(),names,(names.length:Int),0,()),((names,()),((k:Int),()),(got,()),()))) ⟨0,rfl,Nat.zero_le _,rfl⟩ (by have:=hN.len;unfold FUEL;simp only;omega)
 subst h2
 have h1':L210_0 ((c,(),(),(),names,(names.length:Int),0,()),((names,()),((k:Int),()),(got,()),()))=some (if goes names k got c then Sum.inr (((),(),(),(),()),((names,()),((k:Int),()),(got,()),())) else Sum.inl (((),(),(),()),((names,()),((k:Int),()),(got,()),()))):=h1
 simp only [F210,h1',oBs]
 cases goes names k got c <;> rfl
end
section
variable {l:Ls} {a:Nat} {w y m d s z q:Int}
theorem inner46 {names:Ls} (hN:Nms names) {k:Nat} {got:List UInt8} (hg:got.length<=400) (l:Ls) (x1 x2 x3 x4 x5 x6 x7 x8:Int) :
  L179_1 (((),(),(),(),names,(names.length:Int),0,()),((l,x1,x2,x3,x4,x5,x6,x7,x8,()),(names,()),(got,()),((k:Int),()),())) =
  some (match hit names k got with
   | none=>Sum.inl (((),(),(),(),()),((l,x1,x2,x3,x4,x5,x6,x7,x8,()),(names,()),(got,()),((k:Int),()),()))
   | some i=>Sum.inr (((),(i:Int),()),((l,x1,x2,x3,x4,x5,x6,x7,x8,()),()))):=by
 obtain ⟨r,h1,h2⟩:=loop_ind (f:=B179_1) (λp=>∃ (i:Nat),p=(((),(),(),(),names,(names.length:Int),(i:Int),()),((l,x1,x2,x3,x4,x5,x6,x7,x8,()),(names,()),(got,()),((k:Int),()),()))/\i<=names.length /\
   hit names k got=(hit (names.drop i) k got).map (·+i))
  (λp=>((names.length:Int)-p.1.2.2.2.2.2.2.1).toNat)
  (λr=>r=match hit names k got with
   | none=>Sum.inl (((),(),(),(),()),((l,x1,x2,x3,x4,x5,x6,x7,x8,()),(names,()),(got,()),((k:Int),()),()))
   | some i=>Sum.inr (((),(i:Int),()),((l,x1,x2,x3,x4,x5,x6,x7,x8,()),())))
  (λp ⟨i,hp,hi,hG⟩=>by
   subst hp
   by_cases hlt:i<names.length
   ·have c1:decide ((i:Int)<((names.length:Nat):Int))=true:=by simp;omega
    have c2:decide ((0:Int)<=(i:Int))=true:=by simp
    have wi:w64 ((i:Int)+1)=((i+1:Nat):Int):=by have:=hN.len;rw [w64_id (by omega) (by omega)];rfl
    have hmem:names.getD i []∈names:=by rw [getD_ltL hlt];exact List.getElem_mem hlt
    have hxl:=hN.each _ hmem
    have hd:names.drop i=names.getD i []::names.drop (i+1):=by rw [List.drop_eq_getElem_cons hlt,getD_ltL hlt]
    rw [hd] at hG
    have hc:hit (names.getD i []::names.drop (i+1)) k got=if (decide ((names.getD i []).length=k)&&decide (low (names.getD i [])=low got))=true then some 0 else (hit (names.drop (i+1)) k got).map (·+1):=by
     unfold hit
     rw [List.findIdx?_cons]
    rw [hc] at hG
    have e1:=F86_eq (s:=names.getD i []) (t:=got) (by omega) (by omega)
    have step:(decide ((names.getD i []).length=k)&&decide (low (names.getD i [])=low got))=false->hit names k got=(hit (names.drop (i+1)) k got).map (·+(i+1)):=by
     intro hf
     rw [hf,if_neg (by simp),Option.map_map] at hG
     rw [hG]
     congr 1
     funext t
     show t+1+i=t+(i+1)
     omega
    by_cases hk:(names.getD i []).length=k
    ·have c3:decide ((((names.getD i []).length:Nat):Int)=(k:Int))=true:=dTt (by omega)
     cases hB:decide (low (names.getD i [])=low got) with
     | true =>
      right
      rw [dTt hk,hB,if_pos (by rfl)] at hG
      simp only [Option.map_some,Nat.zero_add] at hG
      rw [hG]
      refine ⟨_,?_,rfl⟩
      simp only [B179_1,nCt,c1,c2,c3,e1,hB,bAs,cTt,oBs]
     | false =>
      left
      refine ⟨_,?_,⟨i+1,rfl,by omega,step (by rw [hB,Bool.and_false])⟩,by simp only;omega⟩
      simp only [B179_1,nCt,c1,c2,c3,e1,hB,bAs,cTt,cFf,oBs,wi]
    ·left
     have c3:decide ((((names.getD i []).length:Nat):Int)=(k:Int))=false:=dFf (by omega)
     refine ⟨_,?_,⟨i+1,rfl,by omega,step (by rw [dFf hk,Bool.false_and])⟩,by simp only;omega⟩
     simp only [B179_1,nCt,c1,c2,c3,bAs,cTt,cFf,oBs,wi]
   ·right
    have c1:decide ((i:Int)<((names.length:Nat):Int))=false:=by simp;omega
    have hf:hit names k got=none:=by
     rw [hG,List.drop_of_length_le (by omega)];rfl
    rw [hf]
    exact ⟨_,by simp only [B179_1,c1,cFf] <;> rfl,rfl⟩)
  (p:=(((),(),(),(),names,(names.length:Int),0,()),((l,x1,x2,x3,x4,x5,x6,x7,x8,()),(names,()),(got,()),((k:Int),()),()))) ⟨0,rfl,Nat.zero_le _,by simp⟩ (by have:=hN.len;unfold FUEL;simp only;omega)
 subst h2
 exact h1
theorem goes_false {names:Ls} (hN:Nms names) {k:Nat} (hk:3<=k) {got c:List UInt8}:goes names k got c=false:=by
 unfold goes
 rw [List.any_eq_false]
 intro x hx
 have:=hN.each x hx
 rw [dFf (by omega)]
 simp
theorem b46_step {names:Ls} (hN:Nms names) {k:Nat} (hk:k<=3) {got:List UInt8} (hg:got.length<=16) (hl:l.length<=2000000) (ha:a<=l.length) (hlc:∀ x∈l,x.length<=4) :
  B179_0 (((),(),(),(),()),((l,(a:Int),w,y,m,d,s,z,q,()),(names,()),(got,()),((k:Int),()),()))=some (match hit names k got with
   | some i=>Sum.inr (((),(i:Int),()),((l,(a:Int),w,y,m,d,s,z,q,()),()))
   | none=>if (tk (goes names k got) l a w).1=[] then Sum.inr (((),0,()),((l,((tk (goes names k got) l a w).2.1:Int),(tk (goes names k got) l a w).2.2,y,m,d,s,z,q,()),()))
    else Sum.inl (((),(),(),(),()),((l,((tk (goes names k got) l a w).2.1:Int),(tk (goes names k got) l a w).2.2,y,m,d,s,z,q,()),(names,()),(got++(tk (goes names k got) l a w).1,()),((k+1:Nat),()),()))):=by
 have wa:w64 ((a:Int)+1)=((a+1:Nat):Int):=by rw [w64_id (by omega) (by omega)];rfl
 have wk:w64 ((k:Int)+1)=((k+1:Nat):Int):=by rw [w64_id (by omega) (by omega)];rfl
 have hpl:(peek l a).length<=4:=by
  unfold peek
  rcases Nat.lt_or_ge a l.length with h | h
  ·rw [getD_ltL h];exact hlc _ (List.getElem_mem h)
  ·rw [List.getD_eq_getElem?_getD,List.getElem?_eq_none h];simp
 cases hh:hit names k got with
 | some i=>simp only [B179_0,inner46 hN (show got.length<=400 by omega),hh,oBs]
 | none =>
  by_cases h:w=0/\peek l a≠[]
  ·obtain ⟨rfl,hne⟩:=h
   have c3:decide (peek l a=[])=false:=dFf hne
   have e1:=F210_eq hN (k:=k) (by omega) (got:=got) (c:=peek l a) (by omega) (by omega)
   cases hG:goes names k got (peek l a) with
   | true =>
    rw [tk_yes rfl hne hG]
    have f1:fits (got.length+(peek l a).length)=true:=fits_true (by omega)
    simp only [B179_0,inner46 hN (show got.length<=400 by omega),hh,oBs,F178_eq,dTr,Bool.not_true,Bool.false_or,c3,Bool.not_false,cTt,cFf,e1,hG,f1,wa,wk,if_neg hne]
   | false =>
    rw [tk_no (λhh=>by rw [hG] at hh;cases hh.2.2)]
    simp only [B179_0,inner46 hN (show got.length<=400 by omega),hh,oBs,F178_eq,dTr,Bool.not_true,Bool.false_or,c3,Bool.not_false,cTt,e1,hG,F232_eq,if_true]
  ·have c1:(!((!decide (w=0))||decide (peek l a=[])))=false:=by
    by_cases h1:w=0
    ·have:peek l a=[]:=Classical.byContradiction λh2=>h ⟨h1,h2⟩
     simp [h1,this]
    ·simp [h1]
   rw [tk_no (λhh=>h ⟨hh.1,hh.2.1⟩)]
   simp only [B179_0,inner46 hN (show got.length<=400 by omega),hh,oBs,F178_eq,c1,cFf,F232_eq,if_true]
theorem F179_eq {names:Ls} (hN:Nms names) (hl:l.length<=2000000) (ha:a<=l.length) (hlc:∀ x∈l,x.length<=4) :
  F179 (((),names,()),((l,(a:Int),w,y,m,d,s,z,q,()),()))=some ((wd names l 5 0 [] a w).1,((l,((wd names l 5 0 [] a w).2.1:Int),(wd names l 5 0 [] a w).2.2,y,m,d,s,z,q,()),()))/\(wd names l 5 0 [] a w).2.1<=l.length:=by
 generalize hR:wd names l 5 0 [] a w=R
 obtain ⟨r,h1,h2,h3⟩:=loop_ind (f:=B179_0) (λp=>∃ (k f a':Nat) (w':Int) (got:List UInt8),p=(((),(),(),(),()),((l,(a':Int),w',y,m,d,s,z,q,()),(names,()),(got,()),((k:Int),()),()))/\k<=3/\k+f=5/\got.length<=4*k/\a'<=l.length /\
   wd names l f k got a' w'=R)
  (λp=>((5:Int)-p.2.2.2.2.1.1).toNat)
  (λr=>r=(((),(R).1,()),((l,((R).2.1:Int),(R).2.2,y,m,d,s,z,q,()),()))/\(R).2.1<=l.length)
  (λp ⟨k,f,a',w',got,hp,hk,hkf,hgl,ha',hw⟩=>by
   subst hp
   rw [b46_step hN hk (by omega) hl ha' hlc]
   obtain ⟨f,rfl⟩:∃ f',f=f'+1:=⟨f-1,by omega⟩
   simp only [wd] at hw
   cases hh:hit names k got with
   | some i =>
    right
    rw [hh] at hw
    rw [<- hw]
    exact ⟨_,rfl,rfl,ha'⟩
   | none =>
    rw [hh] at hw
    simp only at hw
    by_cases he:(tk (goes names k got) l a' w').1=[]
    ·right
     rw [if_pos he] at hw
     rw [<- hw]
     simp only [if_pos he]
     exact ⟨_,rfl,rfl,tk_le _ ha'⟩
    ·left
     rw [if_neg he] at hw
     simp only [if_neg he]
     have hlt:k<3:=Classical.byContradiction λhc=>by
      have:=tk_val he
      rw [goes_false hN (by omega)] at this
      cases this
     have hcl:(tk (goes names k got) l a' w').1.length<=4:=by
      unfold tk
      split
      ·unfold peek
       rcases Nat.lt_or_ge a' l.length with h | h
       ·rw [getD_ltL h];exact hlc _ (List.getElem_mem h)
       ·rw [List.getD_eq_getElem?_getD,List.getElem?_eq_none h];simp
      ·simp
     exact ⟨_,rfl,⟨k+1,f,_,_,_,rfl,by omega,by omega,by rw [List.length_append];omega,tk_le _ ha',hw⟩,by simp only;omega⟩)
  (p:=(((),(),(),(),()),((l,(a:Int),w,y,m,d,s,z,q,()),(names,()),([],()),(0,()),()))) ⟨0,5,a,w,[],rfl,by omega,rfl,by simp,ha,hR⟩ (by unfold FUEL;simp only;omega)
 subst h2
 have h1':L179_0 (((),(),(),(),()),((l,(a:Int),w,y,m,d,s,z,q,()),(names,()),([],()),(0,()),()))=some (((),(R).1,()),((l,((R).2.1:Int),(R).2.2,y,m,d,s,z,q,()),())):=h1
 exact ⟨by simp only [F179,h1',oBs],h3⟩
end
section
variable {l:Ls} {a:Nat} {w y m d s z q:Int}
theorem nm_bound {b:Int}:∀ (j:Nat) {v:Int} {a:Nat} {w:Int},0<=v->0<=(nm b l j v a w).1/\(nm b l j v a w).1+1<=(v+1)*10^j
 | 0,v,a,w,h=>⟨h,by simp [nm]⟩
 | j+1,v,a,w,h=>by
  unfold nm
  simp only
  split
  ·have:=nm_bound j (b:=b) (a:=(tk (λc=>isdig c&&decide ((v*10+dval c)*10^j<b)) l a w).2.1) (w:=(tk (λc=>isdig c&&decide ((v*10+dval c)*10^j<b)) l a w).2.2) h
   refine ⟨this.1,Int.le_trans this.2 ?_⟩
   have hp:(0:Int)<=10^j:=Int.pow_nonneg (by omega)
   have:(v+1)*(10:Int)^(j+1)=(v+1)*10^j*10:=by rw [Int.pow_succ,Int.mul_assoc]
   have h2:0<=(v+1)*(10:Int)^j:=Int.mul_nonneg (by omega) hp
   omega
  ·next hc =>
   have hx:=tk_val hc
   rw [bAt] at hx
   obtain ⟨_,e1,e2⟩:=isdig_val hx.1
   generalize dval (tk (λc=>isdig c&&decide ((v*10+dval c)*10^j<b)) l a w).1=x at e1 e2 ⊢
   have:=nm_bound j (b:=b) (v:=v*10+x) (a:=(tk (λc=>isdig c&&decide ((v*10+dval c)*10^j<b)) l a w).2.1) (w:=(tk (λc=>isdig c&&decide ((v*10+dval c)*10^j<b)) l a w).2.2) (by omega)
   refine ⟨this.1,Int.le_trans this.2 ?_⟩
   have hp:(0:Int)<=10^j:=Int.pow_nonneg (by omega)
   rw [Int.pow_succ,Int.mul_comm (10^j) 10,<- Int.mul_assoc]
   exact Int.mul_le_mul_of_nonneg_right (by omega) hp
theorem nm1 {b:Int}:0<=(nm b l 1 0 a w).1/\(nm b l 1 0 a w).1<=9:=by
 have:=nm_bound (l:=l) (b:=b) 1 (v:=0) (a:=a) (w:=w) (by omega)
 omega
theorem nm2 {b:Int}:0<=(nm b l 2 0 a w).1/\(nm b l 2 0 a w).1<=99:=by
 have:=nm_bound (l:=l) (b:=b) 2 (v:=0) (a:=a) (w:=w) (by omega)
 omega
def sg (c:List UInt8) (l:Ls) (p:Nat×Int):Nat×Int:=(tk (λx=>decide (x=c)) l p.1 p.2).2
def nn (b:Int) (n:Nat) (l:Ls) (p:Nat×Int):Int×Nat×Int:=nm b l n 0 p.1 p.2
def ww (names:Ls) (l:Ls) (p:Nat×Int):Int×Nat×Int:=wd names l 5 0 [] p.1 p.2
theorem sg_le {c:List UInt8} {p:Nat×Int} (h:p.1<=l.length):(sg c l p).1<=l.length:=tk_le _ h
theorem sign_eq (hl:l.length<=2000000) {p:Nat×Int} (hp:p.1<=l.length) (c:List UInt8) :
  F181 (((),c,()),((l,(p.1:Int),p.2,y,m,d,s,z,q,()),()))=some ((),((l,((sg c l p).1:Int),(sg c l p).2,y,m,d,s,z,q,()),())):=F181_eq hl hp c
theorem num1_eq (hl:l.length<=2000000) {p:Nat×Int} (hp:p.1<=l.length) (b:Int) :
  F183 (((),1,b,()),((l,(p.1:Int),p.2,y,m,d,s,z,q,()),()))=some ((nn b 1 l p).1,((l,((nn b 1 l p).2.1:Int),(nn b 1 l p).2.2,y,m,d,s,z,q,()),())):=(F183_eq (n:=1) (by omega) hl hp).1
theorem num2_eq (hl:l.length<=2000000) {p:Nat×Int} (hp:p.1<=l.length) (b:Int) :
  F183 (((),2,b,()),((l,(p.1:Int),p.2,y,m,d,s,z,q,()),()))=some ((nn b 2 l p).1,((l,((nn b 2 l p).2.1:Int),(nn b 2 l p).2.2,y,m,d,s,z,q,()),())):=(F183_eq (n:=2) (by omega) hl hp).1
theorem num4_eq (hl:l.length<=2000000) {p:Nat×Int} (hp:p.1<=l.length) (b:Int) :
  F183 (((),4,b,()),((l,(p.1:Int),p.2,y,m,d,s,z,q,()),()))=some ((nn b 4 l p).1,((l,((nn b 4 l p).2.1:Int),(nn b 4 l p).2.2,y,m,d,s,z,q,()),())):=(F183_eq (n:=4) (by omega) hl hp).1
theorem nm_le {b:Int}:∀ (j:Nat) {v:Int} {a:Nat} {w:Int},a<=l.length->(nm b l j v a w).2.1<=l.length
 | 0,_,_,_,h=>h
 | j+1,_,_,_,h=>nm_le j (tk_le _ h)
theorem nn_le {b:Int} {n:Nat} {p:Nat×Int} (h:p.1<=l.length):(nn b n l p).2.1<=l.length:=nm_le n h
theorem wd_le {names:Ls}:∀ (f:Nat) {k:Nat} {got:List UInt8} {a:Nat} {w:Int},a<=l.length->(wd names l f k got a w).2.1<=l.length
 | 0,_,_,_,_,h=>h
 | f+1,k,got,a,w,h=>by
  simp only [wd]
  split
  ·exact h
  ·split
   ·exact tk_le _ h
   ·exact wd_le f (tk_le _ h)
theorem ww_le {names:Ls} {p:Nat×Int} (h:p.1<=l.length):(ww names l p).2.1<=l.length:=wd_le 5 h
theorem word_eq {names:Ls} (hN:Nms names) (hl:l.length<=2000000) (hlc:∀ x∈l,x.length<=4) {p:Nat×Int} (hp:p.1<=l.length) :
  F179 (((),names,()),((l,(p.1:Int),p.2,y,m,d,s,z,q,()),()))=some ((ww names l p).1,((l,((ww names l p).2.1:Int),(ww names l p).2.2,y,m,d,s,z,q,()),())):=(F179_eq hN hl hp hlc).1
def hmsS (may:Bool) (l:Ls) (p:Nat×Int):Int×Nat×Int :=
 let h:=nn 24 2 l p
 let n:=nn 60 2 l (sg [58] l h.2)
 if may=true/\peek l n.2.1≠[58] then (3600*h.1+60*n.1,n.2)
 else
  let e:=nn 60 2 l (sg [58] l n.2)
  (3600*h.1+60*n.1+e.1,e.2)
theorem hms_eq (hl:l.length<=2000000) {p:Nat×Int} (hp:p.1<=l.length) (may:Bool) :
  F184 (((),may,()),((l,(p.1:Int),p.2,y,m,d,s,z,q,()),()))=some ((),((l,((hmsS may l p).2.1:Int),(hmsS may l p).2.2,y,m,d,(hmsS may l p).1,z,q,()),())):=by
 have h1:=nn_le (l:=l) (b:=24) (n:=2) hp
 have h2:=sg_le (c:=[58]) h1
 have h3:=nn_le (l:=l) (b:=60) (n:=2) h2
 have h4:=sg_le (c:=[58]) h3
 have b1:=nm2 (l:=l) (b:=24) (a:=p.1) (w:=p.2)
 have b2:=nm2 (l:=l) (b:=60) (a:=(sg [58] l (nn 24 2 l p).2).1) (w:=(sg [58] l (nn 24 2 l p).2).2)
 have b3:=nm2 (l:=l) (b:=60) (a:=(sg [58] l (nn 60 2 l (sg [58] l (nn 24 2 l p).2)).2).1) (w:=(sg [58] l (nn 60 2 l (sg [58] l (nn 24 2 l p).2)).2).2)
 change 0<=(nn 24 2 l p).1/\(nn 24 2 l p).1<=99 at b1
 change 0<=(nn 60 2 l (sg [58] l (nn 24 2 l p).2)).1/\(nn 60 2 l (sg [58] l (nn 24 2 l p).2)).1<=99 at b2
 change 0<=(nn 60 2 l (sg [58] l (nn 60 2 l (sg [58] l (nn 24 2 l p).2)).2)).1/\(nn 60 2 l (sg [58] l (nn 60 2 l (sg [58] l (nn 24 2 l p).2)).2)).1<=99 at b3
 have w1:w64 (3600*(nn 24 2 l p).1)=3600*(nn 24 2 l p).1:=w64_id (by omega) (by omega)
 have w2:w64 (60*(nn 60 2 l (sg [58] l (nn 24 2 l p).2)).1)=60*(nn 60 2 l (sg [58] l (nn 24 2 l p).2)).1:=w64_id (by omega) (by omega)
 have w3:w64 (3600*(nn 24 2 l p).1+60*(nn 60 2 l (sg [58] l (nn 24 2 l p).2)).1)=3600*(nn 24 2 l p).1+60*(nn 60 2 l (sg [58] l (nn 24 2 l p).2)).1:=w64_id (by omega) (by omega)
 have w4:w64 (3600*(nn 24 2 l p).1+60*(nn 60 2 l (sg [58] l (nn 24 2 l p).2)).1+(nn 60 2 l (sg [58] l (nn 60 2 l (sg [58] l (nn 24 2 l p).2)).2)).1) =
  3600*(nn 24 2 l p).1+60*(nn 60 2 l (sg [58] l (nn 24 2 l p).2)).1+(nn 60 2 l (sg [58] l (nn 60 2 l (sg [58] l (nn 24 2 l p).2)).2)).1:=w64_id (by omega) (by omega)
 unfold hmsS
 cases may with
 | false =>
  rw [if_neg (by simp)]
  simp only [F184,num2_eq hl hp,oBs,sign_eq hl h1,num2_eq hl h2,cFf,w1,w2,w3,sign_eq hl h3,num2_eq hl h4,dTr,cTt,w4]
 | true =>
  by_cases hc:peek l (nn 60 2 l (sg [58] l (nn 24 2 l p).2)).2.1=[58]
  ·rw [if_neg (λh=>h.2 hc)]
   have c1:=dTt hc
   simp only [F184,num2_eq hl hp,oBs,sign_eq hl h1,num2_eq hl h2,cTt,w1,w2,w3,F178_eq,c1,Bool.not_true,cFf,sign_eq hl h3,num2_eq hl h4,dTr,w4]
  ·rw [if_pos ⟨rfl,hc⟩]
   have c1:=dFf hc
   simp only [F184,num2_eq hl hp,oBs,sign_eq hl h1,num2_eq hl h2,cTt,w1,w2,w3,F178_eq,c1,Bool.not_false]
def offS (l:Ls) (p:Nat×Int):Int×Nat×Int :=
 let c:=tk (λx=>decide (x=[43])||decide (x=[45])) l p.1 p.2
 let h:=nn 24 2 l c.2
 let n:=nn 60 2 l h.2
 (if c.1=[45] then -(60*h.1+n.1) else 60*h.1+n.1,n.2)
theorem off_eq (hl:l.length<=2000000) {p:Nat×Int} (hp:p.1<=l.length) :
  F185 (((),()),((l,(p.1:Int),p.2,y,m,d,s,z,q,()),()))=some ((),((l,((offS l p).2.1:Int),(offS l p).2.2,y,m,d,s,(offS l p).1,q,()),())):=by
 have key:∀ c:List UInt8×Nat×Int,c.2.1<=l.length->∀ r,(w64 (w64 (60*(nn 24 2 l c.2).1)+(nn 60 2 l (nn 24 2 l c.2).2).1)=60*(nn 24 2 l c.2).1+(nn 60 2 l (nn 24 2 l c.2).2).1 ->
   w64 (0-(60*(nn 24 2 l c.2).1+(nn 60 2 l (nn 24 2 l c.2).2).1))=-(60*(nn 24 2 l c.2).1+(nn 60 2 l (nn 24 2 l c.2).2).1)->(nn 24 2 l c.2).2.1<=l.length->r)->r:=by
  intro c hc r h
  have b1:=nm2 (l:=l) (b:=24) (a:=c.2.1) (w:=c.2.2)
  have b2:=nm2 (l:=l) (b:=60) (a:=(nn 24 2 l c.2).2.1) (w:=(nn 24 2 l c.2).2.2)
  change 0<=(nn 24 2 l c.2).1/\(nn 24 2 l c.2).1<=99 at b1
  change 0<=(nn 60 2 l (nn 24 2 l c.2).2).1/\(nn 60 2 l (nn 24 2 l c.2).2).1<=99 at b2
  refine h ?_ ?_ (nn_le hc)
  ·rw [w64_id (n:=60*(nn 24 2 l c.2).1) (by omega) (by omega),w64_id (by omega) (by omega)]
  ·rw [w64_id (by omega) (by omega)];omega
 unfold offS
 simp only
 generalize hc:tk (λx=>decide (x=[43])||decide (x=[45])) l p.1 p.2=c
 have hcl:c.2.1<=l.length:=by rw [<- hc];exact tk_le _ hp
 refine key c hcl _ λw1 w2 h1=>?_
 have wa:w64 ((p.1:Int)+1)=((p.1+1:Nat):Int):=by rw [w64_id (by omega) (by omega)];rfl
 obtain ⟨pa,pw⟩:=p
 simp only at hc wa hp ⊢
 by_cases h:pw=0/\peek l pa≠[]
 ·obtain ⟨rfl,hne⟩:=h
  have c3:decide (peek l pa=[])=false:=dFf hne
  by_cases h2:(decide (peek l pa=[43])||decide (peek l pa=[45]))=true
  ·rw [tk_yes rfl hne h2] at hc
   subst hc
   simp only [F185,F178_eq,oBs,dTr,Bool.not_true,Bool.false_or,c3,Bool.not_false,cTt,h2,cFf,wa]
   have e1:=num2_eq (y:=y) (m:=m) (d:=d) (s:=s) (z:=z) (q:=q) hl (p:=(pa+1,(0:Int))) hcl 24
   simp only at e1
   rw [e1]
   simp only [oBs,num2_eq hl h1,w1]
   by_cases h3:peek l pa=[45]
   ·simp only [dTt h3,cTt,w2,if_pos h3]
   ·simp only [dFf h3,cFf,if_neg h3]
  ·have h2':(decide (peek l pa=[43])||decide (peek l pa=[45]))=false:=by simpa using h2
   rw [tk_no (λhh=>h2 hh.2.2)] at hc
   subst hc
   simp only [F185,F178_eq,oBs,dTr,Bool.not_true,Bool.false_or,c3,Bool.not_false,cTt,h2',F232_eq]
   have e1:=num2_eq (y:=y) (m:=m) (d:=d) (s:=s) (z:=z) (q:=q) hl (p:=(pa,stopw l pa 0)) hcl 24
   simp only at e1
   rw [e1]
   simp only [oBs,num2_eq hl h1,w1]
   rfl
 ·have c1:(!((!decide (pw=0))||decide (peek l pa=[])))=false:=by
   by_cases h1:pw=0
   ·have:peek l pa=[]:=Classical.byContradiction λh2=>h ⟨h1,h2⟩
    simp [h1,this]
   ·simp [h1]
  rw [tk_no (λhh=>h ⟨hh.1,hh.2.1⟩)] at hc
  subst hc
  simp only [F185,F178_eq,oBs,c1,cFf,F232_eq]
  have e1:=num2_eq (y:=y) (m:=m) (d:=d) (s:=s) (z:=z) (q:=q) hl (p:=(pa,stopw l pa pw)) hcl 24
  simp only at e1
  rw [e1]
  simp only [oBs,num2_eq hl h1,w1]
  rfl
def n12S (l:Ls) (p:Nat×Int):Int×Nat×Int :=
 let v:=nn 10 1 l p
 if isdig (peek l v.2.1)=true then
  let u:=nn 10 1 l v.2
  (v.1*10+u.1,u.2)
 else v
theorem n12_eq (hl:l.length<=2000000) {p:Nat×Int} (hp:p.1<=l.length) :
  F182 (((),()),((l,(p.1:Int),p.2,y,m,d,s,z,q,()),()))=some ((n12S l p).1,((l,((n12S l p).2.1:Int),(n12S l p).2.2,y,m,d,s,z,q,()),())):=by
 have h1:=nn_le (l:=l) (b:=10) (n:=1) hp
 have b1:=nm1 (l:=l) (b:=10) (a:=p.1) (w:=p.2)
 have b2:=nm1 (l:=l) (b:=10) (a:=(nn 10 1 l p).2.1) (w:=(nn 10 1 l p).2.2)
 change 0<=(nn 10 1 l p).1/\(nn 10 1 l p).1<=9 at b1
 change 0<=(nn 10 1 l (nn 10 1 l p).2).1/\(nn 10 1 l (nn 10 1 l p).2).1<=9 at b2
 have w1:w64 ((nn 10 1 l p).1*10)=(nn 10 1 l p).1*10:=w64_id (by omega) (by omega)
 have w2:w64 ((nn 10 1 l p).1*10+(nn 10 1 l (nn 10 1 l p).2).1)=(nn 10 1 l p).1*10+(nn 10 1 l (nn 10 1 l p).2).1:=w64_id (by omega) (by omega)
 unfold n12S
 cases hd:isdig (peek l (nn 10 1 l p).2.1) with
 | true =>
  simp only [F182,num1_eq hl hp,oBs,F178_eq,F177_eq,hd,cTt,num1_eq hl h1,w1,w2,if_true]
 | false =>
  simp only [F182,num1_eq hl hp,oBs,F178_eq,F177_eq,hd,cFf,Bool.false_eq_true,if_false]
theorem hms_le {may:Bool} {p:Nat×Int} (h:p.1<=l.length):(hmsS may l p).2.1<=l.length:=by
 have h1:=nn_le (l:=l) (b:=60) (n:=2) (sg_le (c:=[58]) (nn_le (l:=l) (b:=24) (n:=2) h))
 unfold hmsS
 simp only
 split
 ·exact h1
 ·exact nn_le (sg_le h1)
theorem n12_le {p:Nat×Int} (h:p.1<=l.length):(n12S l p).2.1<=l.length:=by
 unfold n12S
 simp only
 split
 ·exact nn_le (nn_le h)
 ·exact nn_le h
end
section
structure Good (l:Ls):Prop where
 ne:∀ c∈l,c≠[]
 le:∀ c∈l,c.length<=4
 big:∀ c∈l,2<=c.length->128<=(c.getD 0 0).toNat
end
section
theorem F96_eq {s:List UInt8} (hs:s.length<=500):F96 ((s,()),())=some (low s,()):=by
 obtain ⟨r,h1,h2⟩:=loop_ind (f:=B96_0) (λp=>∃ (i:Nat),p=((s,low (s.take i),(i:Int),()),())/\i<=s.length) (λp=>((s.length:Int)-p.1.2.2.1).toNat) (λr=>r=((low s,()),()))
  (λp ⟨i,hp,hi⟩=>by
   subst hp
   by_cases hlt:i<s.length
   ·left
    have c1:decide ((i:Int)<((s.length:Nat):Int))=true:=by simp;omega
    have c2:decide ((0:Int)<=(i:Int))=true:=by simp
    have wi:w64 ((i:Int)+1)=((i+1:Nat):Int):=by rw [w64_id (by omega) (by omega)];rfl
    have hl:(low (s.take i)).length=i:=by simp [low];omega
    refine ⟨((s,low (s.take (i+1)),((i+1:Nat):Int),()),()),?_,⟨i+1,rfl,by omega⟩,by simp only;omega⟩
    have hls:low (s.take (i+1))=low (s.take i)++[low1 (s.getD i 0)]:=by
     rw [take_snoc hlt 0];simp [low]
    have g1:∀ x:UInt8,fits ((low (s.take i)).length+[x].length)=true:=λx=>fits_true (by rw [hl];simp;omega)
    rw [hls]
    unfold low1
    by_cases hc:65<=(s.getD i 0).toNat/\(s.getD i 0).toNat<=90
    ·have c3:(decide (UInt8.toNat (65:UInt8)<=(s.getD i 0).toNat)&&decide ((s.getD i 0).toNat<=UInt8.toNat (90:UInt8)))=true:=by
      simpa using hc
     simp only [B96_0,c1,c2,bAs,cTt,oBs,nCt,c3,g1,wi,if_pos hc]
    ·have c3:(decide (UInt8.toNat (65:UInt8)<=(s.getD i 0).toNat)&&decide ((s.getD i 0).toNat<=UInt8.toNat (90:UInt8)))=false:=by
      rw [<- Bool.decide_and,decide_eq_false_iff_not];exact hc
     simp only [B96_0,c1,c2,bAs,cTt,cFf,oBs,nCt,c3,g1,wi,if_neg hc]
   ·right
    have c1:decide ((i:Int)<((s.length:Nat):Int))=false:=by simp;omega
    exact ⟨_,by simp only [B96_0,c1,cFf] <;> rfl,by rw [List.take_of_length_le (by omega)]⟩)
  (p:=((s,[],0,()),())) ⟨0,rfl,Nat.zero_le _⟩ (by unfold FUEL;simp only;omega)
 subst h2
 have h1':L96_0 ((s,[],0,()),())=some ((low s,()),()):=h1
 simp only [F96,h1',oBs]
def weeks:Ls:=[[77,111,110],[84,117,101],[87,101,100],[84,104,117],[70,114,105],[83,97,116],[83,117,110]]
def months:Ls:=[[74,97,110],[70,101,98],[77,97,114],[65,112,114],[77,97,121],[74,117,110],[74,117,108],[65,117,103],[83,101,112],[79,99,116],[78,111,118],[68,101,99]]
theorem weeks_nms:Nms weeks:=⟨by decide,by decide⟩
theorem months_nms:Nms months:=⟨by decide,by decide⟩
def alpha (c:List UInt8):Bool :=
 decide (c.length=1)&&((decide (65<=(c.getD 0 0).toNat)&&decide ((c.getD 0 0).toNat<=90))||(decide (97<=(c.getD 0 0).toNat)&&decide ((c.getD 0 0).toNat<=122)))
def bk (l:Ls):Nat->Nat->Nat
 | 0,f=>f
 | n+1,f=>if 0<f/\alpha (l.getD (f-1) [])=true then bk l n (f-1) else f
theorem bk_le (l:Ls):∀ (n f:Nat),bk l n f<=f/\f<=bk l n f+n
 | 0,f=>⟨Nat.le_refl _,Nat.le_refl _⟩
 | n+1,f=>by
  unfold bk
  split
  ·have:=bk_le l n (f-1);omega
  ·omega
theorem L68_0_eq {l:Ls} (hg:Good l) (hl:l.length<=2000000) (names:Ls) {i:Nat} (hi:i<l.length):L219_0 ((l,(i:Int),(),(i:Int),()),(names,()))=some ((l,(i:Int),(),((bk l 2 i:Nat):Int),()),(names,())):=by
 generalize hT:bk l 2 i=T
 obtain ⟨r,h1,h2⟩:=loop_ind (f:=B219_0) (λp=>∃ (f n:Nat),p=((l,(i:Int),(),(f:Int),()),(names,()))/\f<=i/\i=f+(2-n)/\n<=2/\bk l n f=T) (λp=>p.1.2.2.2.1.toNat) (λr=>r=((l,(i:Int),(),(T:Int),()),(names,())))
  (λp ⟨f,n,hp,hf,hn,hn2,hb⟩=>by
   subst hp
   cases f with
   | zero =>
    right
    have c0:decide ((0:Int)<((0:Nat):Int))=false:=by simp
    have hx:bk l n 0=0:=by cases n <;> simp [bk]
    refine ⟨_,?_,by rw [<- hb,hx]⟩
    simp only [B219_0,c0,Bool.false_and,Bool.and_false,Bool.not_false,Bool.or_true,cTt,cFf]
   | succ k =>
    have wk:w64 (((k+1:Nat):Int)-1)=(k:Int):=(w64_id (by omega) (by omega)).trans (by omega)
    have wd:w64 ((i:Int)-((k+1:Nat):Int))=(((2-n):Nat):Int):=(w64_id (by omega) (by omega)).trans (by omega)
    have c0:decide ((0:Int)<((k+1:Nat):Int))=true:=dTt (by omega)
    have c1:decide ((0:Int)<=(k:Int))=true:=dTt (by omega)
    have c2:decide ((k:Int)<((l.length:Nat):Int))=true:=dTt (by omega)
    have hne:l.getD k []≠[]:=by
     rw [getD_ltL (by omega)];exact hg.ne _ (List.getElem_mem _)
    have hlp:0<(l.getD k []).length:=List.length_pos_iff.2 hne
    have c3:decide ((0:Int)<(((l.getD k []).length:Nat):Int))=true:=dTt (by omega)
    have c4:decide ((((l.getD k []).length:Nat):Int)=1)=decide ((l.getD k []).length=1):=by
     rw [decide_eq_decide];omega
    have hal:(decide ((l.getD k []).length=1)&&((decide (UInt8.toNat (65:UInt8)<=((l.getD k []).getD 0 0).toNat)&&decide (((l.getD k []).getD 0 0).toNat<=UInt8.toNat (90:UInt8)))||(decide (UInt8.toNat (97:UInt8)<=((l.getD k []).getD 0 0).toNat)&&decide (((l.getD k []).getD 0 0).toNat<=UInt8.toNat (122:UInt8)))))=alpha (l.getD k []):=rfl
    cases n with
    | zero =>
     right
     have c5:decide ((((2-0):Nat):Int)<2)=false:=by decide
     refine ⟨_,?_,by rw [<- hb]⟩
     simp only [B219_0,wk,wd,nCt,c0,c1,c2,c3,c5,Bool.and_false,Bool.false_and,bAs,Bool.true_or,cTt,cFf]
     rfl
    | succ n =>
     have c5:decide ((((2-(n+1)):Nat):Int)<2)=true:=dTt (by omega)
     simp only [bk,Nat.add_sub_cancel] at hb
     cases ha:alpha (l.getD k []) with
     | true =>
      left
      rw [ha] at hal
      rw [if_pos ⟨by omega,ha⟩] at hb
      refine ⟨((l,(i:Int),(),(k:Int),()),(names,())),?_,⟨k,n,rfl,by omega,by omega,by omega,hb⟩,by simp only;omega⟩
      simp only [B219_0,wk,wd,nCt,c0,c1,c2,c3,c4,c5,hal,bAs,Bool.true_and,Bool.true_or,cTt]
     | false =>
      right
      rw [ha] at hal
      rw [if_neg (by rw [ha];simp)] at hb
      refine ⟨_,?_,by rw [<- hb]⟩
      simp only [B219_0,wk,wd,nCt,c0,c1,c2,c3,c4,c5,hal,bAs,Bool.true_and,Bool.true_or,cTt,cFf])
  (p:=((l,(i:Int),(),(i:Int),()),(names,()))) ⟨i,2,rfl,Nat.le_refl _,by omega,Nat.le_refl _,hT⟩ (by unfold FUEL;simp only;omega)
 subst h2
 exact h1
def cat (l:Ls) (f n:Nat):List UInt8:=low ((l.drop f).take n).flatten
theorem cat_len {l:Ls} (hg:Good l) (f:Nat):∀ n,(cat l f n).length<=4*n:=λn=>by
 unfold cat low
 rw [List.length_map]
 have key:∀ (m:Ls) (n:Nat),(∀ c∈m,c.length<=4)->(m.take n).flatten.length<=4*n:=by
  intro m
  induction m with
  | nil=>intro n _;simp
  | cons c m ih =>
   intro n h
   cases n with
   | zero=>simp
   | succ n =>
    have h1:=h c (by simp)
    have h2:=ih n λc hc=>h c (List.mem_cons_of_mem _ hc)
    simp only [List.take_succ_cons,List.flatten_cons,List.length_append]
    omega
 exact key _ n λc hc=>hg.le c (List.mem_of_mem_drop hc)
theorem cat_snoc {l:Ls} {f n:Nat} (h:f+n<l.length):cat l f (n+1)=cat l f n++low (l.getD (f+n) []):=by
 unfold cat
 rw [take_snoc (l:=l.drop f) (by rw [List.length_drop];omega) []]
 have:(l.drop f).getD n []=l.getD (f+n) []:=by
  rw [List.getD_eq_getElem?_getD,List.getElem?_drop,<- List.getD_eq_getElem?_getD]
 rw [this,List.flatten_append,low,List.map_append]
 simp [low]
theorem L68_1_eq {l:Ls} (hg:Good l) (hl:l.length<=2000000) (names:Ls) {i f:Nat} (hi:i<l.length) (hf:f<=i) (hf2:i<=f+2) :
  L219_1 ((l,(i:Int),(),[],(f:Int),()),(names,()))=some (((),cat l f (i+1-f),()),(names,())):=by
 obtain ⟨r,h1,h2⟩:=loop_ind (f:=B219_1) (λp=>∃ (n:Nat),p=((l,(i:Int),(),cat l f n,((f+n:Nat):Int),()),(names,()))/\n<=i+1-f) (λp=>((i:Int)+1-p.1.2.2.2.2.1).toNat) (λr=>r=(((),cat l f (i+1-f),()),(names,())))
  (λp ⟨n,hp,hn⟩=>by
   subst hp
   by_cases hlt:f+n<=i
   ·left
    have c1:decide (((f+n:Nat):Int)<=(i:Int))=true:=dTt (by omega)
    have c2:decide ((0:Int)<=((f+n:Nat):Int))=true:=dTt (by omega)
    have c3:decide (((f+n:Nat):Int)<((l.length:Nat):Int))=true:=dTt (by omega)
    have wn:w64 (((f+n:Nat):Int)+1)=((f+(n+1):Nat):Int):=by rw [w64_id (by omega) (by omega)];omega
    have hcl:(l.getD (f+n) []).length<=4:=by rw [getD_ltL (by omega)];exact hg.le _ (List.getElem_mem _)
    have e1:=F96_eq (s:=l.getD (f+n) []) (by omega)
    have hgl:=cat_len hg f n
    have c4:fits ((cat l f n).length+(low (l.getD (f+n) [])).length)=true:=fits_true (by rw [low,List.length_map];omega)
    refine ⟨((l,(i:Int),(),cat l f (n+1),((f+(n+1):Nat):Int),()),(names,())),?_,⟨n+1,rfl,by omega⟩,by simp only;omega⟩
    rw [cat_snoc (by omega)]
    simp only [B219_1,c1,c2,c3,bAs,cTt,nCt,e1,oBs,c4,wn]
   ·right
    have c1:decide (((f+n:Nat):Int)<=(i:Int))=false:=dFf (by omega)
    have hne:n=i+1-f:=by omega
    subst hne
    exact ⟨_,by simp only [B219_1,c1,cFf] <;> rfl,rfl⟩)
  (p:=((l,(i:Int),(),[],(f:Int),()),(names,()))) ⟨0,by rw [Nat.add_zero];rfl,Nat.zero_le _⟩ (by unfold FUEL;simp only;omega)
 subst h2
 exact h1
def begins (names:Ls) (got:List UInt8):Bool:=decide (got.length<=3)&&names.any λx=>decide ((low x).take got.length=got)
theorem L68_2_eq {names:Ls} (hN:names.length<=100) (h3:∀ x∈names,x.length=3) {got:List UInt8} (hg:got.length<=100) :
  L219_2 (((),got,0,()),(names,()))=some (if begins names got then Sum.inr (((),()),()) else Sum.inl ((),())):=by
 obtain ⟨r,h1,h2⟩:=loop_ind (f:=B219_2) (λp=>∃ (i:Nat),p=(((),got,(i:Int),()),(names,()))/\i<=names.length/\begins (names.drop i) got=begins names got) (λp=>((names.length:Int)-p.1.2.2.1).toNat) (λr=>r=if begins names got then Sum.inr (((),()),()) else Sum.inl ((),()))
  (λp ⟨i,hp,hi,hb⟩=>by
   subst hp
   by_cases hlt:i<names.length
   ·have c1:decide ((i:Int)<((names.length:Nat):Int))=true:=dTt (by omega)
    have c2:decide ((0:Int)<=(i:Int))=true:=dTt (by omega)
    have wi:w64 ((i:Int)+1)=((i+1:Nat):Int):=by rw [w64_id (by omega) (by omega)];rfl
    have hxl:(names.getD i []).length=3:=by rw [getD_ltL hlt];exact h3 _ (List.getElem_mem hlt)
    have hd:names.drop i=names.getD i []::names.drop (i+1):=by rw [List.drop_eq_getElem_cons hlt,getD_ltL hlt]
    rw [hd] at hb
    by_cases h3:got.length<=3
    ·have c3:decide (((got.length:Nat):Int)<=3)=true:=dTt (by omega)
     have d3:decide (got.length<=3)=true:=dTt h3
     have e1:=F96_eq (s:=names.getD i []) (by omega)
     have c4:decide ((0:Int)<=((got.length:Nat):Int))=true:=dTt (by omega)
     have c5:decide (((got.length:Nat):Int)<=(((low (names.getD i [])).length:Nat):Int))=true:=dTt (by rw [low,List.length_map];omega)
     simp only [begins,d3,Bool.true_and,List.any_cons] at hb
     cases hm:decide ((low (names.getD i [])).take got.length=got) with
     | true =>
      right
      rw [hm,Bool.true_or] at hb
      have hbt:begins names got=true:=by simp only [begins,d3,Bool.true_and];exact hb.symm
      rw [hbt]
      exact ⟨_,by simp only [B219_2,c1,c2,c3,c4,c5,bAs,Bool.true_or,cTt,nCt,e1,oBs,hm] <;> rfl,rfl⟩
     | false =>
      left
      rw [hm,Bool.false_or] at hb
      refine ⟨(((),got,((i+1:Nat):Int),()),(names,())),?_,⟨i+1,rfl,by omega,by simp only [begins,d3,Bool.true_and];exact hb⟩,by simp only;omega⟩
      simp only [B219_2,c1,c2,c3,c4,c5,bAs,Bool.true_or,cTt,cFf,nCt,e1,oBs,hm,wi]
    ·left
     have c3:decide (((got.length:Nat):Int)<=3)=false:=dFf (by omega)
     have d3:decide (got.length<=3)=false:=dFf h3
     refine ⟨(((),got,((i+1:Nat):Int),()),(names,())),?_,⟨i+1,rfl,by omega,by simp only [begins,d3,Bool.false_and]⟩,by simp only;omega⟩
     simp only [B219_2,c1,c2,c3,bAs,Bool.true_or,cTt,cFf,wi]
   ·right
    have c1:decide ((i:Int)<((names.length:Nat):Int))=false:=dFf (by omega)
    have hf:begins names got=false:=by
     rw [<- hb,List.drop_of_length_le (by omega)];simp [begins]
    rw [hf]
    exact ⟨_,by simp only [B219_2,c1,cFf] <;> rfl,rfl⟩)
  (p:=(((),got,0,()),(names,()))) ⟨0,rfl,Nat.zero_le _,rfl⟩ (by unfold FUEL;simp only;omega)
 subst h2
 exact h1
def letS (l:Ls) (i:Nat) (b:UInt8):Bool:=begins (if b=87 then weeks else months) (cat l (bk l 2 i) (i+1-bk l 2 i))
theorem F219_eq {l:Ls} (hg:Good l) (hl:l.length<=2000000) {i:Nat} (hi:i<l.length) (b:UInt8):F219 ((l,(i:Int),b,()),())=some (letS l i b,()):=by
 have f30:F104 ((),())=some ((),(months,())):=rfl
 have f28:F102 ((),())=some ((),(weeks,())):=rfl
 obtain ⟨k1,k2⟩:=bk_le l 2 i
 have hcl:(cat l (bk l 2 i) (i+1-bk l 2 i)).length<=100:=by have:=cat_len hg (bk l 2 i) (i+1-bk l 2 i);omega
 unfold letS
 by_cases hb:b=87
 ·have c1:=dTt hb
  simp only [F219,f30,f28,oBs,c1,cTt,L68_0_eq hg hl weeks hi,L68_1_eq hg hl weeks hi k1 k2,L68_2_eq (names:=weeks) (by decide) (by decide) hcl,if_pos hb]
  cases begins weeks (cat l (bk l 2 i) (i+1-bk l 2 i)) <;> rfl
 ·have c1:=dFf hb
  simp only [F219,f30,oBs,c1,cFf,L68_0_eq hg hl months hi,L68_1_eq hg hl months hi k1 k2,L68_2_eq (names:=months) (by decide) (by decide) hcl,if_neg hb]
  cases begins months (cat l (bk l 2 i) (i+1-bk l 2 i)) <;> rfl
end
section
def fitS (l:Ls) (i:Nat) (b:UInt8):Bool :=
 if b=57 then isdig (l.getD i [])
 else if b=50 then isdig (l.getD i [])&&decide (((l.getD i []).getD 0 0).toNat<=50)
 else if b=53 then isdig (l.getD i [])&&decide (((l.getD i []).getD 0 0).toNat<=53)
 else if b=51 then isdig (l.getD i [])&&(decide (((l.getD i []).getD 0 0).toNat<=51)||!decide (l.getD (i-1) []=[50]))
 else if b=77\/b=87 then letS l i b
 else if b=71\/b=109\/b=84\/b=85 then decide (low (l.getD i [])=low [b])
 else decide (l.getD i []=[b])
theorem F193_eq {l:Ls} (hg:Good l) (hl:l.length<=2000000) {i:Nat} (hi:i<l.length) {b:UInt8} (h3:b=51->0<i):F193 ((l,(i:Int),b,()),())=some (fitS l i b,()):=by
 have c1:(decide ((0:Int)<=(i:Int))&&decide ((i:Int)<((l.length:Nat):Int)))=true:=by
  rw [dTt (by omega:(0:Int)<=(i:Int)),dTt (by omega:(i:Int)<((l.length:Nat):Int))];rfl
 have hcm:l.getD i []∈l:=by rw [getD_ltL hi];exact List.getElem_mem _
 have hne:=hg.ne _ hcm
 have hle:=hg.le _ hcm
 unfold fitS
 generalize hc:l.getD i []=c at hne hle
 have hcp:0<c.length:=List.length_pos_iff.2 hne
 have c2:decide ((0:Int)<((c.length:Nat):Int))=true:=dTt (by omega)
 have c4:decide (((c.length:Nat):Int)=1)=decide (c.length=1):=by rw [decide_eq_decide];omega
 have hd:(decide (c.length=1)&&decide (UInt8.toNat (48:UInt8)<=(c.getD 0 0).toNat)&&decide ((c.getD 0 0).toNat<=UInt8.toNat (57:UInt8)))=isdig c:=rfl
 have l1:=F96_eq (s:=c) (by omega)
 have l2:=F96_eq (s:=[b]) (by simp)
 have start:F193 ((l,(i:Int),b,()),())=F193 ((l,(i:Int),b,()),()):=rfl
 by_cases h57:b=57
 ·subst h57
  simp only [F193,c1,cTt,nCt,hc,c2,Bool.true_or,c4,hd,oBs,dTr,if_true]
 have n57:=dFf h57
 rw [if_neg h57]
 by_cases h50:b=50
 ·subst h50
  simp only [F193,c1,cTt,cFf,nCt,hc,c2,Bool.true_or,c4,hd,oBs,n57,dTr,if_true]
  rfl
 have n50:=dFf h50
 rw [if_neg h50]
 by_cases h53:b=53
 ·subst h53
  simp only [F193,c1,cTt,cFf,nCt,hc,c2,Bool.true_or,c4,hd,oBs,n57,n50,dTr,if_true]
  rfl
 have n53:=dFf h53
 rw [if_neg h53]
 by_cases h51:b=51
 ·have hi0:=h3 h51
  subst h51
  have wi:w64 ((i:Int)-1)=((i-1:Nat):Int):=(w64_id (by omega) (by omega)).trans (by omega)
  have c5:decide ((0:Int)<=((i-1:Nat):Int))=true:=dTt (by omega)
  have c6:decide (((i-1:Nat):Int)<((l.length:Nat):Int))=true:=dTt (by omega)
  simp only [F193,c1,cTt,cFf,nCt,hc,c2,Bool.true_or,c4,hd,oBs,n57,n50,n53,wi,c5,c6,bAs,dTr,if_true]
  rfl
 have n51:=dFf h51
 rw [if_neg h51]
 by_cases hmw:b=77\/b=87
 ·rw [if_pos hmw]
  have e:=F219_eq hg hl hi b
  by_cases h77:b=77
  ·have n77:=dTt h77
   simp only [F193,c1,cTt,cFf,nCt,hc,c2,Bool.true_or,c4,hd,oBs,n57,n50,n53,n51,n77,e]
  ·have n77:=dFf h77
   have n87:=dTt (hmw.resolve_left h77)
   simp only [F193,c1,cTt,cFf,nCt,hc,c2,Bool.true_or,c4,hd,oBs,n57,n50,n53,n51,n77,n87,e]
 have n77:=dFf (λh=>hmw (.inl h):¬ b=77)
 have n87:=dFf (λh=>hmw (.inr h):¬ b=87)
 rw [if_neg hmw]
 by_cases hgm:b=71\/b=109\/b=84\/b=85
 ·rw [if_pos hgm]
  by_cases h71:b=71
  ·have n71:=dTt h71
   simp only [F193,c1,cTt,cFf,nCt,hc,c2,Bool.true_or,c4,hd,oBs,n57,n50,n53,n51,n77,n87,n71,l1,l2,agr_self]
  have n71:=dFf h71
  by_cases h109:b=109
  ·have n109:=dTt h109
   simp only [F193,c1,cTt,cFf,nCt,hc,c2,Bool.true_or,c4,hd,oBs,n57,n50,n53,n51,n77,n87,n71,n109,l1,l2,agr_self]
  have n109:=dFf h109
  by_cases h84:b=84
  ·have n84:=dTt h84
   simp only [F193,c1,cTt,cFf,nCt,hc,c2,Bool.true_or,c4,hd,oBs,n57,n50,n53,n51,n77,n87,n71,n109,n84,l1,l2,agr_self]
  have n84:=dFf h84
  have n85:decide (b=85)=true:=dTt (by rcases hgm with h | h | h | h <;> first | exact absurd h h71 | exact absurd h h109 | exact absurd h h84 | exact h)
  simp only [F193,c1,cTt,cFf,nCt,hc,c2,Bool.true_or,c4,hd,oBs,n57,n50,n53,n51,n77,n87,n71,n109,n84,n85,l1,l2,agr_self]
 ·rw [if_neg hgm]
  have n71:=dFf (λh=>hgm (.inl h):¬ b=71)
  have n109:=dFf (λh=>hgm (.inr (.inl h)):¬ b=109)
  have n84:=dFf (λh=>hgm (.inr (.inr (.inl h))):¬ b=84)
  have n85:=dFf (λh=>hgm (.inr (.inr (.inr h))):¬ b=85)
  simp only [F193,c1,cTt,cFf,nCt,hc,c2,Bool.true_or,c4,hd,oBs,n57,n50,n53,n51,n77,n87,n71,n109,n84,n85]
def mt (l:Ls):List UInt8->Nat->Nat×Bool
 | [],a=>(a,true)
 | b::p,a=>if a<l.length/\fitS l a b=true then mt l p (a+1) else (a,false)
theorem mt_le (l:Ls):∀ (p:List UInt8) (a:Nat),a<=(mt l p a).1/\(mt l p a).1<=a+p.length
 | [],a=>⟨Nat.le_refl _,by simp [mt]⟩
 | b::p,a=>by
  unfold mt
  split
  ·have:=mt_le l p (a+1);simp;omega
  ·simp
theorem mt_true {l:Ls}:∀ {p:List UInt8} {a:Nat},(mt l p a).2=true->(mt l p a).1=a+p.length
 | [],a,_=>by simp [mt]
 | b::p,a,h=>by
  unfold mt at h ⊢
  split
  ·next hc=>rw [if_pos hc] at h;rw [mt_true h];simp;omega
  ·next hc=>rw [if_neg hc] at h;cases h
theorem mt_false {l:Ls}:∀ {p:List UInt8} {a:Nat},(mt l p a).2=false->(mt l p a).1<a+p.length
 | [],a,h=>by cases h
 | b::p,a,h=>by
  unfold mt at h ⊢
  split
  ·next hc=>rw [if_pos hc] at h;have:=mt_false h;simp;omega
  ·simp
theorem mt_append (l:Ls):∀ (p q:List UInt8) (a:Nat),mt l (p++q) a=if (mt l p a).2=true then mt l q (a+p.length) else mt l p a
 | [],q,a=>by simp [mt]
 | b::p,q,a=>by
  by_cases hc:a<l.length/\fitS l a b=true
  ·have h1:mt l (b::p++q) a=mt l (p++q) (a+1):=by simp only [List.cons_append,mt];rw [if_pos hc]
   have h2:mt l (b::p) a=mt l p (a+1):=by simp only [mt];rw [if_pos hc]
   rw [h1,h2,mt_append l p q (a+1),List.length_cons,show a+1+p.length=a+(p.length+1) by omega]
  ·have h1:mt l (b::p++q) a=(a,false):=by simp only [List.cons_append,mt];rw [if_neg hc]
   have h2:mt l (b::p) a=(a,false):=by simp only [mt];rw [if_neg hc]
   rw [h1,h2,if_neg (by simp)]
theorem mt_len {l:Ls}:∀ {p:List UInt8} {a:Nat},a<=l.length->(mt l p a).1<=l.length
 | [],_,h=>h
 | b::p,a,h=>by
  unfold mt
  split
  ·next hc=>exact mt_len hc.1
  ·exact h
theorem F146_eq' {l:Ls} (hg:Good l) (hl:l.length<=2000000) {p:List UInt8} (hp:p.length<=100) (h3:p.getD 0 0≠51):F146 ((l,p,()),())=some (((mt l p 0).1:Int),()):=by
 obtain ⟨r,h1,h2⟩:=loop_ind (f:=B146_0) (λs=>∃ (i:Nat),s=((l,p,(i:Int),()),())/\i<=p.length/\mt l (p.drop i) i=mt l p 0) (λs=>((p.length:Int)-s.1.2.2.1).toNat) (λr=>r=((((mt l p 0).1:Int),()),()))
  (λs ⟨i,hs,hi,hm⟩=>by
   subst hs
   by_cases hlt:i<p.length
   ·have hd:p.drop i=p.getD i 0::p.drop (i+1):=by rw [List.drop_eq_getElem_cons hlt,getD_lt hlt]
    rw [hd] at hm
    have c1:decide ((0:Int)<=(i:Int))=true:=dTt (by omega)
    have c2:decide ((i:Int)<((p.length:Nat):Int))=true:=dTt (by omega)
    by_cases hll:i<l.length
    ·have c3:decide ((i:Int)<((l.length:Nat):Int))=true:=dTt (by omega)
     have wi:w64 ((i:Int)+1)=((i+1:Nat):Int):=by rw [w64_id (by omega) (by omega)];rfl
     have e:=F193_eq hg hl hll (b:=p.getD i 0) (λh=>by
      cases i with
      | zero=>exact absurd h h3
      | succ i=>omega)
     cases hf:fitS l i (p.getD i 0) with
     | true =>
      left
      simp only [mt] at hm
      rw [if_pos ⟨hll,hf⟩] at hm
      refine ⟨_,?_,⟨i+1,rfl,by omega,hm⟩,by simp only;omega⟩
      simp only [B146_0,c1,c2,c3,bAs,Bool.true_or,cTt,nCt,e,oBs,hf,wi]
     | false =>
      right
      simp only [mt] at hm
      rw [if_neg (by rw [hf];simp)] at hm
      exact ⟨_,by simp only [B146_0,c1,c2,c3,bAs,Bool.true_or,cTt,cFf,nCt,e,oBs,hf] <;> rfl,by rw [<- hm]⟩
    ·right
     have c3:decide ((i:Int)<((l.length:Nat):Int))=false:=dFf (by omega)
     simp only [mt] at hm
     rw [if_neg (λh=>hll h.1)] at hm
     exact ⟨_,by simp only [B146_0,c1,c2,c3,bAs,Bool.true_or,Bool.false_and,cTt,cFf] <;> rfl,by rw [<- hm]⟩
   ·right
    have c2:decide ((i:Int)<((p.length:Nat):Int))=false:=dFf (by omega)
    rw [List.drop_of_length_le (by omega)] at hm
    simp only [mt] at hm
    exact ⟨_,by simp only [B146_0,c2,Bool.and_false,Bool.not_false,Bool.or_true,cTt,cFf] <;> rfl,by rw [<- hm]⟩)
  (p:=((l,p,0,()),())) ⟨0,rfl,Nat.zero_le _,rfl⟩ (by unfold FUEL;simp only;omega)
 subst h2
 have h1':L146_0 ((l,p,0,()),())=some ((((mt l p 0).1:Int),()),()):=h1
 simp only [F146,h1',oBs]
def full (l:Ls) (p:List UInt8):Bool:=decide ((mt l p 0).1=l.length)&&decide ((mt l p 0).1=p.length)
def bst (l:Ls):Ls->Nat->Nat->Int×Nat
 | [],_,far=>(-1,far)
 | p::r,k,far=>if full l p=true then ((k:Int),(mt l p 0).1) else bst l r (k+1) (if far<(mt l p 0).1 then (mt l p 0).1 else far)
theorem F99_eq' {l:Ls} (hg:Good l) (hl:l.length<=2000000) {all:Ls} (ha:all.length<=1000) (hp:∀ p∈all,p.length<=100/\p.getD 0 0≠51) :
  F99 ((l,all,()),())=some (((bst l all 0 0).1,((bst l all 0 0).2:Int),()),()):=by
 generalize hT:bst l all 0 0=T
 obtain ⟨r,h1,h2⟩:=loop_ind (f:=B99_0) (λs=>∃ (i far:Nat),s=((l,all,(far:Int),(i:Int),()),())/\i<=all.length/\bst l (all.drop i) i far=T) (λs=>((all.length:Int)-s.1.2.2.2.1).toNat)
  (λr=>(∃ far:Nat,r=Sum.inl (((far:Int),()),())/\T=(-1,far))\/r=Sum.inr ((T.1,(T.2:Int),()),()))
  (λs ⟨i,far,hs,hi,hb⟩=>by
   subst hs
   by_cases hlt:i<all.length
   ·have hd:all.drop i=all.getD i []::all.drop (i+1):=by rw [List.drop_eq_getElem_cons hlt,getD_ltL hlt]
    have hm:all.getD i []∈all:=by rw [getD_ltL hlt];exact List.getElem_mem _
    rw [hd] at hb
    simp only [bst] at hb
    have c1:decide ((i:Int)<((all.length:Nat):Int))=true:=dTt (by omega)
    have c2:decide ((0:Int)<=(i:Int))=true:=dTt (by omega)
    have wi:w64 ((i:Int)+1)=((i+1:Nat):Int):=by rw [w64_id (by omega) (by omega)];rfl
    have e:=F146_eq' hg hl (hp _ hm).1 (hp _ hm).2
    have cf:(decide ((((mt l (all.getD i []) 0).1:Nat):Int)=((l.length:Nat):Int))&&decide ((((mt l (all.getD i []) 0).1:Nat):Int)=(((all.getD i []).length:Nat):Int)))=full l (all.getD i []):=by
     unfold full
     congr 1
     ·rw [decide_eq_decide];omega
     ·rw [decide_eq_decide];omega
    cases hf:full l (all.getD i []) with
    | true =>
     right
     rw [hf] at cf
     rw [hf,if_pos rfl] at hb
     refine ⟨_,?_,.inr rfl⟩
     rw [<- hb]
     simp only [B99_0,c1,c2,bAs,cTt,nCt,e,oBs,Bool.true_or,cf]
    | false =>
     left
     rw [hf] at cf
     rw [hf,if_neg (by simp)] at hb
     by_cases hfar:far<(mt l (all.getD i []) 0).1
     ·rw [if_pos hfar] at hb
      have c3:decide ((far:Int)<(((mt l (all.getD i []) 0).1:Nat):Int))=true:=dTt (by omega)
      refine ⟨_,?_,⟨i+1,_,rfl,by omega,hb⟩,by simp only;omega⟩
      simp only [B99_0,c1,c2,bAs,cTt,cFf,nCt,e,oBs,Bool.true_or,cf,c3,wi]
     ·rw [if_neg hfar] at hb
      have c3:decide ((far:Int)<(((mt l (all.getD i []) 0).1:Nat):Int))=false:=dFf (by omega)
      refine ⟨_,?_,⟨i+1,_,rfl,by omega,hb⟩,by simp only;omega⟩
      simp only [B99_0,c1,c2,bAs,cTt,cFf,nCt,e,oBs,Bool.true_or,cf,c3,wi]
   ·right
    have c1:decide ((i:Int)<((all.length:Nat):Int))=false:=dFf (by omega)
    rw [List.drop_of_length_le (by omega)] at hb
    simp only [bst] at hb
    exact ⟨_,by simp only [B99_0,c1,cFf] <;> rfl,.inl ⟨far,rfl,hb.symm⟩⟩)
  (p:=((l,all,0,0,()),())) ⟨0,0,rfl,Nat.zero_le _,hT⟩ (by unfold FUEL;simp only;omega)
 rcases h2 with ⟨far,rfl,hTf⟩ | rfl
 ·have h1':L99_0 ((l,all,0,0,()),())=some (Sum.inl (((far:Int),()),())):=h1
  simp only [F99,h1',oBs,hTf]
 ·have h1':L99_0 ((l,all,0,0,()),())=some (Sum.inr ((T.1,(T.2:Int),()),())):=h1
  simp only [F99,h1',oBs]
theorem bst_of {l:Ls}:∀ {all:Ls} {k far:Nat} {q:List UInt8} {kq:Nat},(hq:all[kq]?=some q)->(∀ p∈all,(mt l p 0).1<=(mt l q 0).1)->(∀ i p,all[i]?=some p->full l p=true->i=kq)->far<=(mt l q 0).1 ->
  bst l all k far=if full l q=true then (((k+kq:Nat):Int),(mt l q 0).1) else (-1,(mt l q 0).1)
 | [],k,far,q,kq,hq,_,_,_=>by simp at hq
 | p::r,k,far,q,kq,hq,hle,huniq,hfar=>by
  simp only [bst]
  cases hfp:full l p with
  | true =>
   have hk:=huniq 0 p (by simp) hfp
   subst hk
   simp only [List.getElem?_cons_zero,oSi] at hq
   subst hq
   rw [if_pos rfl,if_pos hfp];rfl
  | false =>
   rw [if_neg (by simp)]
   have hp1:=hle p (by simp)
   have hfar':(if far<(mt l p 0).1 then (mt l p 0).1 else far)<=(mt l q 0).1:=by split <;> omega
   cases kq with
   | succ kq =>
    rw [bst_of (all:=r) (k:=k+1) (kq:=kq) (q:=q) (by simpa using hq) (λp hp=>hle p (List.mem_cons_of_mem _ hp)) (λi p hi hf=>by have:=huniq (i+1) p (by simpa using hi) hf;omega) hfar']
    rw [show k+1+kq=k+(kq+1) by omega]
   | zero =>
    simp only [List.getElem?_cons_zero,oSi] at hq
    subst hq
    have hpp:(if far<(mt l p 0).1 then (mt l p 0).1 else far)=(mt l p 0).1:=by split <;> omega
    rw [hpp,hfp]
    simp only [Bool.false_eq_true,if_false]
    have hno:∀ i p',r[i]?=some p'->full l p'=true->False:=λi p' hi hf=>by have:=huniq (i+1) p' (by simpa using hi) hf;omega
    have hle':∀ p'∈r,(mt l p' 0).1<=(mt l p 0).1:=λp' hp'=>hle p' (List.mem_cons_of_mem _ hp')
    clear hle huniq hp1 hfar hfar' hpp
    generalize (mt l p 0).1=m at hle' ⊢
    clear hfp
    induction r generalizing k with
    | nil=>rfl
    | cons x r ih =>
     simp only [bst]
     have hx:full l x=false:=by
      cases hx:full l x
      ·rfl
      ·exact (hno 0 x (by simp) hx).elim
     rw [hx,if_neg (by simp)]
     have hxm:=hle' x (by simp)
     rw [if_neg (by omega)]
     exact ih (k:=k+1) (λi p' hi hf=>hno (i+1) p' (by simpa using hi) hf) λp' hp'=>hle' p' (List.mem_cons_of_mem _ hp')
end
section
variable {l:Ls} {a:Nat}
def st (l:Ls) (r:Nat×Bool):Nat×Int:=(r.1,if r.2=true then 0 else if r.1=l.length then 3 else 4)
theorem st_zero {l:Ls} {r:Nat×Bool} (h:(st l r).2=0):r.2=true:=by
 unfold st at h
 cases hr:r.2
 ·rw [hr] at h
  simp only [Bool.false_eq_true,if_false] at h
  split at h <;> cases h
 ·rfl
structure Sim (l:Ls) (X:Nat×Int->Nat×Int) (q:List UInt8) (a:Nat):Prop where
 go:a<=l.length->X (a,0)=st l (mt l q a)
 stay:∀ p,p.2≠0->X p=p
theorem Sim.comp {X Y:Nat×Int->Nat×Int} {q r:List UInt8} (h1:Sim l X q a) (h2:Sim l Y r (a+q.length)):Sim l (λp=>Y (X p)) (q++r) a where
 go:=λha=>by
  show Y (X (a,0))=_
  rw [h1.go ha,mt_append]
  cases hq:(mt l q a).2 with
  | true =>
   have:=mt_true hq
   have hle:=mt_len (l:=l) (p:=q) ha
   rw [if_pos rfl]
   have:st l (mt l q a)=(a+q.length,0):=by unfold st;rw [hq,if_pos rfl,this]
   rw [this]
   exact h2.go (by omega)
  | false =>
   rw [if_neg (by simp)]
   refine h2.stay _ ?_
   intro h0
   have:=st_zero h0
   rw [hq] at this;cases this
 stay:=λp hp=>by
  show Y (X p)=p
  rw [h1.stay p hp,h2.stay p hp]
theorem Sim.nil (l:Ls) (a:Nat):Sim l (λp=>p) [] a:=⟨λ_=>rfl,λ_ _=>rfl⟩
theorem peek_ne (hg:Good l):peek l a≠[]<->a<l.length:=by
 unfold peek
 constructor
 ·intro h
  rcases Nat.lt_or_ge a l.length with h1 | h1
  ·exact h1
  ·exact absurd (by rw [List.getD_eq_getElem?_getD,List.getElem?_eq_none h1];rfl) h
 ·intro h
  rw [getD_ltL h];exact hg.ne _ (List.getElem_mem _)
theorem tk_st (hg:Good l) {f:List UInt8->Bool} {b:UInt8} (hf:a<l.length->f (peek l a)=fitS l a b):(tk f l a 0).2=st l (mt l [b] a):=by
 unfold tk
 by_cases hc:a<l.length/\fitS l a b=true
 ·rw [if_pos ⟨rfl,(peek_ne hg).2 hc.1,by rw [hf hc.1];exact hc.2⟩]
  simp only [mt]
  rw [if_pos hc]
  rfl
 ·rw [if_neg (λh=>hc ⟨(peek_ne hg).1 h.2.1,by rw [<- hf ((peek_ne hg).1 h.2.1)];exact h.2.2⟩)]
  simp only [mt]
  rw [if_neg hc]
  rfl
theorem tk_stay {f:List UInt8->Bool} {p:Nat×Int} (h:p.2≠0):(tk f l p.1 p.2).2=p:=by
 unfold tk
 rw [if_neg (λhh=>h hh.1)]
 simp only [if_neg h]
theorem sim_tk (hg:Good l) {f:List UInt8->Bool} {b:UInt8} (hf:a<l.length->f (peek l a)=fitS l a b):Sim l (λp=>(tk f l p.1 p.2).2) [b] a :=
 ⟨λ_=>tk_st hg hf,λ_ h=>tk_stay h⟩
def own (b:UInt8):Prop:=b≠57/\b≠50/\b≠53/\b≠51/\¬ (b=77\/b=87)/\¬ (b=71\/b=109\/b=84\/b=85)
theorem fit_own {b:UInt8} (h:own b):fitS l a b=decide (peek l a=[b]):=by
 unfold fitS
 rw [if_neg h.1,if_neg h.2.1,if_neg h.2.2.1,if_neg h.2.2.2.1,if_neg h.2.2.2.2.1,if_neg h.2.2.2.2.2]
 rfl
instance (b:UInt8):Decidable (own b):=by unfold own;infer_instance
theorem sim_sg (hg:Good l) {b:UInt8} (h:own b):Sim l (sg [b] l) [b] a:=sim_tk hg λ_=>(fit_own h).symm
theorem nm_stay {b:Int}:∀ (j:Nat) {v:Int} {p:Nat×Int},p.2≠0->(nm b l j v p.1 p.2).2=p
 | 0,_,_,_=>rfl
 | j+1,v,p,h=>by
  simp only [nm]
  have ht:=tk_stay (l:=l) (f:=λc=>isdig c&&decide ((v*10+dval c)*10^j<b)) h
  have h1:(tk (λc=>isdig c&&decide ((v*10+dval c)*10^j<b)) l p.1 p.2).2.1=p.1:=by rw [ht]
  have h2:(tk (λc=>isdig c&&decide ((v*10+dval c)*10^j<b)) l p.1 p.2).2.2=p.2:=by rw [ht]
  rw [h1,h2]
  exact nm_stay j h
def dv (l:Ls):Nat->Int->Nat->Int
 | 0,v,_=>v
 | j+1,v,a=>dv l j (v*10+dval (peek l a)) (a+1)
theorem nm_cons (hg:Good l) {b:Int} {j:Nat} {v:Int} {x:UInt8} {q:List UInt8} (_ha:a<=l.length) (hf:a<l.length->(isdig (peek l a)&&decide ((v*10+dval (peek l a))*10^j<b))=fitS l a x)
  (ih:a<l.length->fitS l a x=true->(nm b l j (v*10+dval (peek l a)) (a+1) 0).2=st l (mt l q (a+1))/\((mt l q (a+1)).2=true->(nm b l j (v*10+dval (peek l a)) (a+1) 0).1=dv l j (v*10+dval (peek l a)) (a+1))) :
  (nm b l (j+1) v a 0).2=st l (mt l (x::q) a)/\((mt l (x::q) a).2=true->(nm b l (j+1) v a 0).1=dv l (j+1) v a):=by
 by_cases hc:a<l.length/\fitS l a x=true
 ·have hp:=(peek_ne hg).2 hc.1
  have ht:tk (λc=>isdig c&&decide ((v*10+dval c)*10^j<b)) l a 0=(peek l a,a+1,0):=tk_yes rfl hp (by rw [hf hc.1];exact hc.2)
  simp only [nm,ht,mt,dv]
  rw [if_pos hc,if_neg hp]
  exact ih hc.1 hc.2
 ·have ht:(tk (λc=>isdig c&&decide ((v*10+dval c)*10^j<b)) l a 0).2=st l (a,false):=by
   rw [tk_no (λh=>hc ⟨(peek_ne hg).1 h.2.1,by rw [<- hf ((peek_ne hg).1 h.2.1)];exact h.2.2⟩)]
   rfl
  simp only [nm,mt]
  rw [if_neg hc]
  refine ⟨?_,λh=>by cases h⟩
  have h1:(tk (λc=>isdig c&&decide ((v*10+dval c)*10^j<b)) l a 0).2.1=(st l (a,false)).1:=by rw [ht]
  have h2:(tk (λc=>isdig c&&decide ((v*10+dval c)*10^j<b)) l a 0).2.2=(st l (a,false)).2:=by rw [ht]
  rw [h1,h2]
  exact nm_stay j (p:=st l (a,false)) (by intro h0;have:=st_zero h0;cases this)
theorem nm_nil {b v:Int}:(nm b l 0 v a 0).2=st l (mt l [] a)/\((mt l [] a).2=true->(nm b l 0 v a 0).1=dv l 0 v a):=⟨rfl,λ_=>rfl⟩
theorem dval_eq {c:List UInt8} (h:isdig c=true):dval c=((c.getD 0 0).toNat:Int)-48/\48<=(c.getD 0 0).toNat/\(c.getD 0 0).toNat<=57:=by
 simp only [isdig,bAt,dTe] at h
 refine ⟨?_,h.1.2,h.2⟩
 unfold dval
 generalize c.getD 0 0=b at h ⊢
 have h1:(48:UInt8)<=b:=by rw [UInt8.le_iff_toNat_le];exact h.1.2
 have:(b-48).toNat=b.toNat-48:=UInt8.toNat_sub_of_le _ _ h1
 omega
theorem fit57:fitS l a 57=isdig (peek l a):=rfl
theorem fit50:fitS l a 50=(isdig (peek l a)&&decide (((peek l a).getD 0 0).toNat<=50)):=rfl
theorem fit53:fitS l a 53=(isdig (peek l a)&&decide (((peek l a).getD 0 0).toNat<=53)):=rfl
theorem fit51:fitS l a 51=(isdig (peek l a)&&(decide (((peek l a).getD 0 0).toNat<=51)||!decide (peek l (a-1)=[50]))):=rfl
theorem dig_and {c:List UInt8} {x y:Bool} (h:isdig c=true->x=y):(isdig c&&x)=(isdig c&&y):=by
 cases hc:isdig c
 ·rfl
 ·rw [h hc]
structure Num (l:Ls) (b:Int) (n:Nat) (q:List UInt8) (a:Nat):Prop where
 sim:Sim l (λp=>(nn b n l p).2) q a
 val:a<=l.length->(mt l q a).2=true->(nn b n l (a,0)).1=dv l n 0 a
theorem Num.of {b:Int} {n:Nat} {q:List UInt8} (h:a<=l.length->(nm b l n 0 a 0).2=st l (mt l q a)/\((mt l q a).2=true->(nm b l n 0 a 0).1=dv l n 0 a)):Num l b n q a :=
 ⟨⟨λha=>(h ha).1,λ_p hp=>nm_stay n hp⟩,λha=>(h ha).2⟩
theorem num10 (hg:Good l):Num l 10 1 [57] a:=.of λha=>nm_cons hg ha (λ_=>by
  rw [fit57,<- Bool.and_true (isdig (peek l a)),Bool.and_assoc,Bool.true_and]
  refine dig_and λhd=>?_
  have:=isdig_val hd
  simp;omega) λ_ _=>nm_nil
theorem num60 (hg:Good l):Num l 60 2 [53,57] a:=.of λha=>nm_cons hg ha (λ_=>by
  rw [fit53]
  refine dig_and λhd=>?_
  have:=dval_eq hd
  rw [decide_eq_decide]
  generalize ((peek l a).getD 0 0).toNat=e at this ⊢
  simp;omega) λh1 h2=>nm_cons hg (by omega) (λ_=>by
  rw [fit53,bAt,dTe] at h2
  have h3:=dval_eq h2.1
  rw [fit57,<- Bool.and_true (isdig (peek l (a+1))),Bool.and_assoc,Bool.true_and]
  refine dig_and λhd=>?_
  have:=isdig_val hd
  simp;omega) λ_ _=>nm_nil
theorem is50 {c:List UInt8} (h:isdig c=true):c=[50]<->(c.getD 0 0).toNat=50:=by
 simp only [isdig,bAt,dTe] at h
 obtain ⟨x,rfl⟩:=List.length_eq_one_iff.1 h.1.1
 constructor
 ·intro h;rw [h];rfl
 ·intro h
  have h':x.toNat=50:=h
  have:x=50:=UInt8.toNat_inj.1 (by rw [h'];rfl)
  rw [this]
theorem num24 (hg:Good l):Num l 24 2 [50,51] a:=.of λha=>nm_cons hg ha (λ_=>by
  rw [fit50]
  refine dig_and λhd=>?_
  have:=dval_eq hd
  rw [decide_eq_decide]
  generalize ((peek l a).getD 0 0).toNat=e at this ⊢
  simp;omega) λh1 h2=>nm_cons hg (by omega) (λ_=>by
  rw [fit50,bAt,dTe] at h2
  have h3:=dval_eq h2.1
  have h5:=is50 h2.1
  have h6:=h2.2
  rw [fit51,Nat.add_sub_cancel]
  refine dig_and λhd=>?_
  have h4:=dval_eq hd
  have:(decide (((peek l (a+1)).getD 0 0).toNat<=51)||!decide (peek l a=[50]))=decide (((peek l (a+1)).getD 0 0).toNat<=51\/¬ peek l a=[50]):=by
   rw [Bool.decide_or,decide_not]
  rw [this,decide_eq_decide,h5]
  generalize ((peek l a).getD 0 0).toNat=e at h3 h6 ⊢
  generalize ((peek l (a+1)).getD 0 0).toNat=e' at h4 ⊢
  simp;omega) λ_ _=>nm_nil
theorem num10000 (hg:Good l):Num l 10000 4 [57,57,57,57] a:=.of λha=>nm_cons hg ha (λ_=>by
  rw [fit57,<- Bool.and_true (isdig (peek l a)),Bool.and_assoc,Bool.true_and]
  refine dig_and λhd=>?_
  have:=isdig_val hd
  simp;omega) λh1 h2=>nm_cons hg (by omega) (λ_=>by
  rw [fit57] at h2
  have h3:=isdig_val h2
  rw [fit57,<- Bool.and_true (isdig (peek l (a+1))),Bool.and_assoc,Bool.true_and]
  refine dig_and λhd=>?_
  have:=isdig_val hd
  simp;omega) λh3 h4=>nm_cons hg (by omega) (λ_=>by
  rw [fit57] at h2 h4
  have h5:=isdig_val h2
  have h6:=isdig_val h4
  rw [fit57,<- Bool.and_true (isdig (peek l (a+1+1))),Bool.and_assoc,Bool.true_and]
  refine dig_and λhd=>?_
  have:=isdig_val hd
  simp;omega) λh5 h6=>nm_cons hg (by omega) (λ_=>by
  rw [fit57] at h2 h4 h6
  have h7:=isdig_val h2
  have h8:=isdig_val h4
  have h9:=isdig_val h6
  rw [fit57,<- Bool.and_true (isdig (peek l (a+1+1+1))),Bool.and_assoc,Bool.true_and]
  refine dig_and λhd=>?_
  have:=isdig_val hd
  simp;omega) λ_ _=>nm_nil
end
section
variable {l:Ls} {a:Nat}
structure Nm3 (names:Ls):Prop where
 nms:Nms names
 len:∀ x∈names,x.length=3
 let_:∀ x∈names,∀ b∈x,(65<=b.toNat/\b.toNat<=90)\/(97<=b.toNat/\b.toNat<=122)
theorem weeks_3:Nm3 weeks:=⟨weeks_nms,by decide,by decide⟩
theorem months_3:Nm3 months:=⟨months_nms,by decide,by decide⟩
theorem low1_alpha {b:UInt8} (h:(65<=b.toNat/\b.toNat<=90)\/(97<=b.toNat/\b.toNat<=122)):97<=(low1 b).toNat/\(low1 b).toNat<=122:=by
 unfold low1
 split
 ·next hc =>
  have:(b+32).toNat=b.toNat+32:=by
   rw [UInt8.toNat_add]
   show (b.toNat+32) % 256=_
   omega
  omega
 ·next hc=>omega
theorem low1_big {b:UInt8} (h:128<=b.toNat):low1 b=b:=by
 unfold low1
 rw [if_neg (by omega)]
theorem alpha_low1 {b:UInt8} (h:97<=(low1 b).toNat/\(low1 b).toNat<=122):alpha [b]=true:=by
 have key:(65<=b.toNat/\b.toNat<=90)\/(97<=b.toNat/\b.toNat<=122):=by
  unfold low1 at h
  split at h
  ·next hc=>exact .inl hc
  ·exact .inr h
 simp only [alpha,List.length_cons,List.length_nil,dTr,Bool.true_and]
 show ((decide (65<=b.toNat)&&decide (b.toNat<=90))||(decide (97<=b.toNat)&&decide (b.toNat<=122)))=true
 rw [Bool.or_eq_true,bAt,bAt,dTe,dTe,dTe,dTe]
 exact key
theorem low_append (x y:List UInt8):low (x++y)=low x++low y:=by simp [low]
theorem low_len (x:List UInt8):(low x).length=x.length:=by simp [low]
theorem low_take (x:List UInt8) (n:Nat):(low x).take n=low (x.take n):=by simp [low,List.map_take]
theorem step_iff {x got:List UInt8} {b:UInt8} {j:Nat} (hx:j<x.length) (hj:got.length=j):(low x).take (j+1)=low (got++[b])<->low (x.take j)=low got/\low ((x.drop j).take 1)=low [b]:=by
 have h1:x.take (j+1)=x.take j++(x.drop j).take 1:=by rw [List.take_add]
 rw [low_take,h1,low_append,low_append]
 constructor
 ·intro h
  have hl:(low (x.take j)).length=(low got).length:=by rw [low_len,low_len,List.length_take];omega
  exact List.append_inj h hl
 ·rintro ⟨h1,h2⟩
  rw [h1,h2]
theorem goes_begins {names:Ls} (hN:Nm3 names) {j:Nat} {got c:List UInt8} (hj:got.length=j) (hj3:j<3) (hc:c≠[]) (hb:2<=c.length->128<=(c.getD 0 0).toNat):goes names j got c=begins names (low (got++c)):=by
 rw [Bool.eq_iff_iff]
 simp only [goes,begins,List.any_eq_true,bAt,dTe,low_len,List.length_append]
 cases c with
 | nil=>exact absurd rfl hc
 | cons b t =>
  cases t with
  | nil =>
   constructor
   ·rintro ⟨x,hx,⟨h1,h2⟩,h3⟩
    refine ⟨by simp;omega,x,hx,?_⟩
    rw [hj]
    exact (step_iff h1 hj).2 ⟨h2,h3⟩
   ·rintro ⟨_,x,hx,h⟩
    have hxl:=hN.len x hx
    rw [hj] at h
    obtain ⟨h1,h2⟩:=(step_iff (by omega) hj).1 h
    exact ⟨x,hx,⟨by omega,h1⟩,h2⟩
  | cons b2 t =>
   have hbig:128<=b.toNat:=hb (by simp)
   constructor
   ·rintro ⟨x,hx,_,h3⟩
    have:=congrArg List.length h3
    rw [low_len,low_len,List.length_take,List.length_drop,hN.len x hx] at this
    simp at this
    omega
   ·rintro ⟨h0,x,hx,h⟩
    exfalso
    have hxl:=hN.len x hx
    have h1:=congrArg (λs=>s.getD j 0) h
    simp only [low_append] at h1
    have e1:(List.take (got.length+(b::b2::t).length) (low x)).getD j 0=low1 (x.getD j 0):=by
     rw [List.getD_eq_getElem?_getD,List.getElem?_take_of_lt (by simp;omega),low,List.getElem?_map,List.getD_eq_getElem?_getD,List.getElem?_eq_getElem (by omega)]
     rfl
    have e2:(low got++low (b::b2::t)).getD j 0=low1 b:=by
     have:low (b::b2::t)=low1 b::low (b2::t):=rfl
     rw [this]
     exact getD_mid (by rw [low_len,hj])
    rw [e1,e2,low1_big hbig] at h1
    have hm:x.getD j 0∈x:=by rw [getD_lt (by omega)];exact List.getElem_mem _
    have:=low1_alpha (hN.let_ x hx _ hm)
    rw [h1] at this
    omega
theorem goes_alpha {names:Ls} (hN:Nm3 names) {j:Nat} {got c:List UInt8} (h:goes names j got c=true):alpha c=true:=by
 simp only [goes,List.any_eq_true,bAt,dTe] at h
 obtain ⟨x,hx,⟨h1,_⟩,h3⟩:=h
 have hd:(x.drop j).take 1=[x.getD j 0]:=by
  rw [List.drop_eq_getElem_cons h1,getD_lt h1];rfl
 rw [hd] at h3
 have hl:=congrArg List.length h3
 rw [low_len,low_len] at hl
 obtain ⟨b,rfl⟩:=List.length_eq_one_iff.1 hl.symm
 have hb:low1 (x.getD j 0)=low1 b:=by
  have h3':[low1 (x.getD j 0)]=[low1 b]:=h3
  exact (List.cons.inj h3').1
 have hm:x.getD j 0∈x:=by rw [getD_lt h1];exact List.getElem_mem _
 have:=low1_alpha (hN.let_ x hx _ hm)
 rw [hb] at this
 exact alpha_low1 this
theorem cat_zero (l:Ls) (f:Nat):cat l f 0=[]:=by simp [cat,low]
theorem cat_one (h:a<l.length):cat l a 1=low (peek l a):=by
 rw [cat_snoc (n:=0) (by omega),cat_zero];rfl
theorem names_sim (hg:Good l) {names:Ls} (hN:Nm3 names) {b:UInt8} (hfit:∀ i,fitS l i b=begins names (cat l (bk l 2 i) (i+1-bk l 2 i))) (ha:a=0\/alpha (peek l (a-1))=false) :
  Sim l (λp=>(ww names l p).2) [b,b,b] a/\(a<=l.length->(mt l [b,b,b] a).2=true->∃ k:Nat,hit names 3 (peek l a++peek l (a+1)++peek l (a+2))=some k/\(ww names l (a,0)).1=k):=by
 have hit0:∀ k got,k<3->hit names k got=none:=λk got hk=>by
  unfold hit
  rw [List.findIdx?_eq_none_iff]
  intro x hx
  have:=hN.len x hx
  rw [dFf (by omega)]
  rfl
 have gpeek:∀ {i:Nat},i<l.length->peek l i≠[]/\(2<=(peek l i).length->128<=((peek l i).getD 0 0).toNat):=λ{i} hi=>by
  have:peek l i∈l:=by unfold peek;rw [getD_ltL hi];exact List.getElem_mem _
  exact ⟨hg.ne _ this,hg.big _ this⟩
 have bk0:bk l 2 a=a:=by
  unfold bk
  rcases ha with rfl | h
  ·rw [if_neg (by omega)]
  ·have h':alpha (l.getD (a-1) [])=false:=h
   rw [if_neg (by rw [h'];simp)]
 have stay:∀ p:Nat×Int,p.2≠0->(ww names l p).2=p:=λp hp=>by
  unfold ww
  simp only [wd,hit0 0 [] (by omega)]
  have ht:=tk_stay (l:=l) (f:=goes names 0 []) hp
  have he:(tk (goes names 0 []) l p.1 p.2).1=[]:=by
   unfold tk;rw [if_neg (λhh=>hp hh.1)]
  rw [if_pos he]
  exact ht
 have f0:a<l.length->goes names 0 [] (peek l a)=fitS l a b:=λhlt=>by
  rw [hfit,bk0,Nat.add_sub_cancel_left,cat_one hlt]
  exact goes_begins (j:=0) (got:=[]) hN rfl (by omega) (gpeek hlt).1 (gpeek hlt).2
 have no:∀ {j i:Nat} {got:List UInt8} {n:Nat},(i<l.length->goes names j got (peek l i)=fitS l i b)->¬ (i<l.length/\fitS l i b=true)->j<3->wd names l (n+1) j got i 0=(0,st l (i,false)):=λ{j i got n} hf hc hj=>by
  simp only [wd,hit0 j got hj]
  rw [tk_no (λh=>hc ⟨(peek_ne hg).1 h.2.1,by rw [<- hf ((peek_ne hg).1 h.2.1)];exact h.2.2⟩),if_pos rfl]
  rfl
 have yes:∀ {j i:Nat} {got:List UInt8} {n:Nat},(i<l.length->goes names j got (peek l i)=fitS l i b)->(i<l.length/\fitS l i b=true)->j<3->wd names l (n+1) j got i 0=wd names l n (j+1) (got++peek l i) (i+1) 0/\alpha (peek l i)=true/\(peek l i).length=1:=λ{j i got n} hf hc hj=>by
  have hgo:goes names j got (peek l i)=true:=by rw [hf hc.1];exact hc.2
  have hal:=goes_alpha hN hgo
  refine ⟨?_,hal,?_⟩
  ·simp only [wd,hit0 j got hj]
   rw [tk_yes rfl ((peek_ne hg).2 hc.1) hgo,if_neg ((peek_ne hg).2 hc.1)]
  ·simp only [alpha,bAt,dTe] at hal;exact hal.1
 by_cases c0:a<l.length/\fitS l a b=true
 ·obtain ⟨w1,al0,len0⟩:=yes (n:=4) f0 c0 (by omega)
  have bk1:bk l 2 (a+1)=a:=by
   unfold bk
   have h':alpha (l.getD (a+1-1) [])=true:=al0
   rw [if_pos ⟨by omega,h'⟩,Nat.add_sub_cancel]
   unfold bk
   rcases ha with rfl | h
   ·rw [if_neg (by omega)]
   ·have h':alpha (l.getD (a-1) [])=false:=h
    rw [if_neg (by rw [h'];simp)]
  have f1:a+1<l.length->goes names 1 ([]++peek l a) (peek l (a+1))=fitS l (a+1) b:=λhlt=>by
   rw [hfit,bk1,show a+1+1-a=1+1 by omega,cat_snoc (n:=1) (by omega),cat_one (by omega),List.nil_append,goes_begins hN len0 (by omega) (gpeek hlt).1 (gpeek hlt).2,low_append];rfl
  by_cases c1:a+1<l.length/\fitS l (a+1) b=true
  ·obtain ⟨w2,al1,len1⟩:=yes (n:=3) f1 c1 (by omega)
   have bk2:bk l 2 (a+2)=a:=by
    unfold bk
    have h':alpha (l.getD (a+2-1) [])=true:=al1
    rw [if_pos ⟨by omega,h'⟩,show a+2-1=a+1 by omega]
    unfold bk
    have h':alpha (l.getD (a+1-1) [])=true:=al0
    rw [if_pos ⟨by omega,h'⟩,Nat.add_sub_cancel]
    rfl
   have f2:a+1+1<l.length->goes names 2 ([]++peek l a++peek l (a+1)) (peek l (a+1+1))=fitS l (a+1+1) b:=λhlt=>by
    rw [hfit,show a+1+1=a+2 by omega,bk2,show a+2+1-a=1+1+1 by omega,cat_snoc (n:=1+1) (by omega),cat_snoc (n:=1) (by omega),cat_one (by omega),List.nil_append,
     goes_begins hN (by rw [List.length_append,len0,len1]) (by omega) (gpeek (show a+2<l.length by omega)).1 (gpeek (show a+2<l.length by omega)).2,low_append,low_append];rfl
   by_cases c2:a+1+1<l.length/\fitS l (a+1+1) b=true
   ·obtain ⟨w3,al2,len2⟩:=yes (n:=2) f2 c2 (by omega)
    have hgo:goes names 2 ([]++peek l a++peek l (a+1)) (peek l (a+1+1))=true:=by rw [f2 c2.1];exact c2.2
    have hk:∃ k:Nat,hit names 3 (peek l a++peek l (a+1)++peek l (a+2))=some k:=by
     rw [List.nil_append] at hgo
     simp only [goes,List.any_eq_true,bAt,dTe] at hgo
     obtain ⟨x,hx,⟨h1,h2⟩,h3⟩:=hgo
     obtain ⟨d,hd⟩:=List.length_eq_one_iff.1 len2
     have hxl:=hN.len x hx
     have heq:low x=low (peek l a++peek l (a+1)++peek l (a+2)):=by
      have h4:=(step_iff (x:=x) (got:=peek l a++peek l (a+1)) (b:=d) (j:=2) (by omega) (by rw [List.length_append,len0,len1])).2 ⟨h2,by rw [<- hd];exact h3⟩
      rw [List.take_of_length_le (by rw [low_len];omega),<- hd] at h4
      exact h4
     cases hh:hit names 3 (peek l a++peek l (a+1)++peek l (a+2)) with
     | some k=>exact ⟨k,rfl⟩
     | none =>
      unfold hit at hh
      rw [List.findIdx?_eq_none_iff] at hh
      have:=hh x hx
      rw [dTt hxl,dTt heq] at this
      cases this
    obtain ⟨k,hk⟩:=hk
    have hmt:mt l [b,b,b] a=(a+3,true):=by
     simp only [mt];rw [if_pos c0,if_pos c1,if_pos c2]
    have hw:ww names l (a,0)=((k:Int),a+3,0):=by
     unfold ww
     simp only
     rw [w1,w2,w3]
     simp only [wd,List.nil_append]
     have hk':hit names (0+1+1+1) (peek l a++peek l (a+1)++peek l (a+1+1))=some k:=hk
     rw [hk']
    refine ⟨⟨λ_=>?_,stay⟩,λ_ _=>⟨k,hk,by rw [hw]⟩⟩
    rw [hmt]
    show (ww names l (a,0)).2=_
    rw [hw];rfl
   ·have hmt:mt l [b,b,b] a=(a+2,false):=by
     simp only [mt];rw [if_pos c0,if_pos c1,if_neg c2]
    refine ⟨⟨λ_=>?_,stay⟩,λ_ h=>by rw [hmt] at h;cases h⟩
    rw [hmt]
    show (ww names l (a,0)).2=_
    unfold ww
    simp only
    rw [w1,w2,no f2 c2 (by omega)]
  ·have hmt:mt l [b,b,b] a=(a+1,false):=by
    simp only [mt];rw [if_pos c0,if_neg c1]
   refine ⟨⟨λ_=>?_,stay⟩,λ_ h=>by rw [hmt] at h;cases h⟩
   rw [hmt]
   show (ww names l (a,0)).2=_
   unfold ww
   simp only
   rw [w1,no f1 c1 (by omega)]
 ·have hmt:mt l [b,b,b] a=(a,false):=by
   simp only [mt];rw [if_neg c0]
  refine ⟨⟨λ_=>?_,stay⟩,λ_ h=>by rw [hmt] at h;cases h⟩
  rw [hmt]
  show (ww names l (a,0)).2=_
  unfold ww
  simp only
  rw [no f0 c0 (by omega)]
theorem fit77 (i:Nat):fitS l i 77=begins months (cat l (bk l 2 i) (i+1-bk l 2 i)):=rfl
theorem fit87 (i:Nat):fitS l i 87=begins weeks (cat l (bk l 2 i) (i+1-bk l 2 i)):=rfl
end
section
variable {l:Ls} {a:Nat}
def zn:Ls:=[[71,77,84],[85,84]]
theorem zn_nms:Nms zn:=⟨by decide,by decide⟩
theorem wd_no (hg:Good l) {names:Ls} {b:UInt8} {j i n:Nat} {got:List UInt8} (hh:hit names j got=none) (hf:i<l.length->goes names j got (peek l i)=fitS l i b) (hc:¬ (i<l.length/\fitS l i b=true)) :
  wd names l (n+1) j got i 0=(0,st l (i,false)):=by
 simp only [wd,hh]
 rw [tk_no (λh=>hc ⟨(peek_ne hg).1 h.2.1,by rw [<- hf ((peek_ne hg).1 h.2.1)];exact h.2.2⟩),if_pos rfl]
 rfl
theorem wd_yes (hg:Good l) {names:Ls} {b:UInt8} {j i n:Nat} {got:List UInt8} (hh:hit names j got=none) (hf:i<l.length->goes names j got (peek l i)=fitS l i b) (hc:i<l.length/\fitS l i b=true) :
  wd names l (n+1) j got i 0=wd names l n (j+1) (got++peek l i) (i+1) 0:=by
 have hgo:goes names j got (peek l i)=true:=by rw [hf hc.1];exact hc.2
 simp only [wd,hh]
 rw [tk_yes rfl ((peek_ne hg).2 hc.1) hgo,if_neg ((peek_ne hg).2 hc.1)]
theorem ww_stay {names:Ls} (h0:hit names 0 []=none) (p:Nat×Int) (hp:p.2≠0):(ww names l p).2=p:=by
 unfold ww
 simp only [wd,h0]
 have he:(tk (goes names 0 []) l p.1 p.2).1=[]:=by unfold tk;rw [if_neg (λhh=>hp hh.1)]
 rw [if_pos he]
 exact tk_stay hp
theorem fit71 (i:Nat):fitS l i 71=decide (low (peek l i)=[103]):=rfl
theorem fit109 (i:Nat):fitS l i 109=decide (low (peek l i)=[109]):=rfl
theorem fit84 (i:Nat):fitS l i 84=decide (low (peek l i)=[116]):=rfl
theorem fit85 (i:Nat):fitS l i 85=decide (low (peek l i)=[117]):=rfl
theorem goes_zn0 (c:List UInt8):goes zn 0 [] c=(decide ([103]=low c)||decide ([117]=low c)):=by
 rw [Bool.eq_iff_iff];simp [goes,zn,low,low1]
 exact or_congr decide_eq_true_iff.symm decide_eq_true_iff.symm
theorem goes_zn1 (g c:List UInt8):goes zn 1 g c=((decide ([103]=low g)&&decide ([109]=low c))||(decide ([117]=low g)&&decide ([116]=low c))):=by
 rw [Bool.eq_iff_iff];simp [goes,zn,low,low1]
 exact or_congr (and_congr decide_eq_true_iff.symm decide_eq_true_iff.symm) (and_congr decide_eq_true_iff.symm decide_eq_true_iff.symm)
theorem goes_zn2 (g c:List UInt8):goes zn 2 g c=(decide ([103,109]=low g)&&decide ([116]=low c)):=by
 rw [Bool.eq_iff_iff];simp [goes,zn,low,low1]
 exact and_congr decide_eq_true_iff.symm decide_eq_true_iff.symm
theorem hit_zn0:hit zn 0 []=none:=by decide
theorem hit_zn1 (g:List UInt8):hit zn 1 g=none:=by simp [hit,zn]
theorem hit_zn2 (g:List UInt8):hit zn 2 g=if decide ([117,116]=low g)=true then some 1 else none:=by
 by_cases h:[117,116]=low g
 ·rw [if_pos (dTt h)]
  unfold low at h
  simp [hit,zn,low,low1,List.findIdx?_cons,<- h]
 ·rw [if_neg (by rw [dFf h];simp)]
  unfold low at h
  simp [hit,zn,low,low1,List.findIdx?_cons,h]
theorem hit_zn3 (g:List UInt8):hit zn 3 g=if decide ([103,109,116]=low g)=true then some 0 else none:=by
 by_cases h:[103,109,116]=low g
 ·rw [if_pos (dTt h)]
  unfold low at h
  simp [hit,zn,low,low1,List.findIdx?_cons,<- h]
 ·rw [if_neg (by rw [dFf h];simp)]
  unfold low at h
  simp [hit,zn,low,low1,List.findIdx?_cons,h]
theorem zone_sim (hg:Good l):Sim l (λp=>(ww zn l p).2) (if low (peek l a)=[117] then [85,84] else [71,109,84]) a:=by
 refine ⟨λ_=>?_,ww_stay hit_zn0⟩
 by_cases hu:low (peek l a)=[117]
 ·rw [if_pos hu]
  have f0:a<l.length->goes zn 0 [] (peek l a)=fitS l a 85:=λ_=>by rw [goes_zn0,fit85,hu];decide
  by_cases c0:a<l.length/\fitS l a 85=true
  ·have w1:=wd_yes (n:=4) hg hit_zn0 f0 c0
   have f1:a+1<l.length->goes zn 1 ([]++peek l a) (peek l (a+1))=fitS l (a+1) 84:=λ_=>by
    rw [goes_zn1,fit84,List.nil_append,hu,dFf (by decide:¬ ([103]:List UInt8)=[117]),dTt (rfl:([117]:List UInt8)=[117]),Bool.false_and,Bool.false_or,Bool.true_and,decide_eq_decide]
    exact eq_comm
   by_cases c1:a+1<l.length/\fitS l (a+1) 84=true
   ·have w2:=wd_yes (n:=3) hg (hit_zn1 _) f1 c1
    have hmt:mt l [85,84] a=(a+2,true):=by simp only [mt];rw [if_pos c0,if_pos c1]
    have h84:low (peek l (a+1))=[116]:=by have:=c1.2;rw [fit84] at this;exact of_decide_eq_true this
    have hh:hit zn (0+1+1) ([]++peek l a++peek l (a+1))=some 1:=by
     rw [show 0+1+1=2 from rfl,hit_zn2,List.nil_append,low_append,hu,h84,if_pos (by decide)]
    rw [hmt]
    show (ww zn l (a,0)).2=_
    unfold ww
    simp only
    rw [w1,w2]
    simp only [wd,hh]
    rfl
   ·have hmt:mt l [85,84] a=(a+1,false):=by simp only [mt];rw [if_pos c0,if_neg c1]
    rw [hmt]
    show (ww zn l (a,0)).2=_
    unfold ww
    simp only
    rw [w1,wd_no hg (hit_zn1 _) f1 c1]
  ·have hmt:mt l [85,84] a=(a,false):=by simp only [mt];rw [if_neg c0]
   rw [hmt]
   show (ww zn l (a,0)).2=_
   unfold ww
   simp only
   rw [wd_no hg hit_zn0 f0 c0]
 ·rw [if_neg hu]
  have f0:a<l.length->goes zn 0 [] (peek l a)=fitS l a 71:=λ_=>by
   rw [goes_zn0,fit71,dFf (λh=>hu h.symm:¬ ([117]:List UInt8)=low (peek l a)),Bool.or_false,decide_eq_decide]
   exact eq_comm
  by_cases c0:a<l.length/\fitS l a 71=true
  ·have w1:=wd_yes (n:=4) hg hit_zn0 f0 c0
   have h71:low (peek l a)=[103]:=by have:=c0.2;rw [fit71] at this;exact of_decide_eq_true this
   have f1:a+1<l.length->goes zn 1 ([]++peek l a) (peek l (a+1))=fitS l (a+1) 109:=λ_=>by
    rw [goes_zn1,fit109,List.nil_append,h71,dTt (rfl:([103]:List UInt8)=[103]),dFf (by decide:¬ ([117]:List UInt8)=[103]),Bool.false_and,Bool.or_false,Bool.true_and,decide_eq_decide]
    exact eq_comm
   by_cases c1:a+1<l.length/\fitS l (a+1) 109=true
   ·have w2:=wd_yes (n:=3) hg (hit_zn1 _) f1 c1
    have h109:low (peek l (a+1))=[109]:=by have:=c1.2;rw [fit109] at this;exact of_decide_eq_true this
    have hh:hit zn (0+1+1) ([]++peek l a++peek l (a+1))=none:=by
     rw [show 0+1+1=2 from rfl,hit_zn2,List.nil_append,low_append,h71,h109,if_neg (by decide)]
    have f2:a+1+1<l.length->goes zn (0+1+1) ([]++peek l a++peek l (a+1)) (peek l (a+1+1))=fitS l (a+1+1) 84:=λ_=>by
     rw [show 0+1+1=2 from rfl,goes_zn2,fit84,List.nil_append,low_append,h71,h109,(by decide:decide (([103,109]:List UInt8)=[103]++[109])=true),Bool.true_and,decide_eq_decide]
     exact eq_comm
    by_cases c2:a+1+1<l.length/\fitS l (a+1+1) 84=true
    ·have w3:=wd_yes (n:=2) hg hh f2 c2
     have h84:low (peek l (a+1+1))=[116]:=by have:=c2.2;rw [fit84] at this;exact of_decide_eq_true this
     have hmt:mt l [71,109,84] a=(a+3,true):=by simp only [mt];rw [if_pos c0,if_pos c1,if_pos c2]
     have hh3:hit zn (0+1+1+1) ([]++peek l a++peek l (a+1)++peek l (a+1+1))=some 0:=by
      rw [show 0+1+1+1=3 from rfl,hit_zn3,List.nil_append,low_append,low_append,h71,h109,h84,if_pos (by decide)]
     rw [hmt]
     show (ww zn l (a,0)).2=_
     unfold ww
     simp only
     rw [w1,w2,w3]
     simp only [wd,hh3]
     rfl
    ·have hmt:mt l [71,109,84] a=(a+2,false):=by simp only [mt];rw [if_pos c0,if_pos c1,if_neg c2]
     rw [hmt]
     show (ww zn l (a,0)).2=_
     unfold ww
     simp only
     rw [w1,w2,wd_no hg hh f2 c2]
   ·have hmt:mt l [71,109,84] a=(a+1,false):=by simp only [mt];rw [if_pos c0,if_neg c1]
    rw [hmt]
    show (ww zn l (a,0)).2=_
    unfold ww
    simp only
    rw [w1,wd_no hg (hit_zn1 _) f1 c1]
  ·have hmt:mt l [71,109,84] a=(a,false):=by simp only [mt];rw [if_neg c0]
   rw [hmt]
   show (ww zn l (a,0)).2=_
   unfold ww
   simp only
   rw [wd_no hg hit_zn0 f0 c0]
theorem st_true {r:Nat×Bool} (h:r.2=true):st l r=(r.1,0):=by unfold st;rw [h,if_pos rfl]
theorem st_false {r:Nat×Bool} (h:r.2=false):(st l r).2≠0:=λh0=>by
 have:=st_zero h0
 rw [h] at this;cases this
def dq (l:Ls) (a:Nat):List UInt8:=if isdig (peek l (a+1))=true then [57,57] else [57]
theorem n12_sim (hg:Good l):Sim l (λp=>(n12S l p).2) (dq l a) a/\(a<=l.length->(mt l (dq l a) a).2=true->(n12S l (a,0)).1=dv l (dq l a).length 0 a):=by
 have n1:=num10 (a:=a) hg
 have n2:=num10 (a:=a+1) hg
 have stay:∀ p:Nat×Int,p.2≠0->(n12S l p).2=p:=λp hp=>by
  have h1:(nn 10 1 l p).2=p:=n1.sim.stay p hp
  simp only [n12S]
  split
  ·rw [h1];exact n1.sim.stay p hp
  ·exact h1
 by_cases hd:isdig (peek l (a+1))=true
 ·have hq:dq l a=[57]++[57]:=by unfold dq;rw [if_pos hd];rfl
  rw [hq]
  have go:a<=l.length->(n12S l (a,0)).2=st l (mt l ([57]++[57]) a)/\((mt l ([57]++[57]) a).2=true->(n12S l (a,0)).1=dv l 2 0 a):=λha=>by
   have h1:(nn 10 1 l (a,0)).2=_:=n1.sim.go ha
   rw [mt_append]
   cases hm:(mt l [57] a).2 with
   | true =>
    have hle:=mt_len (l:=l) (p:=[57]) ha
    have hpos:=mt_true hm
    rw [st_true hm,hpos] at h1
    have hv:=n1.val ha hm
    have h2:(nn 10 1 l (a+1,0)).2=_:=n2.sim.go (by rw [hpos] at hle;exact hle)
    rw [if_pos rfl]
    have h1':(nn 10 1 l (a,0)).2=(a+1,0):=h1
    have e:n12S l (a,0)=((nn 10 1 l (a,0)).1*10+(nn 10 1 l (a+1,0)).1,(nn 10 1 l (a+1,0)).2):=by
     simp only [n12S,h1'];rw [if_pos hd]
    rw [e]
    refine ⟨h2,λhm2=>?_⟩
    have hv2:=n2.val (by rw [hpos] at hle;exact hle) hm2
    simp only
    rw [hv,hv2]
    simp [dv]
   | false =>
    rw [if_neg (by simp)]
    refine ⟨?_,λh=>by rw [hm] at h;cases h⟩
    have hne:=st_false (l:=l) hm
    simp only [n12S]
    split
    ·rw [h1];exact n1.sim.stay _ hne
    ·exact h1
  exact ⟨⟨λha=>(go ha).1,stay⟩,λha hm=>(go ha).2 hm⟩
 ·have hq:dq l a=[57]:=by unfold dq;rw [if_neg hd]
  rw [hq]
  refine ⟨⟨λha=>?_,stay⟩,λha hm=>?_⟩
  ·have h1:(nn 10 1 l (a,0)).2=_:=n1.sim.go ha
   show (n12S l (a,0)).2=_
   cases hm:(mt l [57] a).2 with
   | true =>
    have hpos:=mt_true hm
    rw [<- h1]
    have h1':(nn 10 1 l (a,0)).2=(a+1,0):=by rw [h1,st_true hm,hpos];rfl
    simp only [n12S,h1']
    rw [if_neg hd,h1']
   | false =>
    have hne:=st_false (l:=l) hm
    simp only [n12S]
    split
    ·rw [h1];exact n1.sim.stay _ hne
    ·exact h1
  ·have h1:(nn 10 1 l (a,0)).2=_:=n1.sim.go ha
   have hpos:=mt_true hm
   have h1':(nn 10 1 l (a,0)).2=(a+1,0):=by rw [h1,st_true hm,hpos];rfl
   have hv:=n1.val ha hm
   have e:n12S l (a,0)=nn 10 1 l (a,0):=by simp only [n12S,h1'];rw [if_neg hd]
   rw [e,hv];rfl
def hq (may:Bool) (l:Ls) (a:Nat):List UInt8:=if may=true/\peek l (a+5)≠[58] then [50,51,58,53,57] else [50,51,58,53,57,58,53,57]
theorem hms_sim (hg:Good l) (may:Bool):Sim l (λp=>(hmsS may l p).2) (hq may l a) a/\(a<=l.length->(mt l (hq may l a) a).2=true->(hmsS may l (a,0)).1=3600*dv l 2 0 a+60*dv l 2 0 (a+3)+if may=true/\peek l (a+5)≠[58] then 0 else dv l 2 0 (a+6)):=by
 have n1:=num24 (a:=a) hg
 have s1:=sim_sg (a:=a+2) hg (b:=58) (by decide)
 have n2:=num60 (a:=a+3) hg
 have s2:=sim_sg (a:=a+5) hg (b:=58) (by decide)
 have n3:=num60 (a:=a+6) hg
 have A:=(n1.sim.comp s1).comp n2.sim
 have B:=s2.comp n3.sim
 have bstay:∀ X:Nat×Int,X.2≠0->(nn 60 2 l (sg [58] l X)).2=X:=λX h=>B.stay X h
 have stay:∀ p:Nat×Int,p.2≠0->(hmsS may l p).2=p:=λp hp=>by
  have h1:(nn 60 2 l (sg [58] l (nn 24 2 l p).2)).2=p:=A.stay p hp
  simp only [hmsS]
  split
  ·exact h1
  ·rw [h1];exact bstay p hp
 have parts:a<=l.length->(mt l [50,51,58,53,57] a).2=true->(nn 24 2 l (a,0)).2=(a+2,0)/\sg [58] l (a+2,0)=(a+3,0)/\(nn 60 2 l (a+3,0)).2=(a+5,0)/\(nn 24 2 l (a,0)).1=dv l 2 0 a/\(nn 60 2 l (a+3,0)).1=dv l 2 0 (a+3)/\a+5<=l.length:=λha hm=>by
  have e1:=mt_append l [50,51] [58,53,57] a
  rw [show ([50,51]++[58,53,57]:List UInt8)=[50,51,58,53,57] from rfl] at e1
  have m1:(mt l [50,51] a).2=true:=by
   cases hx:(mt l [50,51] a).2
   ·rw [hx,if_neg (by simp)] at e1;rw [e1,hx] at hm;cases hm
   ·rfl
  rw [m1,if_pos rfl] at e1
  have e2:=mt_append l [58] [53,57] (a+2)
  rw [show ([58]++[53,57]:List UInt8)=[58,53,57] from rfl] at e2
  rw [show a+([50,51]:List UInt8).length=a+2 from rfl] at e1
  have m2:(mt l [58] (a+2)).2=true:=by
   cases hx:(mt l [58] (a+2)).2
   ·rw [hx,if_neg (by simp)] at e2;rw [e1,e2,hx] at hm;cases hm
   ·rfl
  rw [m2,if_pos rfl,show a+2+([58]:List UInt8).length=a+3 from rfl] at e2
  have m3:(mt l [53,57] (a+3)).2=true:=by rw [e1,e2] at hm;exact hm
  have l1:=mt_len (l:=l) (p:=[50,51]) ha
  rw [mt_true m1] at l1
  have l2:=mt_len (l:=l) (p:=[58]) l1
  rw [show a+([50,51]:List UInt8).length=a+2 from rfl,mt_true m2] at l2
  have l3:=mt_len (l:=l) (p:=[53,57]) l2
  rw [show a+2+([58]:List UInt8).length=a+3 from rfl,mt_true m3] at l3
  have g1:(nn 24 2 l (a,0)).2=_:=n1.sim.go ha
  have g2:sg [58] l (a+2,0)=_:=s1.go l1
  have g3:(nn 60 2 l (a+3,0)).2=_:=n2.sim.go l2
  rw [st_true m1,mt_true m1] at g1
  rw [st_true m2,mt_true m2] at g2
  rw [st_true m3,mt_true m3] at g3
  exact ⟨g1,g2,g3,n1.val ha m1,n2.val l2 m3,l3⟩
 have Ago:a<=l.length->(nn 60 2 l (sg [58] l (nn 24 2 l (a,0)).2)).2=st l (mt l [50,51,58,53,57] a):=λha=>A.go ha
 by_cases hc:may=true/\peek l (a+5)≠[58]
 ·have hqe:hq may l a=[50,51,58,53,57]:=by unfold hq;rw [if_pos hc]
  rw [hqe,if_pos hc]
  refine ⟨⟨λha=>?_,stay⟩,λha hm=>?_⟩
  ·show (hmsS may l (a,0)).2=_
   have h1:=Ago ha
   cases hm:(mt l [50,51,58,53,57] a).2 with
   | true =>
    obtain ⟨p1,p2,p3,p4,p5,_⟩:=parts ha hm
    simp only [hmsS,p1,p2,p3]
    rw [if_pos hc]
    rw [p1,p2,p3] at h1
    exact h1
   | false =>
    have hne:=st_false (l:=l) hm
    simp only [hmsS]
    split
    ·exact h1
    ·rw [h1];exact bstay _ hne
  ·obtain ⟨p1,p2,p3,p4,p5,_⟩:=parts ha hm
   simp only [hmsS,p1,p2,p3,p4,p5]
   rw [if_pos hc]
   simp
 ·have hqe:hq may l a=[50,51,58,53,57]++[58,53,57]:=by unfold hq;rw [if_neg hc];rfl
  rw [hqe,if_neg hc]
  have Bgo:a+5<=l.length->(nn 60 2 l (sg [58] l (a+5,0))).2=st l (mt l [58,53,57] (a+5)):=λha=>B.go ha
  refine ⟨⟨λha=>?_,stay⟩,λha hm=>?_⟩
  ·show (hmsS may l (a,0)).2=_
   have h1:=Ago ha
   rw [mt_append]
   cases hm:(mt l [50,51,58,53,57] a).2 with
   | true =>
    obtain ⟨p1,p2,p3,p4,p5,p6⟩:=parts ha hm
    rw [if_pos rfl]
    simp only [hmsS,p1,p2,p3]
    rw [if_neg hc]
    exact Bgo p6
   | false =>
    have hne:=st_false (l:=l) hm
    rw [if_neg (by simp)]
    simp only [hmsS]
    split
    ·exact h1
    ·rw [h1];exact bstay _ hne
  ·rw [mt_append] at hm
   cases hm1:(mt l [50,51,58,53,57] a).2 with
   | false=>rw [hm1,if_neg (by simp)] at hm;rw [hm1] at hm;cases hm
   | true =>
    rw [hm1,if_pos rfl] at hm
    obtain ⟨p1,p2,p3,p4,p5,p6⟩:=parts ha hm1
    have e2:=mt_append l [58] [53,57] (a+5)
    have hm':(mt l ([58]++[53,57]) (a+5)).2=true:=hm
    have m2:(mt l [58] (a+5)).2=true:=by
     cases hx:(mt l [58] (a+5)).2
     ·rw [hx,if_neg (by simp)] at e2;rw [e2,hx] at hm';cases hm'
     ·rfl
    rw [m2,if_pos rfl] at e2
    have m3:(mt l [53,57] (a+6)).2=true:=by rw [e2] at hm';exact hm'
    have l2:=mt_len (l:=l) (p:=[58]) p6
    rw [mt_true m2] at l2
    have g2:sg [58] l (a+5,0)=_:=s2.go p6
    rw [st_true m2,mt_true m2] at g2
    have g2':sg [58] l (a+5,0)=(a+6,0):=g2
    have v3:=n3.val l2 m3
    simp only [hmsS,p1,p2,p3,p4,p5,g2',v3]
    rw [if_neg hc]
def oq (l:Ls) (a:Nat):List UInt8:=[if peek l a=[45] then 45 else 43,50,51,53,57]
theorem off_sim (hg:Good l):Sim l (λp=>(offS l p).2) (oq l a) a/\(a<=l.length->(mt l (oq l a) a).2=true->(offS l (a,0)).1=if peek l a=[45] then -(60*dv l 2 0 (a+1)+dv l 2 0 (a+3)) else 60*dv l 2 0 (a+1)+dv l 2 0 (a+3)):=by
 have s1:Sim l (λp=>(tk (λx=>decide (x=[43])||decide (x=[45])) l p.1 p.2).2) [if peek l a=[45] then 45 else 43] a:=sim_tk hg λ_=>by
  by_cases h:peek l a=[45]
  ·rw [if_pos h,fit_own (by decide),h];decide
  ·rw [if_neg h,fit_own (by decide),dFf h,Bool.or_false]
 have n1:=num24 (a:=a+1) hg
 have n2:=num60 (a:=a+3) hg
 have A:=(s1.comp n1.sim).comp n2.sim
 refine ⟨⟨λha=>A.go ha,λp hp=>A.stay p hp⟩,λha hm=>?_⟩
 have hm':(mt l ([if peek l a=[45] then 45 else 43]++[50,51,53,57]) a).2=true:=hm
 clear hm A
 generalize (if peek l a=[45] then (45:UInt8) else 43)=b0 at s1 hm'
 have e1:=mt_append l [b0] [50,51,53,57] a
 have m1:(mt l [b0] a).2=true:=by
  cases hx:(mt l [b0] a).2
  ·rw [hx,if_neg (by simp)] at e1;rw [e1,hx] at hm';cases hm'
  ·rfl
 rw [m1,if_pos rfl] at e1
 have e2:=mt_append l [50,51] [53,57] (a+1)
 have hm2:(mt l ([50,51]++[53,57]) (a+1)).2=true:=by rw [e1] at hm';exact hm'
 have m2:(mt l [50,51] (a+1)).2=true:=by
  cases hx:(mt l [50,51] (a+1)).2
  ·rw [hx,if_neg (by simp)] at e2;rw [e2,hx] at hm2;cases hm2
  ·rfl
 rw [m2,if_pos rfl] at e2
 have m3:(mt l [53,57] (a+3)).2=true:=by rw [e2] at hm2;exact hm2
 have l1:=mt_len (l:=l) (p:=[b0]) ha
 rw [mt_true m1] at l1
 have l2:=mt_len (l:=l) (p:=[50,51]) l1
 rw [show a+[b0].length=a+1 from rfl,mt_true m2] at l2
 have g1:(tk (λx=>decide (x=[43])||decide (x=[45])) l a 0).2=_:=s1.go ha
 rw [st_true m1,mt_true m1] at g1
 have g1':(tk (λx=>decide (x=[43])||decide (x=[45])) l a 0).2=(a+1,0):=g1
 have g2:(nn 24 2 l (a+1,0)).2=_:=n1.sim.go l1
 rw [st_true m2,mt_true m2] at g2
 have g2':(nn 24 2 l (a+1,0)).2=(a+3,0):=g2
 have v1:=n1.val l1 m2
 have v2:=n2.val l2 m3
 have hlt:a<l.length:=Nat.lt_of_lt_of_le (Nat.lt_succ_self a) l1
 have hs:(tk (λx=>decide (x=[43])||decide (x=[45])) l a 0).1=peek l a:=by
  by_cases hc:(decide (peek l a=[43])||decide (peek l a=[45]))=true
  ·rw [tk_yes rfl ((peek_ne hg).2 hlt) hc]
  ·exfalso
   rw [tk_no (λh=>hc h.2.2)] at g1'
   have:=congrArg Prod.fst g1'
   simp at this
 simp only [offS,hs,g1',g2',v1,v2]
end
section
variable {l:Ls} {a:Nat}
theorem wd_bound {names:Ls}:∀ (f:Nat) {k:Nat} {got:List UInt8} {a:Nat} {w:Int},0<=(wd names l f k got a w).1/\(wd names l f k got a w).1<=names.length
 | 0,_,_,_,_=>by simp [wd]
 | f+1,k,got,a,w=>by
  simp only [wd]
  split
  ·next i hi =>
   unfold hit at hi
   have:=(List.findIdx?_eq_some_iff_getElem.1 hi).1
   simp only
   omega
  ·split
   ·simp
   ·exact wd_bound f
theorem ww_bound {names:Ls} {p:Nat×Int}:0<=(ww names l p).1/\(ww names l p).1<=names.length:=wd_bound 5
structure Got where
 p:Nat×Int
 y:Int
 m:Int
 d:Int
 s:Int
 z:Int
 k:Int
def weekP (l:Ls):Int×Nat×Int:=if isdig (peek l 0)=true then (-1,0,0) else ((ww weeks l (0,0)).1,sg [32] l (sg [44] l (ww weeks l (0,0)).2))
def zoneP (l:Ls) (p:Nat×Int):Int×Nat×Int:=if peek l p.1=[43]\/peek l p.1=[45] then offS l p else (0,(ww zn l p).2)
def restP (l:Ls) (sep:List UInt8) (k d:Int) (p:Nat×Int) (may:Bool) (Z:Nat×Int->Int×Nat×Int):Got :=
 let mo:=ww months l (sg sep l p)
 let ye:=nn 10000 4 l (sg sep l mo.2)
 let h:=hmsS may l (sg [32] l ye.2)
 let z:=Z (sg [32] l h.2)
 ⟨z.2,ye.1,1+mo.1,d,h.1,z.1,k⟩
def parseP (l:Ls):Got:=restP l [32] (weekP l).1 (n12S l (weekP l).2).1 (n12S l (weekP l).2).2 true (zoneP l)
structure Lt (s:List UInt8) (l:Ls):Prop where
 let_:F208 ((s,()),())=some ((),(l,()))
 ref:F97 ((s,()),())=some ((),(l,()))
 good:Good l
 len:l.length<=2000000
theorem w64_1 {k:Int} (h:0<=k) (h2:k<=1000):w64 (1+k)=1+k:=w64_id (by omega) (by omega)
theorem F176_eq' {s:List UInt8} {l:Ls} (h:Lt s l):F176 ((s,()),())=some ((),(((),0,0,0,0,0,0,0,-1,()),l,())):=by simp only [F176,h.let_,oBs]
end
section
variable {l:Ls} {a:Nat}
theorem weekP_le (l:Ls):(weekP l).2.1<=l.length:=by
 unfold weekP
 split
 ·exact Nat.zero_le _
 ·exact sg_le (sg_le (ww_le (Nat.zero_le _)))
theorem F4_run {s:List UInt8} {l:Ls} (h:Lt s l):F137 ((s,()),()) =
  Option.bind (F186 (((),()),((l,((parseP l).p.1:Int),(parseP l).p.2,(parseP l).y,(parseP l).m,(parseP l).d,(parseP l).s,(parseP l).z,(parseP l).k,()),()))) λr=>some (((r.1.1.1,r.1.1.2.1,()),r.1.2.1,r.1.2.2.1,()),()):=by
 have hl:=h.len
 have hlc:=h.good.le
 have h0:(0:Nat)<=l.length:=Nat.zero_le _
 have f18:F157 ((),())=some ((),(months,())):=rfl
 have f15:F180 ((),())=some ((),(weeks,())):=rfl
 have ezn:([([71,77,84]:List UInt8),([85,84]:List UInt8)]:Ls)=zn:=rfl
 have e0:=F178_eq l 0 0 0 0 0 0 0 (-1)
 have e0':F178 (((),()),((l,0,0,0,0,0,0,0,-1,()),()))=some (peek l 0,((l,0,0,0,0,0,0,0,-1,()),())):=e0
 obtain ⟨k,p,hkp⟩:∃ k p,weekP l=(k,p):=⟨_,_,rfl⟩
 have hp:p.1<=l.length:=by have:=weekP_le l;rw [hkp] at this;exact this
 have l1:=n12_le hp
 have l2:=sg_le (c:=[32]) l1
 have l3:=ww_le (names:=months) l2
 have l4:=sg_le (c:=[32]) l3
 have l5:=nn_le (b:=10000) (n:=4) l4
 have l6:=sg_le (c:=[32]) l5
 have l7:=hms_le (may:=true) l6
 have l8:=sg_le (c:=[32]) l7
 have hb:=ww_bound (names:=months) (l:=l) (p:=sg [32] l (n12S l p).2)
 have wm:=w64_1 hb.1 (Int.le_trans hb.2 (by decide))
 have hP:parseP l=restP l [32] k (n12S l p).1 (n12S l p).2 true (zoneP l):=by unfold parseP;rw [hkp]
 rw [hP]
 have day:(Option.bind (F178 (((),()),((l,0,0,0,0,0,0,0,-1,()),()))) λr2=>(Option.bind (F177 ((r2.1,()),())) λr3=>(cond (!r3.1) (Option.bind (F180 ((),())) λr4=>(Option.bind (F179 (((),r4.2.1,()),((r2.2.1.1,r2.2.1.2.1,r2.2.1.2.2.1,r2.2.1.2.2.2.1,r2.2.1.2.2.2.2.1,r2.2.1.2.2.2.2.2.1,r2.2.1.2.2.2.2.2.2.1,r2.2.1.2.2.2.2.2.2.2.1,r2.2.1.2.2.2.2.2.2.2.2.1,()),()))) λr5 =>
   (Option.bind (F181 (((),([44]:List UInt8),()),((r5.2.1.1,r5.2.1.2.1,r5.2.1.2.2.1,r5.2.1.2.2.2.1,r5.2.1.2.2.2.2.1,r5.2.1.2.2.2.2.2.1,r5.2.1.2.2.2.2.2.2.1,r5.2.1.2.2.2.2.2.2.2.1,r5.1,()),()))) λr6=>(Option.bind (F181 (((),([32]:List UInt8),()),((r6.2.1.1,r6.2.1.2.1,r6.2.1.2.2.1,r6.2.1.2.2.2.1,r6.2.1.2.2.2.2.1,r6.2.1.2.2.2.2.2.1,r6.2.1.2.2.2.2.2.2.1,r6.2.1.2.2.2.2.2.2.2.1,r6.2.1.2.2.2.2.2.2.2.2.1,()),()))) λr7 =>
   (some (((),(),()),(((0:Int),(0:Int),()),(r7.2.1.1,r7.2.1.2.1,r7.2.1.2.2.1,r7.2.1.2.2.2.1,r7.2.1.2.2.2.2.1,r7.2.1.2.2.2.2.2.1,r7.2.1.2.2.2.2.2.2.1,r7.2.1.2.2.2.2.2.2.2.1,r7.2.1.2.2.2.2.2.2.2.2.1,()),()))))))) (some (((),(),()),(((0:Int),(0:Int),()),(r2.2.1.1,r2.2.1.2.1,r2.2.1.2.2.1,r2.2.1.2.2.2.1,r2.2.1.2.2.2.2.1,r2.2.1.2.2.2.2.2.1,r2.2.1.2.2.2.2.2.2.1,r2.2.1.2.2.2.2.2.2.2.1,r2.2.1.2.2.2.2.2.2.2.2.1,()),())))))
    : Option ((Unit×Unit×Unit)×(Int×Int×Unit)×(Ls×Int×Int×Int×Int×Int×Int×Int×Int×Unit)×Unit)) =
   some (((),(),()),(((0:Int),(0:Int),()),(l,(p.1:Int),p.2,0,0,0,0,0,k,()),())):=by
  unfold weekP at hkp
  by_cases hd:isdig (peek l 0)=true
  ·rw [if_pos hd] at hkp
   cases hkp
   simp only [e0',F177_eq,hd,oBs,Bool.not_true,cFf]
   rfl
  ·rw [if_neg hd] at hkp
   have hd':isdig (peek l 0)=false:=by simpa using hd
   have g1:=ww_le (names:=weeks) (l:=l) (p:=(0,(0:Int))) h0
   have g2:=sg_le (c:=[44]) g1
   have e1:=word_eq (y:=0) (m:=0) (d:=0) (s:=0) (z:=0) (q:=-1) weeks_nms hl hlc (p:=(0,(0:Int))) h0
   have e1':F179 (((),weeks,()),((l,0,0,0,0,0,0,0,-1,()),()))=some ((ww weeks l (0,0)).1,((l,((ww weeks l (0,0)).2.1:Int),(ww weeks l (0,0)).2.2,0,0,0,0,0,-1,()),())):=e1
   have hk1:(ww weeks l (0,0)).1=k:=congrArg Prod.fst hkp
   have hk2:sg [32] l (sg [44] l (ww weeks l (0,0)).2)=p:=congrArg Prod.snd hkp
   simp only [e0',F177_eq,hd',oBs,Bool.not_false,cTt,f15,e1',sign_eq hl g1,sign_eq hl g2,hk1,hk2]
 by_cases hz:peek l (sg [32] l (hmsS true l (sg [32] l (nn 10000 4 l (sg [32] l (ww months l (sg [32] l (n12S l p).2)).2)).2)).2).1=[43]\/peek l (sg [32] l (hmsS true l (sg [32] l (nn 10000 4 l (sg [32] l (ww months l (sg [32] l (n12S l p).2)).2)).2)).2).1=[45]
 ·have cz:(decide (peek l (sg [32] l (hmsS true l (sg [32] l (nn 10000 4 l (sg [32] l (ww months l (sg [32] l (n12S l p).2)).2)).2)).2).1=[43])||decide (peek l (sg [32] l (hmsS true l (sg [32] l (nn 10000 4 l (sg [32] l (ww months l (sg [32] l (n12S l p).2)).2)).2)).2).1=[45]))=true:=by
   rw [Bool.or_eq_true,dTe,dTe];exact hz
  have hzp:zoneP l (sg [32] l (hmsS true l (sg [32] l (nn 10000 4 l (sg [32] l (ww months l (sg [32] l (n12S l p).2)).2)).2)).2)=offS l (sg [32] l (hmsS true l (sg [32] l (nn 10000 4 l (sg [32] l (ww months l (sg [32] l (n12S l p).2)).2)).2)).2):=by unfold zoneP;rw [if_pos hz]
  simp only [F137,F176_eq' h,oBs]
  rw [day]
  simp only [oBs,n12_eq hl hp,sign_eq hl l1,f18,word_eq months_nms hl hlc l2,wm,sign_eq hl l3,num4_eq hl l4,sign_eq hl l5,hms_eq hl l6,sign_eq hl l7,F178_eq,cz,cTt,off_eq hl l8,restP,hzp]
 ·have cz:(decide (peek l (sg [32] l (hmsS true l (sg [32] l (nn 10000 4 l (sg [32] l (ww months l (sg [32] l (n12S l p).2)).2)).2)).2).1=[43])||decide (peek l (sg [32] l (hmsS true l (sg [32] l (nn 10000 4 l (sg [32] l (ww months l (sg [32] l (n12S l p).2)).2)).2)).2).1=[45]))=false:=by
   rw [Bool.or_eq_false_iff,decide_eq_false_iff_not,decide_eq_false_iff_not];exact ⟨λh=>hz (.inl h),λh=>hz (.inr h)⟩
  have hzp:zoneP l (sg [32] l (hmsS true l (sg [32] l (nn 10000 4 l (sg [32] l (ww months l (sg [32] l (n12S l p).2)).2)).2)).2)=(0,(ww zn l (sg [32] l (hmsS true l (sg [32] l (nn 10000 4 l (sg [32] l (ww months l (sg [32] l (n12S l p).2)).2)).2)).2)).2):=by unfold zoneP;rw [if_neg hz]
  simp only [F137,F176_eq' h,oBs]
  rw [day]
  simp only [oBs,n12_eq hl hp,sign_eq hl l1,f18,word_eq months_nms hl hlc l2,wm,sign_eq hl l3,num4_eq hl l4,sign_eq hl l5,hms_eq hl l6,sign_eq hl l7,F178_eq,cz,cFf,ezn,word_eq zn_nms hl hlc l8,restP,hzp]
end
section
variable {l:Ls} {a:Nat}
theorem mt_split {p q:List UInt8} (h:(mt l (p++q) a).2=true):(mt l p a).2=true/\(mt l q (a+p.length)).2=true:=by
 rw [mt_append] at h
 cases hp:(mt l p a).2 with
 | true=>rw [hp,if_pos rfl] at h;exact ⟨rfl,h⟩
 | false=>rw [hp,if_neg (by simp),hp] at h;cases h
theorem mt_one {b:UInt8} (h:(mt l [b] a).2=true):a<l.length/\fitS l a b=true:=by
 simp only [mt] at h
 split at h
 ·next hc=>exact hc
 ·cases h
theorem Sim.comp' {X Y:Nat×Int->Nat×Int} {q r:List UInt8} (h1:Sim l X q a) (hs:∀ p,p.2≠0->Y p=p) (h2:(mt l q a).2=true->Sim l Y r (a+q.length)):Sim l (λp=>Y (X p)) (q++r) a where
 go:=λha=>by
  show Y (X (a,0))=_
  rw [h1.go ha,mt_append]
  cases hq:(mt l q a).2 with
  | true =>
   have hle:=mt_len (l:=l) (p:=q) ha
   rw [mt_true hq] at hle
   rw [if_pos rfl,st_true hq,mt_true hq]
   exact (h2 hq).go hle
  | false =>
   rw [if_neg (by simp)]
   exact hs _ (st_false hq)
 stay:=λp hp=>by
  show Y (X p)=p
  rw [h1.stay p hp,hs p hp]
theorem Sim.run {X:Nat×Int->Nat×Int} {q:List UInt8} (h:Sim l X q a) (ha:a<=l.length) (hm:(mt l q a).2=true):X (a,0)=(a+q.length,0)/\a+q.length<=l.length:=by
 have hle:=mt_len (l:=l) (p:=q) ha
 rw [mt_true hm] at hle
 exact ⟨by rw [h.go ha,st_true hm,mt_true hm],hle⟩
def sv (may:Bool) (l:Ls) (a:Nat):Int:=3600*dv l 2 0 a+60*dv l 2 0 (a+3)+if may=true/\peek l (a+5)≠[58] then 0 else dv l 2 0 (a+6)
def rq (sep:UInt8) (may:Bool) (l:Ls) (a:Nat) (Zq:List UInt8):List UInt8:=[sep]++([77,77,77]++([sep]++([57,57,57,57]++([32]++(hq may l (a+10)++([32]++Zq))))))
theorem months_sim (hg:Good l) (ha:a=0\/alpha (peek l (a-1))=false):Sim l (λp=>(ww months l p).2) [77,77,77] a/\(a<=l.length->(mt l [77,77,77] a).2=true->∃ k:Nat,hit months 3 (peek l a++peek l (a+1)++peek l (a+2))=some k/\(ww months l (a,0)).1=k) :=
 names_sim hg months_3 fit77 ha
theorem rest_sim (hg:Good l) {sep:UInt8} (hsep:own sep) (hal:alpha [sep]=false) {may:Bool} {Z:Nat×Int->Int×Nat×Int} {Zq:List UInt8} {zv:Int} (hZ:Sim l (λp=>(Z p).2) Zq (a+11+(hq may l (a+10)).length))
  (hzv:a+11+(hq may l (a+10)).length<=l.length->(mt l Zq (a+11+(hq may l (a+10)).length)).2=true->(Z (a+11+(hq may l (a+10)).length,0)).1=zv) (k d:Int) :
  Sim l (λp=>(restP l [sep] k d p may Z).p) (rq sep may l a Zq) a/\(a<=l.length->(mt l (rq sep may l a Zq) a).2=true->(restP l [sep] k d (a,0) may Z).y=dv l 4 0 (a+5) /\
   (∃ km:Nat,hit months 3 (peek l (a+1)++peek l (a+2)++peek l (a+3))=some km/\(restP l [sep] k d (a,0) may Z).m=1+(km:Int))/\(restP l [sep] k d (a,0) may Z).s=sv may l (a+10)/\(restP l [sep] k d (a,0) may Z).z=zv):=by
 have s1:=sim_sg (a:=a) hg hsep
 have hd1:(mt l [sep] a).2=true->alpha (peek l (a+1-1))=false:=λh=>by
  have:=(mt_one h).2
  rw [fit_own hsep] at this
  rw [Nat.add_sub_cancel,of_decide_eq_true this];exact hal
 have s2:=λh=>months_sim (a:=a+1) hg (.inr (hd1 h))
 have s3:=sim_sg (a:=a+4) hg hsep
 have s4:=num10000 (a:=a+5) hg
 have s5:=sim_sg (a:=a+9) hg (b:=32) (by decide)
 have s6:=hms_sim (a:=a+10) hg may
 have s7:=sim_sg (a:=a+10+(hq may l (a+10)).length) hg (b:=32) (by decide)
 have e1:a+10+(hq may l (a+10)).length+[(32:UInt8)].length=a+11+(hq may l (a+10)).length:=by simp;omega
 have hZ':Sim l (λp=>(Z p).2) Zq (a+10+(hq may l (a+10)).length+[(32:UInt8)].length):=by rw [e1];exact hZ
 have c7:=s7.comp' hZ'.stay λ_=>hZ'
 have c6:=s6.1.comp' c7.stay λ_=>c7
 have c5:=s5.comp' c6.stay λ_=>c6
 have c4:=s4.sim.comp' c5.stay λ_=>c5
 have c3:=s3.comp' c4.stay λ_=>c4
 have hst:∀ p:Nat×Int,p.2≠0->(ww months l p).2=p:=λp hp=>ww_stay (by decide) p hp
 have c1:=s1.comp' (Y:=λp=>(Z (sg [32] l (hmsS may l (sg [32] l (nn 10000 4 l (sg [sep] l (ww months l p).2)).2)).2)).2) (λp hp=>by
  have h1:=hst p hp
  show (λp=>(Z (sg [32] l (hmsS may l (sg [32] l (nn 10000 4 l (sg [sep] l p)).2)).2)).2) (ww months l p).2=p
  rw [h1];exact c3.stay p hp) λh=>(s2 h).1.comp' (Y:=λp=>(Z (sg [32] l (hmsS may l (sg [32] l (nn 10000 4 l (sg [sep] l p)).2)).2)).2) c3.stay λ_=>c3
 refine ⟨c1,λha hm=>?_⟩
 obtain ⟨m1,hm⟩:=mt_split hm
 obtain ⟨m2,hm⟩:=mt_split hm
 obtain ⟨m3,hm⟩:=mt_split hm
 obtain ⟨m4,hm⟩:=mt_split hm
 obtain ⟨m5,hm⟩:=mt_split hm
 obtain ⟨m6,hm⟩:=mt_split hm
 obtain ⟨m7,m8⟩:=mt_split hm
 obtain ⟨r1,l1⟩:=s1.run ha m1
 obtain ⟨r2,l2⟩:=(s2 m1).1.run l1 m2
 obtain ⟨r3,l3⟩:=s3.run l2 m3
 obtain ⟨r4,l4⟩:=s4.sim.run l3 m4
 obtain ⟨r5,l5⟩:=s5.run l4 m5
 obtain ⟨r6,l6⟩:=s6.1.run l5 m6
 obtain ⟨r7,l7⟩:=s7.run l6 m7
 obtain ⟨km,k1,k2⟩:=(s2 m1).2 l1 m2
 have r1':sg [sep] l (a,0)=(a+1,0):=r1
 have r2':(ww months l (a+1,0)).2=(a+4,0):=r2
 have r3':sg [sep] l (a+4,0)=(a+5,0):=r3
 have r4':(nn 10000 4 l (a+5,0)).2=(a+9,0):=r4
 have r5':sg [32] l (a+9,0)=(a+10,0):=r5
 have r6':(hmsS may l (a+10,0)).2=(a+10+(hq may l (a+10)).length,0):=r6
 have r7':sg [32] l (a+10+(hq may l (a+10)).length,0)=(a+11+(hq may l (a+10)).length,0):=by
  have r7'':sg [32] l (a+10+(hq may l (a+10)).length,0)=(a+10+(hq may l (a+10)).length+[(32:UInt8)].length,0):=r7
  rw [r7'',e1]
 have m8':(mt l Zq (a+11+(hq may l (a+10)).length)).2=true:=by rw [<- e1];exact m8
 have l7':a+11+(hq may l (a+10)).length<=l.length:=by rw [<- e1];exact l7
 have v4:=s4.val l3 m4
 have v6:=s6.2 l5 m6
 have v8:=hzv l7' m8'
 simp only [restP,r1',r2',r3',r4',r5',r6',r7',v4,v6,v8,k2]
 exact ⟨trivial,⟨km,k1,rfl⟩,rfl,trivial⟩
end
section
variable {l:Ls} {a:Nat}
theorem digs2 {b c:UInt8} (hb:b=57\/b=50\/b=53) (hc:c=57\/c=51) (h:(mt l [b,c] a).2=true):isdig (peek l a)=true/\isdig (peek l (a+1))=true/\a+2<=l.length:=by
 obtain ⟨h1,h2⟩:=mt_split (p:=[b]) (q:=[c]) h
 have h1:=mt_one h1
 have h2:=mt_one h2
 refine ⟨?_,?_,h2.1⟩
 ·rcases hb with rfl | rfl | rfl
  ·have:=h1.2;rw [fit57] at this;exact this
  ·have:=h1.2;rw [fit50,bAt] at this;exact this.1
  ·have:=h1.2;rw [fit53,bAt] at this;exact this.1
 ·rcases hc with rfl | rfl
  ·have:=h2.2;rw [fit57] at this;exact this
  ·have:=h2.2;rw [fit51,bAt] at this;exact this.1
theorem digs4 (h:(mt l [57,57,57,57] a).2=true):isdig (peek l a)=true/\isdig (peek l (a+1))=true/\isdig (peek l (a+2))=true/\isdig (peek l (a+3))=true/\a+4<=l.length:=by
 obtain ⟨h1,h2⟩:=mt_split (p:=[57,57]) (q:=[57,57]) h
 obtain ⟨a1,a2,_⟩:=digs2 (.inl rfl) (.inl rfl) h1
 obtain ⟨a3,a4,a5⟩:=digs2 (.inl rfl) (.inl rfl) h2
 exact ⟨a1,a2,a3,a4,a5⟩
theorem dv_bound {l:Ls}:∀ (n:Nat) {v:Int} {a:Nat},(∀ i,i<n->isdig (peek l (a+i))=true)->0<=v->0<=dv l n v a/\dv l n v a+1<=(v+1)*10^n
 | 0,v,a,_,h=>⟨h,by simp [dv]⟩
 | n+1,v,a,hd,h=>by
  have h0:=isdig_val (hd 0 (by omega))
  rw [Nat.add_zero] at h0
  have ih:=dv_bound n (v:=v*10+dval (peek l a)) (a:=a+1) (λi hi=>by rw [show a+1+i=a+(i+1) by omega];exact hd (i+1) (by omega)) (by omega)
  simp only [dv]
  refine ⟨ih.1,Int.le_trans ih.2 ?_⟩
  have hp:(0:Int)<=10^n:=Int.pow_nonneg (by omega)
  rw [Int.pow_succ,Int.mul_comm (10^n) 10,<- Int.mul_assoc]
  exact Int.mul_le_mul_of_nonneg_right (by omega) hp
theorem F103_eq' (hl:l.length<=2000000) {n:Nat} (hn:n<=4) (ha:a+n<=l.length) (hd:∀ i,i<n->isdig (peek l (a+i))=true):F103 ((l,(a:Int),(n:Int),()),())=some (dv l n 0 a,()):=by
 have wt:w64 ((a:Int)+(n:Int))=((a+n:Nat):Int):=by rw [w64_id (by omega) (by omega)];rfl
 generalize hT:dv l n 0 a=T
 obtain ⟨r,h1,h2⟩:=loop_ind (f:=B103_0) (λp=>∃ (i j:Nat) (v:Int),p=((l,(a:Int),(n:Int),v,((a+i:Nat):Int),()),())/\i+j=n/\0<=v/\v+1<=10^i/\dv l j v (a+i)=T) (λp=>((a:Int)+n-p.1.2.2.2.2.1).toNat) (λr=>r=((T,()),()))
  (λp ⟨i,j,v,hp,hij,hv,hv2,hb⟩=>by
   subst hp
   cases j with
   | zero =>
    right
    have c1:decide (((a+i:Nat):Int)<((a+n:Nat):Int))=false:=dFf (by omega)
    simp only [dv] at hb
    exact ⟨_,by simp only [B103_0,wt,c1,cFf] <;> rfl,by rw [hb]⟩
   | succ j =>
    left
    have c1:decide (((a+i:Nat):Int)<((a+n:Nat):Int))=true:=dTt (by omega)
    have c2:decide ((0:Int)<=((a+i:Nat):Int))=true:=dTt (by omega)
    have c3:decide (((a+i:Nat):Int)<((l.length:Nat):Int))=true:=dTt (by omega)
    have hdi:=hd i (by omega)
    have hne:=(isdig_val hdi).1
    have hlp:0<(l.getD (a+i) []).length:=List.length_pos_iff.2 hne
    have c4:decide ((0:Int)<(((l.getD (a+i) []).length:Nat):Int))=true:=dTt (by omega)
    have wi:w64 (((a+i:Nat):Int)+1)=((a+(i+1):Nat):Int):=by rw [w64_id (by omega) (by omega)];omega
    have hv3:=dval_eq hdi
    have hi4:i=0\/i=1\/i=2\/i=3:=by omega
    have hvb:v<=1000:=by rcases hi4 with rfl | rfl | rfl | rfl <;> simp at hv2 <;> omega
    have he:w64 (w64 (w64 (10*v)+((((l.getD (a+i) []).getD 0 0).toNat:Nat):Int))-48)=v*10+dval (peek l (a+i)):=by
     have h3:dval (peek l (a+i))=((((l.getD (a+i) []).getD 0 0).toNat:Nat):Int)-48:=hv3.1
     have h4:((l.getD (a+i) []).getD 0 0).toNat<=57:=hv3.2.2
     rw [h3,w64_id (n:=10*v) (by omega) (by omega),w64_id (n:=10*v+_) (by omega) (by omega),w64_id (by omega) (by omega)]
     omega
    have hvd:=isdig_val hdi
    refine ⟨((l,(a:Int),(n:Int),v*10+dval (peek l (a+i)),((a+(i+1):Nat):Int),()),()),?_,⟨i+1,j,_,rfl,by omega,by omega,by rw [Int.pow_succ];omega,?_⟩,by simp only;omega⟩
    ·simp only [B103_0,wt,c1,c2,c3,bAs,cTt,nCt,c4,he,oBs,wi]
    ·rw [<- hb];rfl)
  (p:=((l,(a:Int),(n:Int),0,(a:Int),()),())) ⟨0,n,0,rfl,by omega,by omega,by simp,hT⟩ (by unfold FUEL;simp only;omega)
 subst h2
 have h1':L103_0 ((l,(a:Int),(n:Int),0,(a:Int),()),())=some ((T,()),()):=h1
 simp only [F103,h1',oBs]
theorem F101_eq' (hg:Good l) (hl:l.length<=2000000) {names:Ls} (hN:Nm3 names) (ha:a+3<=l.length) {k:Nat} (hk:hit names 3 (peek l a++peek l (a+1)++peek l (a+2))=some k):F101 ((l,(a:Int),names,()),())=some ((k:Int),()):=by
 unfold hit at hk
 rw [List.findIdx?_eq_some_iff_getElem] at hk
 obtain ⟨hkl,hk1,hk2⟩:=hk
 simp only [bAt,dTe] at hk1 hk2
 have hnl:=hN.nms.len
 have w1:w64 ((a:Int)+1)=((a+1:Nat):Int):=by rw [w64_id (by omega) (by omega)];rfl
 have w2:w64 ((a:Int)+2)=((a+2:Nat):Int):=by rw [w64_id (by omega) (by omega)];rfl
 have pl:∀ i,i<l.length->(l.getD i []).length<=4:=λi hi=>by rw [getD_ltL hi];exact hg.le _ (List.getElem_mem _)
 have p1:=pl a (by omega)
 have p2:=pl (a+1) (by omega)
 have p3:=pl (a+2) (by omega)
 have b0:decide ((0:Int)<=(a:Int))=true:=dTt (by omega)
 have b1:decide ((a:Int)<((l.length:Nat):Int))=true:=dTt (by omega)
 have b2:decide ((0:Int)<=((a+1:Nat):Int))=true:=dTt (by omega)
 have b3:decide (((a+1:Nat):Int)<((l.length:Nat):Int))=true:=dTt (by omega)
 have b4:decide ((0:Int)<=((a+2:Nat):Int))=true:=dTt (by omega)
 have b5:decide (((a+2:Nat):Int)<((l.length:Nat):Int))=true:=dTt (by omega)
 have f1:fits ((l.getD a []).length+(l.getD (a+1) []).length)=true:=fits_true (by omega)
 have f2:fits ((l.getD a []++l.getD (a+1) []).length+(l.getD (a+2) []).length)=true:=fits_true (by rw [List.length_append];omega)
 have e1:=F96_eq (s:=l.getD a []++l.getD (a+1) []++l.getD (a+2) []) (by rw [List.length_append,List.length_append];omega)
 obtain ⟨r,h1,h2⟩:=loop_ind (f:=B101_0) (λp=>∃ (i:Nat),p=((l,(a:Int),names,(i:Int),()),())/\i<=k) (λp=>((names.length:Int)-p.1.2.2.2.1).toNat) (λr=>r=Sum.inr (((k:Int),()),()))
  (λp ⟨i,hp,hi⟩=>by
   subst hp
   have hil:i<names.length:=by omega
   have c1:decide ((i:Int)<((names.length:Nat):Int))=true:=dTt (by omega)
   have c2:decide ((0:Int)<=(i:Int))=true:=dTt (by omega)
   have wi:w64 ((i:Int)+1)=((i+1:Nat):Int):=by rw [w64_id (by omega) (by omega)];rfl
   have hxl:(names.getD i []).length=3:=by rw [getD_ltL hil];exact hN.len _ (List.getElem_mem _)
   have e2:=F96_eq (s:=names.getD i []) (by omega)
   by_cases hik:i=k
   ·right
    subst hik
    have c3:decide (low (l.getD a []++l.getD (a+1) []++l.getD (a+2) [])=low (names.getD i []))=true:=dTt (by rw [getD_ltL hil];exact hk1.2.symm)
    exact ⟨_,by simp only [B101_0,c1,cTt,b0,b1,w1,b2,b3,w2,b4,b5,bAs,nCt,f1,f2,c2,e1,e2,oBs,c3] <;> rfl,rfl⟩
   ·left
    have c3:decide (low (l.getD a []++l.getD (a+1) []++l.getD (a+2) [])=low (names.getD i []))=false:=dFf λhe=>by
     refine hk2 i (by omega) ⟨?_,?_⟩
     ·rw [<- getD_ltL hil];exact hxl
     ·rw [<- getD_ltL hil];exact he.symm
    refine ⟨_,?_,⟨i+1,rfl,by omega⟩,by simp only;omega⟩
    simp only [B101_0,c1,cTt,cFf,b0,b1,w1,b2,b3,w2,b4,b5,bAs,nCt,f1,f2,c2,e1,e2,oBs,c3,wi])
  (p:=((l,(a:Int),names,0,()),())) ⟨0,rfl,Nat.zero_le _⟩ (by unfold FUEL;simp only;omega)
 subst h2
 have h1':L101_0 ((l,(a:Int),names,0,()),())=some (Sum.inr (((k:Int),()),())):=h1
 simp only [F101,h1',oBs]
theorem F100_eq' (l:Ls) (far:Nat):F100 ((l,(far:Int),()),())=some (((far:Int),(if far=l.length then 3 else 4),()),()):=by
 by_cases h:far=l.length
 ·have c:decide ((far:Int)=((l.length:Nat):Int))=true:=dTt (by omega)
  simp only [F100,c,cTt,if_pos h]
 ·have c:decide ((far:Int)=((l.length:Nat):Int))=false:=dFf (by omega)
  simp only [F100,c,cFf,if_neg h]
theorem dom {c p' q':List UInt8} {x:UInt8} (h:(mt l c 0).2=true->¬ (c.length<l.length/\fitS l c.length x=true)):full l (c++x::p')=false/\(mt l (c++x::p') 0).1<=(mt l (c++q') 0).1:=by
 have key:(mt l (c++x::p') 0).2=false/\(mt l (c++x::p') 0).1<=(mt l (c++q') 0).1:=by
  rw [mt_append,mt_append]
  cases hc:(mt l c 0).2 with
  | true =>
   rw [if_pos rfl,if_pos rfl,Nat.zero_add]
   simp only [mt]
   rw [if_neg (h hc)]
   exact ⟨rfl,(mt_le l q' c.length).1⟩
  | false =>
   rw [if_neg (by simp),if_neg (by simp)]
   exact ⟨hc,Nat.le_refl _⟩
 refine ⟨?_,key.2⟩
 have:=mt_false key.1
 unfold full
 rw [Bool.and_eq_false_iff]
 right
 exact dFf (by omega)
theorem full_true {q:List UInt8} (h:full l q=true):(mt l q 0).2=true/\(mt l q 0).1=l.length/\q.length=l.length:=by
 unfold full at h
 rw [bAt,dTe,dTe] at h
 refine ⟨?_,h.1,by omega⟩
 cases hm:(mt l q 0).2
 ·have:=mt_false hm;omega
 ·rfl
theorem end_cases (q:List UInt8):(full l q=true/\(st l (mt l q 0)).2=0/\(st l (mt l q 0)).1=l.length) \/
  (full l q=false/\((st l (mt l q 0)).2=0/\(st l (mt l q 0)).1<l.length\/(st l (mt l q 0)).2=(if (mt l q 0).1=l.length then 3 else 4)/\(mt l q 0).2=false)):=by
 cases hm:(mt l q 0).2 with
 | true =>
  have h1:=mt_true hm
  have h2:=mt_len (l:=l) (p:=q) (Nat.zero_le _)
  rw [st_true hm]
  by_cases he:(mt l q 0).1=l.length
  ·left
   refine ⟨?_,rfl,he⟩
   unfold full
   rw [dTt he,dTt (by omega)];rfl
  ·right
   refine ⟨?_,.inl ⟨rfl,by simp only;omega⟩⟩
   unfold full
   rw [dFf he];rfl
 | false =>
  right
  refine ⟨?_,.inr ⟨?_,rfl⟩⟩
  ·cases hf:full l q
   ·rfl
   ·have:=(full_true hf).1;rw [hm] at this;cases this
  ·unfold st;rw [hm];simp
end
section
variable {l:Ls} {a:Nat}
theorem hit_lt {names:Ls} {k n:Nat} {g:List UInt8} (h:hit names n g=some k):k<names.length:=by
 unfold hit at h
 rw [List.findIdx?_eq_some_iff_getElem] at h
 exact h.1
theorem months_len:months.length=12:=rfl
theorem dq_digs {n:Nat} (hn:n=1\/n=2) (hq:dq l a=List.replicate n 57) (hm:(mt l (dq l a) a).2=true):∀ i,i<n->isdig (peek l (a+i))=true:=by
 rw [hq] at hm
 rcases hn with rfl | rfl
 ·have:=(mt_one (b:=57) hm).2
  rw [fit57] at this
  intro i hi
  obtain rfl:i=0:=by omega
  exact this
 ·have:=digs2 (b:=57) (c:=57) (.inl rfl) (.inl rfl) hm
  intro i hi
  have h2:i=0\/i=1:=by omega
  rcases h2 with rfl | rfl
  ·exact this.1
  ·exact this.2.1
theorem four {i:Nat} (h:i<4):i=0\/i=1\/i=2\/i=3:=by omega
theorem year_eq (hl:l.length<=2000000) (h:(mt l [57,57,57,57] a).2=true):F103 ((l,(a:Int),4,()),())=some (dv l 4 0 a,())/\0<=dv l 4 0 a/\dv l 4 0 a<=9999:=by
 obtain ⟨d0,d1,d2,d3,d4⟩:=digs4 h
 have hd:∀ i,i<4->isdig (peek l (a+i))=true:=λi hi=>by
  rcases four hi with rfl | rfl | rfl | rfl
  ·exact d0
  ·exact d1
  ·exact d2
  ·exact d3
 have hb:=dv_bound (l:=l) (v:=0) 4 (a:=a) hd (Int.le_refl _)
 refine ⟨F103_eq' hl (n:=4) (by omega) d4 hd,hb.1,?_⟩
 have:=hb.2
 simp at this
 omega
theorem two_eq (hl:l.length<=2000000) {b c:UInt8} (hb:b=57\/b=50\/b=53) (hc:c=57\/c=51) (h:(mt l [b,c] a).2=true):F103 ((l,(a:Int),2,()),())=some (dv l 2 0 a,())/\0<=dv l 2 0 a/\dv l 2 0 a<=99:=by
 obtain ⟨d0,d1,d2⟩:=digs2 hb hc h
 have hd:∀ i,i<2->isdig (peek l (a+i))=true:=λi hi=>by
  have h2:i=0\/i=1:=by omega
  rcases h2 with rfl | rfl
  ·exact d0
  ·exact d1
 have hb:=dv_bound (l:=l) (v:=0) 2 (a:=a) hd (Int.le_refl _)
 refine ⟨F103_eq' hl (n:=2) (by omega) d2 hd,hb.1,?_⟩
 have:=hb.2
 simp at this
 omega
theorem month_eq (hg:Good l) (hl:l.length<=2000000) (ha:a+3<=l.length) {km:Nat} (hk:hit months 3 (peek l a++peek l (a+1)++peek l (a+2))=some km):F101 ((l,(a:Int),months,()),())=some ((km:Int),())/\w64 (1+(km:Int))=1+(km:Int):=by
 have h1:=hit_lt hk
 rw [months_len] at h1
 exact ⟨F101_eq' hg hl months_3 ha hk,w64_1 (by omega) (by omega)⟩
end
section
variable {l:Ls} {a:Nat}
theorem bst_dom {all:Ls} {q:List UInt8} {kq:Nat} (hq:all[kq]?=some q) (hd:∀ i p,all[i]?=some p->i≠kq->full l p=false/\(mt l p 0).1<=(mt l q 0).1) :
  bst l all 0 0=if full l q=true then ((kq:Int),(mt l q 0).1) else (-1,(mt l q 0).1):=by
 have:=bst_of (l:=l) (all:=all) (k:=0) (far:=0) (q:=q) (kq:=kq) hq (λp hp=>by
  obtain ⟨i,hi⟩:=List.mem_iff_getElem?.1 hp
  by_cases hk:i=kq
  ·subst hk;rw [hq] at hi;cases hi;exact Nat.le_refl _
  ·exact (hd i p hi hk).2) (λi p hi hf=>by
  by_cases hk:i=kq
  ·exact hk
  ·have:=(hd i p hi hk).1;rw [hf] at this;cases this) (Nat.zero_le _)
 rw [Nat.zero_add] at this
 exact this
theorem fin_eq (l:Ls) (y m d s z k:Int):∃ (t u e n b wk:Int),F105 (((y,m,d,()),s,z,()),())=some (((t,u,()),0,e,()),())/\F63 (((y,m,d,()),()),())=some ((n,b,()),())/\F107 ((n,()),())=some (wk,()) /\
  ∃ w,F186 (((),()),((l,((l.length:Nat):Int),0,y,m,d,s,z,k,()),()))=some ((if e=0/\0<=k/\wk≠k then ((0,0,()),0,2,()) else ((t,u,()),0,e,())),w):=by
 have c0:decide ((0:Int)=0)=true:=by decide
 have c1:decide (((l.length:Nat):Int)<((l.length:Nat):Int))=false:=dFf (by omega)
 rcases days y m d with ⟨_,h37,h33⟩ | ⟨_,h37,h33⟩
 ·obtain ⟨wk,w1,w2,_⟩:=week_eq (num y m d)
  generalize num y m d=n at *
  generalize hT:w64 (w64 (w64 (n*86400)+s)-w64 (60*z))=T
  have hT':w64 (w64 (w64 (86400*n)+s)-w64 (60*z))=T:=by rw [Int.mul_comm];exact hT
  rcases there T z with ⟨x1,x2,x3,x4,x5,h46,h51,_⟩ | ⟨x1,x2,x3,x4,h46,h51⟩
  ·have e31:F105 (((y,m,d,()),s,z,()),())=some (((T,z,()),0,0,()),()):=by
    simp only [F105,h33,oBs,hT',h51,dTr,Bool.not_true,Bool.or_self,cFf]
   by_cases hk:0<=k
   ·have ck:=dTt hk
    by_cases hw:wk=k
    ·have cw:decide (k=wk)=true:=dTt hw.symm
     refine ⟨T,z,0,n,0,wk,e31,h33,w2,?_⟩
     rw [if_neg (λh=>h.2.2 hw)]
     simp only [F186,dTr,c1,Bool.and_false,cFf,oBs,Bool.not_true,h37,hT,h46,Bool.or_self,Bool.not_false,cTt,ck,w1,cw]
     exact ⟨_,rfl⟩
    ·have cw:decide (k=wk)=false:=dFf (λh=>hw h.symm)
     refine ⟨T,z,0,n,0,wk,e31,h33,w2,?_⟩
     rw [if_pos ⟨rfl,hk,hw⟩]
     simp only [F186,dTr,c1,Bool.and_false,cFf,oBs,Bool.not_true,h37,hT,h46,Bool.or_self,Bool.not_false,cTt,ck,w1,cw]
     exact ⟨_,rfl⟩
   ·have ck:=dFf hk
    refine ⟨T,z,0,n,0,wk,e31,h33,w2,?_⟩
    rw [if_neg (λh=>hk h.2.1)]
    simp only [F186,dTr,c1,Bool.and_false,cFf,oBs,Bool.not_true,h37,hT,h46,Bool.or_self,Bool.not_false,cTt,ck]
    exact ⟨_,rfl⟩
  ·have e31:F105 (((y,m,d,()),s,z,()),())=some (((0,0,()),0,2,()),()):=by
    simp only [F105,h33,oBs,hT',h51,dTr,Bool.not_true,Bool.not_false,Bool.or_true,cTt]
   refine ⟨0,0,2,n,0,wk,e31,h33,w2,?_⟩
   rw [if_neg (λh=>absurd h.1 (by decide))]
   simp only [F186,dTr,c1,Bool.and_false,cFf,oBs,Bool.not_true,h37,hT,h46,Bool.not_false,Bool.or_true,cTt]
   exact ⟨_,rfl⟩
 ·obtain ⟨wk,w1,w2,_⟩:=week_eq 0
  have c2:decide ((2:Int)=0)=false:=by decide
  generalize hT:w64 (w64 (w64 ((0:Int)*86400)+s)-w64 (60*z))=T
  have hT':w64 (w64 (w64 (86400*(0:Int))+s)-w64 (60*z))=T:=by rw [Int.mul_comm];exact hT
  obtain ⟨b1,b2,b3,b4,b5,b6,h46,h51⟩:∃ b1 b2 b3 b4 b5 b6,F154 (((T,z,()),()),())=some ((b1,b2,b3,()),())/\F108 (((T,z,()),()),())=some ((b4,b5,b6,()),()):=by
   rcases there T z with ⟨x1,x2,x3,x4,x5,h46,h51,_⟩ | ⟨x1,x2,x3,x4,h46,h51⟩
   ·exact ⟨_,_,_,_,_,_,h46,h51⟩
   ·exact ⟨_,_,_,_,_,_,h46,h51⟩
  have e31:F105 (((y,m,d,()),s,z,()),())=some (((0,0,()),0,2,()),()):=by
   simp only [F105,h33,oBs,hT',h51,c2,Bool.not_false,Bool.true_or,cTt]
  refine ⟨0,0,2,0,2,wk,e31,h33,w2,?_⟩
  rw [if_neg (λh=>absurd h.1 (by decide))]
  simp only [F186,dTr,c1,c2,Bool.and_false,cFf,oBs,Bool.not_true,h37,hT,h46,Bool.not_false,Bool.true_or,cTt]
  exact ⟨_,rfl⟩
theorem fin_stop (l:Ls) {a:Nat} {w:Int} (h:w≠0\/a<l.length) (y m d s z k:Int):∃ x,F186 (((),()),((l,(a:Int),w,y,m,d,s,z,k,()),()))=some (((0,0,()),(a:Int),(if w=0 then 4 else w),()),x):=by
 by_cases hw:w=0
 ·subst hw
  have c0:decide ((0:Int)=0)=true:=by decide
  have c4:decide ((4:Int)=0)=false:=by decide
  have hlt:a<l.length:=h.resolve_left (λh=>h rfl)
  have c1:decide ((a:Int)<((l.length:Nat):Int))=true:=dTt (by omega)
  rw [if_pos rfl]
  simp only [F186,dTr,c1,bAs,cTt,oBs,c4,Bool.not_false]
  exact ⟨_,rfl⟩
 ·have c0:=dFf hw
  rw [if_neg hw]
  simp only [F186,c0,Bool.false_and,cFf,oBs,Bool.not_false,cTt]
  exact ⟨_,rfl⟩
theorem F32_off (hl:l.length<=2000000) (hm:(mt l (oq l a) a).2=true):F106 ((l,(a:Int),()),())=some ((if peek l a=[45] then -(60*dv l 2 0 (a+1)+dv l 2 0 (a+3)) else 60*dv l 2 0 (a+1)+dv l 2 0 (a+3)),()):=by
 unfold oq at hm
 obtain ⟨m0,hm⟩:=mt_split (p:=[if peek l a=[45] then 45 else 43]) (q:=[50,51,53,57]) hm
 obtain ⟨m1,m2⟩:=mt_split (p:=[50,51]) (q:=[53,57]) hm
 have h0:=mt_one m0
 obtain ⟨e1,e2,e3⟩:=two_eq hl (a:=a+1) (.inr (.inl rfl)) (.inr rfl) m1
 obtain ⟨e4,e5,e6⟩:=two_eq hl (a:=a+3) (.inr (.inr rfl)) (.inl rfl) m2
 have c1:decide ((0:Int)<=(a:Int))=true:=dTt (by omega)
 have c2:decide ((a:Int)<((l.length:Nat):Int))=true:=dTt (by have:=h0.1;omega)
 have hl1:a<l.length:=h0.1
 have w1:w64 ((a:Int)+1)=((a+1:Nat):Int):=by rw [w64_id (by omega) (by omega)];rfl
 have w3:w64 ((a:Int)+3)=((a+3:Nat):Int):=by rw [w64_id (by omega) (by omega)];rfl
 have hpk:l.getD a []=peek l a:=rfl
 by_cases hp:peek l a=[45]
 ·rw [if_pos hp]
  have d1:decide (peek l a=[43])=false:=by rw [hp];decide
  have d2:decide (peek l a=[45])=true:=dTt hp
  simp only [F106,c1,c2,bAs,cTt,cFf,Bool.true_or,nCt,hpk,d1,d2,Bool.not_true,Bool.and_false,w1,e1,w3,e4,oBs]
  rw [w64_id (n:=60*_) (by omega) (by omega),w64_id (n:=60*_+_) (by omega) (by omega),w64_id (by omega) (by omega),Int.zero_sub]
 ·rw [if_neg hp]
  have h43:=h0.2
  rw [if_neg hp,fit_own (by decide)] at h43
  have d1:decide (peek l a=[43])=true:=h43
  have d2:decide (peek l a=[45])=false:=dFf hp
  simp only [F106,c1,c2,bAs,cTt,cFf,Bool.true_or,nCt,hpk,d1,d2,Bool.not_true,Bool.false_and,w1,e1,w3,e4,oBs]
  rw [w64_id (n:=60*_) (by omega) (by omega),w64_id (by omega) (by omega)]
theorem F32_no (ha:a<l.length) (h:¬ (peek l a=[43]\/peek l a=[45])):F106 ((l,(a:Int),()),())=some (0,()):=by
 have c1:decide ((0:Int)<=(a:Int))=true:=dTt (by omega)
 have c2:decide ((a:Int)<((l.length:Nat):Int))=true:=dTt (by omega)
 have hpk:l.getD a []=peek l a:=rfl
 have d1:decide (peek l a=[43])=false:=dFf λh'=>h (.inl h')
 have d2:decide (peek l a=[45])=false:=dFf λh'=>h (.inr h')
 simp only [F106,c1,c2,bAs,cTt,Bool.true_or,nCt,hpk,d1,d2,Bool.not_false]
end
section
variable {l:Ls} {a:Nat}
theorem stop_law {q:List UInt8} (_hf:full l q=false) (hc:((st l (mt l q 0)).2=0/\(st l (mt l q 0)).1<l.length\/(st l (mt l q 0)).2=(if (mt l q 0).1=l.length then 3 else 4)/\(mt l q 0).2=false)) (y m d s z k:Int) :
  ∃ x,F186 (((),()),((l,((st l (mt l q 0)).1:Int),(st l (mt l q 0)).2,y,m,d,s,z,k,()),()))=some (((0,0,()),((mt l q 0).1:Int),(if (mt l q 0).1=l.length then 3 else 4),()),x):=by
 have hst:(st l (mt l q 0)).1=(mt l q 0).1:=rfl
 rcases hc with ⟨hz,hlt⟩ | ⟨hz,hne⟩
 ·obtain ⟨x,hx⟩:=fin_stop l (a:=(st l (mt l q 0)).1) (w:=(st l (mt l q 0)).2) (.inr hlt) y m d s z k
  rw [if_pos hz] at hx
  rw [if_neg (by omega)]
  exact ⟨x,hx⟩
 ·have hz0:(st l (mt l q 0)).2≠0:=st_false hne
  obtain ⟨x,hx⟩:=fin_stop l (a:=(st l (mt l q 0)).1) (w:=(st l (mt l q 0)).2) (.inl hz0) y m d s z k
  rw [if_neg hz0] at hx
  rw [<- hz]
  exact ⟨x,hx⟩
structure Rest (l:Ls) (may:Bool) (a:Nat) (Zq:List UInt8):Prop where
 month:∀ km:Nat,hit months 3 (peek l (a+1)++peek l (a+2)++peek l (a+3))=some km->F101 ((l,((a+1:Nat):Int),months,()),())=some ((km:Int),())/\w64 (1+(km:Int))=1+(km:Int)
 year:F103 ((l,((a+5:Nat):Int),4,()),())=some (dv l 4 0 (a+5),())/\0<=dv l 4 0 (a+5)/\dv l 4 0 (a+5)<=9999
 hour:F103 ((l,((a+10:Nat):Int),2,()),())=some (dv l 2 0 (a+10),())/\0<=dv l 2 0 (a+10)/\dv l 2 0 (a+10)<=99
 min:F103 ((l,((a+13:Nat):Int),2,()),())=some (dv l 2 0 (a+13),())/\0<=dv l 2 0 (a+13)/\dv l 2 0 (a+13)<=99
 sec:¬ (may=true/\peek l (a+15)≠[58])->F103 ((l,((a+16:Nat):Int),2,()),())=some (dv l 2 0 (a+16),())/\0<=dv l 2 0 (a+16)/\dv l 2 0 (a+16)<=99
 zone:(mt l Zq (a+11+(hq may l (a+10)).length)).2=true
 len:a+11+(hq may l (a+10)).length<=l.length
 sgn:peek l (a+10+(hq may l (a+10)).length)=[32]
theorem rest_facts (hg:Good l) (hl:l.length<=2000000) {sep:UInt8} {may:Bool} {Zq:List UInt8} (hm:(mt l (rq sep may l a Zq) a).2=true):Rest l may a Zq:=by
 unfold rq at hm
 obtain ⟨m1,hm⟩:=mt_split hm
 obtain ⟨m2,hm⟩:=mt_split hm
 obtain ⟨m3,hm⟩:=mt_split hm
 obtain ⟨m4,hm⟩:=mt_split hm
 obtain ⟨m5,hm⟩:=mt_split hm
 obtain ⟨m6,hm⟩:=mt_split hm
 obtain ⟨m7,m8⟩:=mt_split hm
 have a4:a+1+[(77:UInt8),77,77].length=a+4:=rfl
 have h1:=(mt_one m1).1
 have hr:=mt_one m7
 have hlen:a+10+(hq may l (a+10)).length<l.length:=hr.1
 have hs7:=hr.2
 rw [fit_own (by decide)] at hs7
 have hq5:5<=(hq may l (a+10)).length:=by unfold hq;split <;> simp
 have hsg:∃ r,hq may l (a+10)=[50,51]++([58]++([53,57]++r))/\(¬ (may=true/\peek l (a+15)≠[58])->r=[58]++[53,57]):=by
  unfold hq
  by_cases hc:may=true/\peek l (a+10+5)≠[58]
  ·rw [if_pos hc];exact ⟨[],rfl,λh=>absurd hc h⟩
  ·rw [if_neg hc];exact ⟨[58]++[53,57],rfl,λ_=>rfl⟩
 obtain ⟨r,hqr,hrs⟩:=hsg
 have m6':=m6
 rw [hqr] at m6'
 obtain ⟨n1,m6'⟩:=mt_split m6'
 obtain ⟨n2,m6'⟩:=mt_split m6'
 obtain ⟨n3,n4⟩:=mt_split m6'
 refine ⟨λkm hk=>month_eq (a:=a+1) hg hl (by omega) hk,year_eq (a:=a+5) hl m4,two_eq (a:=a+10) hl (.inr (.inl rfl)) (.inr rfl) n1,two_eq (a:=a+13) hl (.inr (.inr rfl)) (.inl rfl) n3,λhc=>?_,?_,by omega,of_decide_eq_true hs7⟩
 ·rw [hrs hc] at n4
  obtain ⟨n4,n5⟩:=mt_split n4
  exact two_eq (a:=a+16) hl (.inr (.inr rfl)) (.inl rfl) n5
 ·have e1:a+[sep].length+[(77:UInt8),77,77].length+[sep].length+[(57:UInt8),57,57,57].length+[(32:UInt8)].length+(hq may l (a+10)).length+[(32:UInt8)].length=a+11+(hq may l (a+10)).length:=by simp;omega
  rw [e1] at m8;exact m8
def ov (l:Ls) (a:Nat):Int:=if peek l a=[45] then -(60*dv l 2 0 (a+1)+dv l 2 0 (a+3)) else 60*dv l 2 0 (a+1)+dv l 2 0 (a+3)
def mid:List UInt8:=[45,77,77,77,45,57,57,57,57,32,50,51,58,53,57,58,53,57,32]
def ps (f z:Nat):List UInt8:=(if f=0 then [57,57] else [32,57])++(mid++[if z=0 then 43 else 45,50,51,53,57])
end
section
variable {l:Ls} {a:Nat}
theorem sv_w {h m s:Int} (h1:0<=h/\h<=99) (h2:0<=m/\m<=99) (h3:0<=s/\s<=99):w64 (w64 (w64 (3600*h)+w64 (60*m))+s)=3600*h+60*m+s:=by
 rw [w64_id (n:=3600*h) (by omega) (by omega),w64_id (n:=60*m) (by omega) (by omega),w64_id (n:=3600*h+60*m) (by omega) (by omega),w64_id (by omega) (by omega)]
end
section
variable {l:Ls} {a:Nat}
def Ww (w:Nat):List UInt8:=if w=0 then [] else [87,87,87,44,32]
def Dd (d:Nat):List UInt8:=if d=0 then [] else [57]
def Mm:List UInt8:=[32,77,77,77,32,57,57,57,57,32,50,51,58,53,57]
def Ss (s:Nat):List UInt8:=if s=0 then [] else [58,53,57]
def zx (z:Nat):UInt8:=if z=0 then 43 else if z=1 then 45 else if z=2 then 71 else 85
def zr (z:Nat):List UInt8:=if z=0 then [50,51,53,57] else if z=1 then [50,51,53,57] else if z=2 then [109,84] else [84]
def Pp (w d s z:Nat):List UInt8:=Ww w++([57]++(Dd d++(Mm++(Ss s++([32]++zx z::zr z)))))
def PA:Ls:=(List.range 32).map λi=>Pp (i/16) (i/8 % 2) (i/4 % 2) (i % 4)
theorem F98_eq:F98 ((),())=some ((),(PA,())):=by kernel_rfl
theorem PA_len:PA.length=32:=by unfold PA;simp
theorem PA_get {i:Nat} (h:i<32):PA[i]?=some (Pp (i/16) (i/8 % 2) (i/4 % 2) (i % 4)):=by
 unfold PA
 rw [List.getElem?_map,List.getElem?_range h];rfl
theorem PA_ok:∀ p∈PA,p.length<=100/\p.getD 0 0≠51:=by decide
def wq (l:Ls):List UInt8:=if isdig (peek l 0)=true then [] else [87,87,87,44,32]
def zq (l:Ls) (a:Nat):List UInt8:=if peek l a=[43]\/peek l a=[45] then oq l a else if low (peek l a)=[117] then [85,84] else [71,109,84]
def pq (l:Ls):List UInt8 :=
 let wl:=(wq l).length
 let a:=wl+(dq l wl).length
 wq l++(dq l wl++rq 32 true l a (zq l (a+11+(hq true l (a+10)).length)))
structure Ix (l:Ls) (w d s z:Nat):Prop where
 w2:w<2
 d2:d<2
 s2:s<2
 z4:z<4
 pw:w=0<->isdig (peek l 0)=true
 pd:d=1<->isdig (peek l ((Ww w).length+1))=true
 ps:s=1<->peek l ((Ww w).length+1+d+15)=[58]
 pz:∀ z',z'<4->fitS l ((Ww w).length+1+d+15+(Ss s).length+1) (zx z')=true->z'=z
 pq:pq l=Pp w d s z
 pwq:wq l=Ww w
 pdq:dq l (Ww w).length=[57]++Dd d
 phq:hq true l ((Ww w).length+1+d+10)=[50,51,58,53,57]++Ss s
 pzq:zq l ((Ww w).length+1+d+15+(Ss s).length+1)=zx z::zr z
theorem Dd_len {d:Nat} (h:d<2):(Dd d).length=d:=by
 have:d=0\/d=1:=by omega
 rcases this with rfl | rfl <;> rfl
theorem zq_ix (l:Ls) (a:Nat):∃ z,z<4/\zq l a=zx z::zr z/\∀ z',z'<4->fitS l a (zx z')=true->z'=z:=by
 have four:∀ z':Nat,z'<4->z'=0\/z'=1\/z'=2\/z'=3:=λz' h=>by omega
 have f43:fitS l a 43=decide (peek l a=[43]):=fit_own (by decide)
 have f45:fitS l a 45=decide (peek l a=[45]):=fit_own (by decide)
 by_cases h43:peek l a=[43]
 ·refine ⟨0,by omega,?_,λz' hz hf=>?_⟩
  ·unfold zq oq;rw [if_pos (.inl h43),if_neg (by rw [h43];decide)];rfl
  ·rcases four z' hz with rfl | rfl | rfl | rfl
   ·rfl
   ·exact absurd (of_decide_eq_true (f45.symm.trans hf)) (by rw [h43];decide)
   ·exact absurd (of_decide_eq_true ((fit71 a).symm.trans hf)) (by rw [h43];decide)
   ·exact absurd (of_decide_eq_true ((fit85 a).symm.trans hf)) (by rw [h43];decide)
 by_cases h45:peek l a=[45]
 ·refine ⟨1,by omega,?_,λz' hz hf=>?_⟩
  ·unfold zq oq;rw [if_pos (.inr h45),if_pos h45];rfl
  ·rcases four z' hz with rfl | rfl | rfl | rfl
   ·exact absurd (of_decide_eq_true (f43.symm.trans hf)) h43
   ·rfl
   ·exact absurd (of_decide_eq_true ((fit71 a).symm.trans hf)) (by rw [h45];decide)
   ·exact absurd (of_decide_eq_true ((fit85 a).symm.trans hf)) (by rw [h45];decide)
 by_cases hu:low (peek l a)=[117]
 ·refine ⟨3,by omega,?_,λz' hz hf=>?_⟩
  ·unfold zq;rw [if_neg (λh=>h.elim h43 h45),if_pos hu];rfl
  ·rcases four z' hz with rfl | rfl | rfl | rfl
   ·exact absurd (of_decide_eq_true (f43.symm.trans hf)) h43
   ·exact absurd (of_decide_eq_true (f45.symm.trans hf)) h45
   ·exact absurd (of_decide_eq_true ((fit71 a).symm.trans hf)) (by rw [hu];decide)
   ·rfl
 ·refine ⟨2,by omega,?_,λz' hz hf=>?_⟩
  ·unfold zq;rw [if_neg (λh=>h.elim h43 h45),if_neg hu];rfl
  ·rcases four z' hz with rfl | rfl | rfl | rfl
   ·exact absurd (of_decide_eq_true (f43.symm.trans hf)) h43
   ·exact absurd (of_decide_eq_true (f45.symm.trans hf)) h45
   ·rfl
   ·exact absurd (of_decide_eq_true ((fit85 a).symm.trans hf)) hu
theorem ix (l:Ls):∃ w d s z,Ix l w d s z:=by
 obtain ⟨w,hw2,hw,hwq⟩:∃ w:Nat,w<2/\(w=0<->isdig (peek l 0)=true)/\wq l=Ww w:=by
  by_cases h:isdig (peek l 0)=true
  ·exact ⟨0,by omega,by simp [h],by unfold wq;rw [if_pos h];rfl⟩
  ·exact ⟨1,by omega,by simp [h],by unfold wq;rw [if_neg h];rfl⟩
 obtain ⟨d,hd2,hd,hdq⟩:∃ d:Nat,d<2/\(d=1<->isdig (peek l ((Ww w).length+1))=true)/\dq l (Ww w).length=[57]++Dd d:=by
  by_cases h:isdig (peek l ((Ww w).length+1))=true
  ·exact ⟨1,by omega,by simp [h],by unfold dq;rw [if_pos h];rfl⟩
  ·exact ⟨0,by omega,by simp [h],by unfold dq;rw [if_neg h];rfl⟩
 obtain ⟨s,hs2,hs,hsq⟩:∃ s:Nat,s<2/\(s=1<->peek l ((Ww w).length+1+d+15)=[58])/\hq true l ((Ww w).length+1+d+10)=[50,51,58,53,57]++Ss s:=by
  by_cases h:peek l ((Ww w).length+1+d+15)=[58]
  ·exact ⟨1,by omega,by simp [h],by unfold hq;rw [if_neg (λh'=>h'.2 h)];rfl⟩
  ·exact ⟨0,by omega,by simp [h],by unfold hq;rw [if_pos ⟨rfl,h⟩];rfl⟩
 obtain ⟨z,hz4,hzq,hz⟩:=zq_ix l ((Ww w).length+1+d+15+(Ss s).length+1)
 refine ⟨w,d,s,z,hw2,hd2,hs2,hz4,hw,hd,hs,hz,?_,hwq,hdq,hsq,hzq⟩
 unfold pq
 simp only [hwq,hdq]
 have e1:(Ww w).length+([57]++Dd d).length=(Ww w).length+1+d:=by
  rw [List.length_append,Dd_len hd2];simp;omega
 rw [e1]
 unfold rq
 rw [hsq]
 have e2:(Ww w).length+1+d+11+([50,51,58,53,57]++Ss s).length=(Ww w).length+1+d+15+(Ss s).length+1:=by
  rw [List.length_append];simp;omega
 rw [e2,hzq]
 unfold Pp Mm
 simp
theorem bst_parse {w d s z:Nat} (I:Ix l w d s z):bst l PA 0 0=if full l (pq l)=true then (((16*w+8*d+4*s+z:Nat):Int),(mt l (pq l) 0).1) else (-1,(mt l (pq l) 0).1):=by
 have iw2:=I.w2
 have id2:=I.d2
 have is2:=I.s2
 have iz4:=I.z4
 have hk:16*w+8*d+4*s+z<32:=by omega
 have hg:=PA_get hk
 rw [show (16*w+8*d+4*s+z)/16=w by omega,show (16*w+8*d+4*s+z)/8 % 2=d by omega,show (16*w+8*d+4*s+z)/4 % 2=s by omega,show (16*w+8*d+4*s+z) % 4=z by omega,<- I.pq] at hg
 refine bst_dom hg λi p hi hne=>?_
 have hi32:i<32:=by
  rcases Nat.lt_or_ge i 32 with h | h
  ·exact h
  ·rw [List.getElem?_eq_none (by rw [PA_len];exact h)] at hi;cases hi
 rw [PA_get hi32] at hi
 cases hi
 have b1:i/16<2:=by omega
 have b2:i/8 % 2<2:=by omega
 have b3:i/4 % 2<2:=by omega
 have b4:i % 4<4:=by omega
 have hne':¬ (i/16=w/\i/8 % 2=d/\i/4 % 2=s/\i % 4=z):=by omega
 generalize i/16=w' at *
 generalize i/8 % 2=d' at *
 generalize i/4 % 2=s' at *
 generalize i % 4=z' at *
 clear hg hne hk hi32
 rw [I.pq]
 by_cases hw:w'=w
 ·subst hw
  by_cases hd:d'=d
  ·subst hd
   by_cases hs:s'=s
   ·subst hs
    have hz:z'≠z:=λh=>hne' ⟨rfl,rfl,rfl,h⟩
    have hc:∀ z,Pp w' d' s' z=(Ww w'++([57]++(Dd d'++(Mm++(Ss s'++[32])))))++zx z::zr z:=λz=>by unfold Pp;simp
    rw [hc z',hc z]
    refine dom λ_ hh=>?_
    have hlen:(Ww w'++([57]++(Dd d'++(Mm++(Ss s'++[32]))))).length=(Ww w').length+1+d'+15+(Ss s').length+1:=by
     simp only [List.length_append,Dd_len b2];unfold Mm;simp;omega
    rw [hlen] at hh
    exact hz (I.pz z' b4 hh.2)
   ·have hc:∀ s z,Pp w' d' s z=(Ww w'++([57]++(Dd d'++Mm)))++(Ss s++([32]++zx z::zr z)):=λs z=>by unfold Pp;simp
    have hlen:(Ww w'++([57]++(Dd d'++Mm))).length=(Ww w').length+1+d'+15:=by
     simp only [List.length_append,Dd_len b2];unfold Mm;simp;omega
    rw [hc s' z',hc s z]
    have hs':s'=0\/s'=1:=by omega
    rcases hs' with rfl | rfl
    ·have e:Ss 0++([32]++zx z'::zr z')=32::(zx z'::zr z'):=rfl
     rw [e]
     refine dom λ_ hh=>?_
     rw [hlen,fit_own (by decide)] at hh
     have h4:=of_decide_eq_true hh.2
     have h5:=I.ps.1 (by omega)
     rw [h4] at h5;exact absurd h5 (by decide)
    ·have e:Ss 1++([32]++zx z'::zr z')=58::([53,57,32]++zx z'::zr z'):=rfl
     rw [e]
     refine dom λ_ hh=>?_
     rw [hlen,fit_own (by decide)] at hh
     have h4:=of_decide_eq_true hh.2
     have h5:=I.ps.2 h4
     omega
  ·have hc:∀ d s z,Pp w' d s z=(Ww w'++[57])++(Dd d++(Mm++(Ss s++([32]++zx z::zr z)))):=λd s z=>by unfold Pp;simp
   have hlen:(Ww w'++[57]).length=(Ww w').length+1:=by simp
   rw [hc d' s' z',hc d s z]
   have hd':d'=0\/d'=1:=by omega
   rcases hd' with rfl | rfl
   ·have e:Dd 0++(Mm++(Ss s'++([32]++zx z'::zr z')))=32::([77,77,77,32,57,57,57,57,32,50,51,58,53,57]++(Ss s'++([32]++zx z'::zr z'))):=rfl
    rw [e]
    refine dom λ_ hh=>?_
    rw [hlen,fit_own (by decide)] at hh
    have h4:=of_decide_eq_true hh.2
    have h5:=I.pd.1 (by omega)
    rw [h4] at h5;exact absurd h5 (by decide)
   ·have e:Dd 1++(Mm++(Ss s'++([32]++zx z'::zr z')))=57::(Mm++(Ss s'++([32]++zx z'::zr z'))):=rfl
    rw [e]
    refine dom λ_ hh=>?_
    rw [hlen,fit57] at hh
    have h5:=I.pd.2 hh.2
    omega
 ·have hw':w'=0\/w'=1:=by omega
  rcases hw' with rfl | rfl
  ·have e:Pp 0 d' s' z'=[]++57::(Dd d'++(Mm++(Ss s'++([32]++zx z'::zr z')))):=rfl
   have e2:Pp w d s z=[]++Pp w d s z:=rfl
   rw [e,e2]
   refine dom λ_ hh=>?_
   have h3:=hh.2
   rw [fit57] at h3
   have:=I.pw.2 h3
   omega
  ·have e:Pp 1 d' s' z'=[]++87::([87,87,44,32]++([57]++(Dd d'++(Mm++(Ss s'++([32]++zx z'::zr z')))))):=rfl
   have e2:Pp w d s z=[]++Pp w d s z:=rfl
   rw [e,e2]
   refine dom λ_ hh=>?_
   have h3:fitS l 0 87=true:=hh.2
   have hdg:=I.pw.1 (by omega)
   have hl0:0<l.length:=hh.1
   rw [fit87] at h3
   have hb:bk l 2 0=0:=by unfold bk;rw [if_neg (by omega)]
   rw [hb] at h3
   have hcat:cat l 0 1=low (peek l 0):=by
    have:=cat_snoc (l:=l) (f:=0) (n:=0) hl0
    rw [this];unfold cat;simp [low,peek]
   have h3':begins weeks (cat l 0 1)=true:=h3
   rw [hcat] at h3'
   simp only [isdig,bAt,dTe] at hdg
   obtain ⟨x,hx⟩:=List.length_eq_one_iff.1 hdg.1.1
   rw [hx] at h3' hdg
   have hx1:48<=x.toNat:=hdg.1.2
   have hx2:x.toNat<=57:=hdg.2
   have hlow:low [x]=[x]:=by
    unfold low low1
    simp only [List.map_cons,List.map_nil]
    rw [if_neg (by omega)]
   rw [hlow] at h3'
   simp only [begins,bAt,List.any_eq_true,dTe] at h3'
   obtain ⟨_,y,hy,hyx⟩:=h3'
   have hfirst:∀ y∈weeks,97<=(((low y).take 1).getD 0 0).toNat:=by decide
   have:=hfirst y hy
   rw [show [x].length=1 from rfl] at hyx
   rw [hyx] at this
   have h9:97<=x.toNat:=this
   omega
end
section
variable {l:Ls} {a:Nat}
theorem week_sim (hg:Good l):(weekP l).2=st l (mt l (wq l) 0)/\((mt l (wq l) 0).2=true->(isdig (peek l 0)=true/\(weekP l).1=-1)\/(isdig (peek l 0)=false/\5<=l.length/\∃ k:Nat,hit weeks 3 (peek l 0++peek l 1++peek l 2)=some k/\(weekP l).1=k)):=by
 unfold weekP wq
 by_cases hd:isdig (peek l 0)=true
 ·rw [if_pos hd,if_pos hd]
  exact ⟨rfl,λ_=>.inl ⟨hd,rfl⟩⟩
 ·rw [if_neg hd,if_neg hd]
  have s1:=names_sim (a:=0) hg weeks_3 fit87 (.inl rfl)
  have s2:=sim_sg (a:=0+[(87:UInt8),87,87].length) hg (b:=44) (by decide)
  have s3:=sim_sg (a:=0+[(87:UInt8),87,87].length+[(44:UInt8)].length) hg (b:=32) (by decide)
  have c2:=s2.comp' s3.stay λ_=>s3
  have c1:=s1.1.comp' (Y:=λp=>sg [32] l (sg [44] l p)) c2.stay λ_=>c2
  refine ⟨c1.go (Nat.zero_le _),λhm=>.inr ⟨by simpa using hd,?_,?_⟩⟩
  ·have h1:=mt_true hm
   have h2:=mt_len (l:=l) (p:=[87,87,87,44,32]) (Nat.zero_le l.length)
   rw [h1] at h2
   exact h2
  ·have hm':(mt l ([87,87,87]++[44,32]) 0).2=true:=hm
   obtain ⟨m1,_⟩:=mt_split hm'
   exact s1.2 (Nat.zero_le _) m1
def zv (l:Ls) (a:Nat):Int:=if peek l a=[43]\/peek l a=[45] then ov l a else 0
theorem zoneP_sim (hg:Good l):Sim l (λp=>(zoneP l p).2) (zq l a) a/\(a<=l.length->(mt l (zq l a) a).2=true->(zoneP l (a,0)).1=zv l a):=by
 have s1:=off_sim (l:=l) (a:=a) hg
 have s2:=zone_sim (l:=l) (a:=a) hg
 refine ⟨⟨λha=>?_,λp hp=>?_⟩,λha hm=>?_⟩
 ·unfold zq
  by_cases h:peek l a=[43]\/peek l a=[45]
  ·rw [if_pos h]
   have e:zoneP l (a,0)=offS l (a,0):=by unfold zoneP;rw [if_pos h]
   show (zoneP l (a,0)).2=_
   rw [e];exact s1.1.go ha
  ·rw [if_neg h]
   have e:zoneP l (a,0)=(0,(ww zn l (a,0)).2):=by unfold zoneP;rw [if_neg h]
   show (zoneP l (a,0)).2=_
   rw [e];exact s2.go ha
 ·show (zoneP l p).2=p
  unfold zoneP
  split
  ·exact s1.1.stay p hp
  ·exact s2.stay p hp
 ·unfold zv
  unfold zq at hm
  by_cases h:peek l a=[43]\/peek l a=[45]
  ·rw [if_pos h] at hm ⊢
   have e:zoneP l (a,0)=offS l (a,0):=by unfold zoneP;rw [if_pos h]
   rw [e];exact s1.2 ha hm
  ·rw [if_neg h]
   have e:zoneP l (a,0)=(0,(ww zn l (a,0)).2):=by unfold zoneP;rw [if_neg h]
   rw [e]
structure Says (l:Ls) (wl dl:Nat):Prop where
 d:(parseP l).d=dv l dl 0 wl
 y:(parseP l).y=dv l 4 0 (wl+dl+5)
 m:∃ km:Nat,hit months 3 (peek l (wl+dl+1)++peek l (wl+dl+2)++peek l (wl+dl+3))=some km/\(parseP l).m=1+(km:Int)
 s:(parseP l).s=sv true l (wl+dl+10)
 z:(parseP l).z=zv l (wl+dl+11+(hq true l (wl+dl+10)).length)
 k:(isdig (peek l 0)=true/\(parseP l).k=-1)\/(isdig (peek l 0)=false/\5<=l.length/\∃ k:Nat,hit weeks 3 (peek l 0++peek l 1++peek l 2)=some k/\(parseP l).k=k)
theorem parse_sim (hg:Good l):(parseP l).p=st l (mt l (pq l) 0)/\((mt l (pq l) 0).2=true->Says l (wq l).length (dq l (wq l).length).length):=by
 obtain ⟨w1,w2⟩:=week_sim (l:=l) hg
 generalize hW:(wq l).length=wl
 have hn:=n12_sim (l:=l) (a:=wl) hg
 generalize hD:(dq l wl).length=dl
 have hz:=zoneP_sim (l:=l) (a:=wl+dl+11+(hq true l (wl+dl+10)).length) hg
 have hr:=rest_sim (l:=l) (a:=wl+dl) hg (sep:=32) (by decide) (by decide) (may:=true) (Z:=zoneP l) (Zq:=zq l (wl+dl+11+(hq true l (wl+dl+10)).length)) (zv:=zv l (wl+dl+11+(hq true l (wl+dl+10)).length)) hz.1 hz.2 (weekP l).1 (n12S l (weekP l).2).1
 have hpq:pq l=wq l++(dq l wl++rq 32 true l (wl+dl) (zq l (wl+dl+11+(hq true l (wl+dl+10)).length))):=by
  unfold pq;simp only [hW,hD]
 rw [hpq]
 generalize rq 32 true l (wl+dl) (zq l (wl+dl+11+(hq true l (wl+dl+10)).length))=R at hr
 have hap:=mt_append l (wq l) (dq l wl++R) 0
 rw [Nat.zero_add,hW] at hap
 have hap2:=mt_append l (dq l wl) R wl
 rw [hD] at hap2
 rw [hap]
 have hk:(parseP l).k=(weekP l).1:=rfl
 cases hm:(mt l (wq l) 0).2 with
 | false =>
  rw [if_neg (by simp)]
  refine ⟨?_,λh=>by rw [hm] at h;cases h⟩
  have hs:=st_false (l:=l) hm
  rw [<- w1] at hs
  unfold parseP
  rw [<- w1]
  have e1:(n12S l (weekP l).2).2=(weekP l).2:=hn.1.stay _ hs
  rw [e1]
  exact hr.1.stay _ hs
 | true =>
  rw [if_pos rfl,hap2]
  have hpos:=mt_true hm
  have hle:=mt_len (l:=l) (p:=wq l) (Nat.zero_le l.length)
  rw [Nat.zero_add,hW] at hpos
  rw [hpos] at hle
  have e0:(weekP l).2=(wl,0):=by rw [w1,st_true hm,hpos]
  have g1:(n12S l (wl,0)).2=_:=hn.1.go hle
  cases hm2:(mt l (dq l wl) wl).2 with
  | false =>
   rw [if_neg (by simp)]
   refine ⟨?_,λh=>by rw [hm2] at h;cases h⟩
   have hs:=st_false (l:=l) hm2
   rw [<- g1] at hs
   unfold parseP
   rw [e0] at hr ⊢
   rw [<- g1]
   exact hr.1.stay _ hs
  | true =>
   rw [if_pos rfl]
   have hpos2:=mt_true hm2
   have hle2:=mt_len (l:=l) (p:=dq l wl) hle
   rw [hD] at hpos2
   rw [hpos2] at hle2
   have e1:(n12S l (wl,0)).2=(wl+dl,0):=by rw [g1,st_true hm2,hpos2]
   have hP:parseP l=restP l [32] (weekP l).1 (n12S l (weekP l).2).1 (wl+dl,0) true (zoneP l):=by
    unfold parseP;rw [e0,e1]
   refine ⟨by rw [hP];exact hr.1.go hle2,λh=>?_⟩
   have:=hr.2 hle2 h
   rw [<- hP] at this
   refine ⟨?_,this.1,this.2.1,this.2.2.1,this.2.2.2,by rw [hk];exact w2 hm⟩
   have hd:(parseP l).d=(n12S l (weekP l).2).1:=rfl
   rw [hd,e0,hn.2 hle hm2,hD]
end
section
variable {l:Ls} {a:Nat}
theorem wn1:w64 1=1:=by decide
theorem wn2:w64 2=2:=by decide
theorem wn3:w64 3=3:=by decide
theorem wn6:w64 6=6:=by decide
theorem wn7:w64 7=7:=by decide
theorem wn8:w64 8=8:=by decide
theorem wn11:w64 11=11:=by decide
theorem wn12:w64 12=12:=by decide
theorem wn14:w64 14=14:=by decide
theorem wn15:w64 15=15:=by decide
theorem wn16:w64 16=16:=by decide
theorem wn17:w64 17=17:=by decide
theorem wn18:w64 18=18:=by decide
theorem wn19:w64 19=19:=by decide
theorem wn20:w64 20=20:=by decide
theorem wn21:w64 21=21:=by decide
theorem wn22:w64 22=22:=by decide
theorem wn23:w64 23=23:=by decide
theorem wn24:w64 24=24:=by decide
theorem wn25:w64 25=25:=by decide
theorem wn26:w64 26=26:=by decide
theorem sv_w0 {h m:Int} (h1:0<=h/\h<=99) (h2:0<=m/\m<=99):w64 (w64 (3600*h)+w64 (60*m))=3600*h+60*m:=by
 rw [w64_id (n:=3600*h) (by omega) (by omega),w64_id (n:=60*m) (by omega) (by omega),w64_id (n:=3600*h+60*m) (by omega) (by omega)]
theorem zone_eq (hl:l.length<=2000000) (h:(mt l (zq l a) a).2=true):F106 ((l,(a:Int),()),())=some (zv l a,()):=by
 unfold zv
 unfold zq at h
 by_cases hc:peek l a=[43]\/peek l a=[45]
 ·rw [if_pos hc] at h ⊢
  exact F32_off hl h
 ·rw [if_neg hc] at h ⊢
  have:a<l.length:=by
   by_cases hu:low (peek l a)=[117]
   ·rw [if_pos hu] at h
    exact (mt_one (mt_split (p:=[85]) (q:=[84]) h).1).1
   ·rw [if_neg hu] at h
    exact (mt_one (mt_split (p:=[71]) (q:=[109,84]) h).1).1
  exact F32_no this hc
theorem full_00 {s:List UInt8} {l:Ls} (h:Lt s l) {v z:Nat} {far:Nat} (I:Ix l 0 0 v z) (hf:full l (pq l)=true) (hb:bst l PA 0 0=(((16*0+8*0+4*v+z:Nat):Int),far)) (S:Says l 0 1) {t u e n b wk:Int}
  (e31:F105 ((((parseP l).y,(parseP l).m,(parseP l).d,()),(parseP l).s,(parseP l).z,()),())=some (((t,u,()),0,e,()),())) (_e33:F63 ((((parseP l).y,(parseP l).m,(parseP l).d,()),()),())=some ((n,b,()),())) (_e34:F107 ((n,()),())=some (wk,())) :
  F61 ((s,()),())=some ((if e=0/\0<=(parseP l).k/\wk≠(parseP l).k then ((0,0,()),0,2,()) else ((t,u,()),0,e,())),()):=by
 have hl:=h.len
 have hg:=h.good
 obtain ⟨hm,_,hql⟩:=full_true hf
 have hpq:pq l=Ww 0++(([57]++Dd 0)++rq 32 true l 1 (zq l (1+11+(hq true l (1+10)).length))):=by
  have e0:=I.pwq
  have e1:=I.pdq
  unfold pq
  simp only [e0]
  rw [e1];rfl
 rw [hpq] at hm hql
 obtain ⟨m0,hm⟩:=mt_split hm
 obtain ⟨m1,m2⟩:=mt_split hm
 have m1':(mt l (List.replicate 1 57) 0).2=true:=m1
 have m2':(mt l (rq 32 true l 1 (zq l (1+11+(hq true l (1+10)).length))) 1).2=true:=m2
 have R:=rest_facts (a:=1) hg hl m2'
 have RL:=R.len
 have hd:=dq_digs (l:=l) (a:=0) (n:=1) (by omega) (by rw [show dq l 0=[57]++Dd 0 from I.pdq];rfl) (by rw [show dq l 0=[57]++Dd 0 from I.pdq];exact m1)
 obtain ⟨km,hk,hvm⟩:=S.m
 have Rm:=R.month km hk
 have f30:F104 ((),())=some ((),(months,())):=rfl
 have f28:F102 ((),())=some ((),(weeks,())):=rfl
 have e25:=F99_eq' hg hl (all:=PA) (by decide) PA_ok
 have iv:=I.s2
 have iz:=I.z4
 have hK:16*0+8*0+4*v+z<32:=by omega
 have hgt:PA.getD (16*0+8*0+4*v+z) []=Pp 0 0 v z:=by
  have hg:=PA_get hK
  rw [show (16*0+8*0+4*v+z)/16=0 by omega,show (16*0+8*0+4*v+z)/8 % 2=0 by omega,show (16*0+8*0+4*v+z)/4 % 2=v by omega,show (16*0+8*0+4*v+z) % 4=z by omega] at hg
  rw [List.getD_eq_getElem?_getD,hg];rfl
 generalize hKd:16*0+8*0+4*v+z=K at hb hK hgt
 have cneg:decide (((K:Nat):Int)<0)=false:=dFf (by omega)
 have c0:decide ((0:Int)<=((K:Nat):Int))=true:=dTt (by omega)
 have c1:decide (((K:Nat):Int)<((PA.length:Nat):Int))=true:=dTt (by rw [PA_len];omega)
 have hP:Pp 0 0 v z=57::(Mm++(Ss v++([32]++zx z::zr z))):=rfl
 have hPl:1<(Pp 0 0 v z).length:=by rw [hP];unfold Mm;simp
 have c2:decide ((0:Int)<(((Pp 0 0 v z).length:Nat):Int))=true:=dTt (by omega)
 have c3:decide ((1:Int)<(((Pp 0 0 v z).length:Nat):Int))=true:=dTt (by omega)
 have c3':decide ((0:Int)<=(1:Int))=true:=by decide
 have g0:decide ((Pp 0 0 v z).getD 0 0=87)=false:=by rw [hP];rfl
 have g1:decide ((Pp 0 0 v z).getD 1 0=57)=false:=by rw [hP];rfl
 have tn:Int.toNat (1:Int)=1:=rfl
 have hk':(parseP l).k=-1:=(S.k.resolve_right (λhx=>absurd (I.pw.1 rfl) (by rw [hx.1];simp))).2
 have e29d:F103 ((l,0,1,()),())=some (dv l 1 0 0,()):=F103_eq' (a:=0) (n:=1) hl (by omega) (by omega) hd
 have e27:F101 ((l,2,months,()),())=some ((km:Int),()):=Rm.1
 have ey:F103 ((l,6,4,()),())=some (dv l 4 0 6,()):=R.year.1
 have eh:F103 ((l,11,2,()),())=some (dv l 2 0 11,()):=R.hour.1
 have emi:F103 ((l,14,2,()),())=some (dv l 2 0 14,()):=R.min.1
 have hsg:List.getD l 16 []=peek l 16:=rfl
 have tn2:Int.toNat (16:Int)=16:=rfl
 have c4':decide ((0:Int)<=(16:Int))=true:=by decide
 rw [S.y,hvm,S.d,S.s,S.z] at e31
 have hq5:5<=(hq true l (1+10)).length:=by unfold hq;split <;> simp
 have c4:decide ((16:Int)<((l.length:Nat):Int))=true:=dTt (by omega)
 rw [hk']
 by_cases hs:peek l 16=[58]
 ·have hqe:hq true l (1+10)=[50,51,58,53,57,58,53,57]:=by unfold hq;rw [if_neg (λhx=>hx.2 hs)]
  have Rs:=R.sec (λhx=>hx.2 hs)
  have Rz:=R.zone
  rw [hqe] at Rz e31
  have cs:decide (peek l 16=[58])=true:=dTt hs
  have es:F103 ((l,17,2,()),())=some (dv l 2 0 17,()):=Rs.1
  have e32:F106 ((l,20,()),())=some (zv l 20,()):=zone_eq (a:=20) hl Rz
  have hsv:sv true l (1+10)=w64 (w64 (w64 (3600*dv l 2 0 11)+w64 (60*dv l 2 0 14))+dv l 2 0 17):=by
   unfold sv;rw [if_neg (λhx=>hx.2 hs)];exact (sv_w R.hour.2 R.min.2 Rs.2).symm
  rw [hsv] at e31
  have hz':zv l (1+11+([50,51,58,53,57,58,53,57]:List UInt8).length)=zv l 20:=rfl
  rw [hz'] at e31
  have ck:decide ((0:Int)<=(-1:Int))=false:=by decide
  rw [if_neg (λhx=>absurd hx.2.1 (by decide))]
  simp only [F61,h.ref,oBs,F98_eq,e25,hb,cneg,cFf,cTt,c0,c1,bAs,nCt,hgt,c2,g0,Int.reduceAdd,wn1,c3,c3',tn,g1,e29d,f30,wn2,wn6,wn11,wn14,wn16,wn17,wn19,wn20,e27,ey,eh,emi,c4,c4',tn2,hsg,Rm.2,cs,es,e32,e31,agr_self,ck,Bool.and_false]
 ·have hqe:hq true l (1+10)=[50,51,58,53,57]:=by unfold hq;rw [if_pos ⟨rfl,hs⟩]
  have Rz:=R.zone
  rw [hqe] at Rz e31
  have cs:decide (peek l 16=[58])=false:=dFf hs
  have e32:F106 ((l,17,()),())=some (zv l 17,()):=zone_eq (a:=17) hl Rz
  have hsv:sv true l (1+10)=w64 (w64 (3600*dv l 2 0 11)+w64 (60*dv l 2 0 14)):=by
   unfold sv;rw [if_pos ⟨rfl,hs⟩,Int.add_zero];exact (sv_w0 R.hour.2 R.min.2).symm
  rw [hsv] at e31
  have hz':zv l (1+11+([50,51,58,53,57]:List UInt8).length)=zv l 17:=rfl
  rw [hz'] at e31
  have ck:decide ((0:Int)<=(-1:Int))=false:=by decide
  rw [if_neg (λhx=>absurd hx.2.1 (by decide))]
  simp only [F61,h.ref,oBs,F98_eq,e25,hb,cneg,cFf,cTt,c0,c1,bAs,nCt,hgt,c2,g0,Int.reduceAdd,wn1,c3,c3',tn,g1,e29d,f30,wn2,wn6,wn11,wn14,wn16,wn17,e27,ey,eh,emi,c4,c4',tn2,hsg,Rm.2,cs,e32,e31,agr_self,ck,Bool.and_false]
theorem full_01 {s:List UInt8} {l:Ls} (h:Lt s l) {v z:Nat} {far:Nat} (I:Ix l 0 1 v z) (hf:full l (pq l)=true) (hb:bst l PA 0 0=(((16*0+8*1+4*v+z:Nat):Int),far)) (S:Says l 0 2) {t u e n b wk:Int}
  (e31:F105 ((((parseP l).y,(parseP l).m,(parseP l).d,()),(parseP l).s,(parseP l).z,()),())=some (((t,u,()),0,e,()),())) (_e33:F63 ((((parseP l).y,(parseP l).m,(parseP l).d,()),()),())=some ((n,b,()),())) (_e34:F107 ((n,()),())=some (wk,())) :
  F61 ((s,()),())=some ((if e=0/\0<=(parseP l).k/\wk≠(parseP l).k then ((0,0,()),0,2,()) else ((t,u,()),0,e,())),()):=by
 have hl:=h.len
 have hg:=h.good
 obtain ⟨hm,_,hql⟩:=full_true hf
 have hpq:pq l=Ww 0++(([57]++Dd 1)++rq 32 true l 2 (zq l (2+11+(hq true l (2+10)).length))):=by
  have e0:=I.pwq
  have e1:=I.pdq
  unfold pq
  simp only [e0]
  rw [e1];rfl
 rw [hpq] at hm hql
 obtain ⟨m0,hm⟩:=mt_split hm
 obtain ⟨m1,m2⟩:=mt_split hm
 have m1':(mt l (List.replicate 2 57) 0).2=true:=m1
 have m2':(mt l (rq 32 true l 2 (zq l (2+11+(hq true l (2+10)).length))) 2).2=true:=m2
 have R:=rest_facts (a:=2) hg hl m2'
 have RL:=R.len
 have hd:=dq_digs (l:=l) (a:=0) (n:=2) (by omega) (by rw [show dq l 0=[57]++Dd 1 from I.pdq];rfl) (by rw [show dq l 0=[57]++Dd 1 from I.pdq];exact m1)
 obtain ⟨km,hk,hvm⟩:=S.m
 have Rm:=R.month km hk
 have f30:F104 ((),())=some ((),(months,())):=rfl
 have f28:F102 ((),())=some ((),(weeks,())):=rfl
 have e25:=F99_eq' hg hl (all:=PA) (by decide) PA_ok
 have iv:=I.s2
 have iz:=I.z4
 have hK:16*0+8*1+4*v+z<32:=by omega
 have hgt:PA.getD (16*0+8*1+4*v+z) []=Pp 0 1 v z:=by
  have hg:=PA_get hK
  rw [show (16*0+8*1+4*v+z)/16=0 by omega,show (16*0+8*1+4*v+z)/8 % 2=1 by omega,show (16*0+8*1+4*v+z)/4 % 2=v by omega,show (16*0+8*1+4*v+z) % 4=z by omega] at hg
  rw [List.getD_eq_getElem?_getD,hg];rfl
 generalize hKd:16*0+8*1+4*v+z=K at hb hK hgt
 have cneg:decide (((K:Nat):Int)<0)=false:=dFf (by omega)
 have c0:decide ((0:Int)<=((K:Nat):Int))=true:=dTt (by omega)
 have c1:decide (((K:Nat):Int)<((PA.length:Nat):Int))=true:=dTt (by rw [PA_len];omega)
 have hP:Pp 0 1 v z=57::57::(Mm++(Ss v++([32]++zx z::zr z))):=rfl
 have hPl:1<(Pp 0 1 v z).length:=by rw [hP];unfold Mm;simp
 have c2:decide ((0:Int)<(((Pp 0 1 v z).length:Nat):Int))=true:=dTt (by omega)
 have c3:decide ((1:Int)<(((Pp 0 1 v z).length:Nat):Int))=true:=dTt (by omega)
 have c3':decide ((0:Int)<=(1:Int))=true:=by decide
 have g0:decide ((Pp 0 1 v z).getD 0 0=87)=false:=by rw [hP];rfl
 have g1:decide ((Pp 0 1 v z).getD 1 0=57)=true:=by rw [hP];rfl
 have tn:Int.toNat (1:Int)=1:=rfl
 have hk':(parseP l).k=-1:=(S.k.resolve_right (λhx=>absurd (I.pw.1 rfl) (by rw [hx.1];simp))).2
 have e29d:F103 ((l,0,2,()),())=some (dv l 2 0 0,()):=F103_eq' (a:=0) (n:=2) hl (by omega) (by omega) hd
 have e27:F101 ((l,3,months,()),())=some ((km:Int),()):=Rm.1
 have ey:F103 ((l,7,4,()),())=some (dv l 4 0 7,()):=R.year.1
 have eh:F103 ((l,12,2,()),())=some (dv l 2 0 12,()):=R.hour.1
 have emi:F103 ((l,15,2,()),())=some (dv l 2 0 15,()):=R.min.1
 have hsg:List.getD l 17 []=peek l 17:=rfl
 have tn2:Int.toNat (17:Int)=17:=rfl
 have c4':decide ((0:Int)<=(17:Int))=true:=by decide
 rw [S.y,hvm,S.d,S.s,S.z] at e31
 have hq5:5<=(hq true l (2+10)).length:=by unfold hq;split <;> simp
 have c4:decide ((17:Int)<((l.length:Nat):Int))=true:=dTt (by omega)
 rw [hk']
 by_cases hs:peek l 17=[58]
 ·have hqe:hq true l (2+10)=[50,51,58,53,57,58,53,57]:=by unfold hq;rw [if_neg (λhx=>hx.2 hs)]
  have Rs:=R.sec (λhx=>hx.2 hs)
  have Rz:=R.zone
  rw [hqe] at Rz e31
  have cs:decide (peek l 17=[58])=true:=dTt hs
  have es:F103 ((l,18,2,()),())=some (dv l 2 0 18,()):=Rs.1
  have e32:F106 ((l,21,()),())=some (zv l 21,()):=zone_eq (a:=21) hl Rz
  have hsv:sv true l (2+10)=w64 (w64 (w64 (3600*dv l 2 0 12)+w64 (60*dv l 2 0 15))+dv l 2 0 18):=by
   unfold sv;rw [if_neg (λhx=>hx.2 hs)];exact (sv_w R.hour.2 R.min.2 Rs.2).symm
  rw [hsv] at e31
  have hz':zv l (2+11+([50,51,58,53,57,58,53,57]:List UInt8).length)=zv l 21:=rfl
  rw [hz'] at e31
  have ck:decide ((0:Int)<=(-1:Int))=false:=by decide
  rw [if_neg (λhx=>absurd hx.2.1 (by decide))]
  simp only [F61,h.ref,oBs,F98_eq,e25,hb,cneg,cFf,cTt,c0,c1,bAs,nCt,hgt,c2,g0,Int.reduceAdd,wn1,c3,c3',tn,g1,e29d,f30,wn2,wn3,wn7,wn12,wn15,wn17,wn18,wn20,wn21,e27,ey,eh,emi,c4,c4',tn2,hsg,Rm.2,cs,es,e32,e31,agr_self,ck,Bool.and_false]
 ·have hqe:hq true l (2+10)=[50,51,58,53,57]:=by unfold hq;rw [if_pos ⟨rfl,hs⟩]
  have Rz:=R.zone
  rw [hqe] at Rz e31
  have cs:decide (peek l 17=[58])=false:=dFf hs
  have e32:F106 ((l,18,()),())=some (zv l 18,()):=zone_eq (a:=18) hl Rz
  have hsv:sv true l (2+10)=w64 (w64 (3600*dv l 2 0 12)+w64 (60*dv l 2 0 15)):=by
   unfold sv;rw [if_pos ⟨rfl,hs⟩,Int.add_zero];exact (sv_w0 R.hour.2 R.min.2).symm
  rw [hsv] at e31
  have hz':zv l (2+11+([50,51,58,53,57]:List UInt8).length)=zv l 18:=rfl
  rw [hz'] at e31
  have ck:decide ((0:Int)<=(-1:Int))=false:=by decide
  rw [if_neg (λhx=>absurd hx.2.1 (by decide))]
  simp only [F61,h.ref,oBs,F98_eq,e25,hb,cneg,cFf,cTt,c0,c1,bAs,nCt,hgt,c2,g0,Int.reduceAdd,wn1,c3,c3',tn,g1,e29d,f30,wn2,wn3,wn7,wn12,wn15,wn17,wn18,e27,ey,eh,emi,c4,c4',tn2,hsg,Rm.2,cs,e32,e31,agr_self,ck,Bool.and_false]
theorem full_10 {s:List UInt8} {l:Ls} (h:Lt s l) {v z:Nat} {far:Nat} (I:Ix l 1 0 v z) (hf:full l (pq l)=true) (hb:bst l PA 0 0=(((16*1+8*0+4*v+z:Nat):Int),far)) (S:Says l 5 1) {t u e n b wk:Int}
  (e31:F105 ((((parseP l).y,(parseP l).m,(parseP l).d,()),(parseP l).s,(parseP l).z,()),())=some (((t,u,()),0,e,()),())) (e33:F63 ((((parseP l).y,(parseP l).m,(parseP l).d,()),()),())=some ((n,b,()),())) (e34:F107 ((n,()),())=some (wk,())) :
  F61 ((s,()),())=some ((if e=0/\0<=(parseP l).k/\wk≠(parseP l).k then ((0,0,()),0,2,()) else ((t,u,()),0,e,())),()):=by
 have hl:=h.len
 have hg:=h.good
 obtain ⟨hm,_,hql⟩:=full_true hf
 have hpq:pq l=Ww 1++(([57]++Dd 0)++rq 32 true l 6 (zq l (6+11+(hq true l (6+10)).length))):=by
  have e0:=I.pwq
  have e1:=I.pdq
  unfold pq
  simp only [e0]
  rw [e1];rfl
 rw [hpq] at hm hql
 obtain ⟨m0,hm⟩:=mt_split hm
 obtain ⟨m1,m2⟩:=mt_split hm
 have m1':(mt l (List.replicate 1 57) 5).2=true:=m1
 have m2':(mt l (rq 32 true l 6 (zq l (6+11+(hq true l (6+10)).length))) 6).2=true:=m2
 have R:=rest_facts (a:=6) hg hl m2'
 have RL:=R.len
 have hd:=dq_digs (l:=l) (a:=5) (n:=1) (by omega) (by rw [show dq l 5=[57]++Dd 0 from I.pdq];rfl) (by rw [show dq l 5=[57]++Dd 0 from I.pdq];exact m1)
 obtain ⟨km,hk,hvm⟩:=S.m
 have Rm:=R.month km hk
 have f30:F104 ((),())=some ((),(months,())):=rfl
 have f28:F102 ((),())=some ((),(weeks,())):=rfl
 have e25:=F99_eq' hg hl (all:=PA) (by decide) PA_ok
 have iv:=I.s2
 have iz:=I.z4
 have hK:16*1+8*0+4*v+z<32:=by omega
 have hgt:PA.getD (16*1+8*0+4*v+z) []=Pp 1 0 v z:=by
  have hg:=PA_get hK
  rw [show (16*1+8*0+4*v+z)/16=1 by omega,show (16*1+8*0+4*v+z)/8 % 2=0 by omega,show (16*1+8*0+4*v+z)/4 % 2=v by omega,show (16*1+8*0+4*v+z) % 4=z by omega] at hg
  rw [List.getD_eq_getElem?_getD,hg];rfl
 generalize hKd:16*1+8*0+4*v+z=K at hb hK hgt
 have cneg:decide (((K:Nat):Int)<0)=false:=dFf (by omega)
 have c0:decide ((0:Int)<=((K:Nat):Int))=true:=dTt (by omega)
 have c1:decide (((K:Nat):Int)<((PA.length:Nat):Int))=true:=dTt (by rw [PA_len];omega)
 have hP:Pp 1 0 v z=87::87::87::44::32::57::(Mm++(Ss v++([32]++zx z::zr z))):=rfl
 have hPl:6<(Pp 1 0 v z).length:=by rw [hP];unfold Mm;simp
 have c2:decide ((0:Int)<(((Pp 1 0 v z).length:Nat):Int))=true:=dTt (by omega)
 have c3:decide ((6:Int)<(((Pp 1 0 v z).length:Nat):Int))=true:=dTt (by omega)
 have c3':decide ((0:Int)<=(6:Int))=true:=by decide
 have g0:decide ((Pp 1 0 v z).getD 0 0=87)=true:=by rw [hP];rfl
 have g1:decide ((Pp 1 0 v z).getD 6 0=57)=false:=by rw [hP];rfl
 have tn:Int.toNat (6:Int)=6:=rfl
 obtain ⟨_,_,kw,hkw,hk'⟩:isdig (peek l 0)=false/\5<=l.length/\∃ k:Nat,hit weeks 3 (peek l 0++peek l 1++peek l 2)=some k/\(parseP l).k=k:=S.k.resolve_left (λhx=>absurd (I.pw.2 hx.1) (by decide))
 have e27w:F101 ((l,0,weeks,()),())=some ((kw:Int),()):=F101_eq' (a:=0) hg hl weeks_3 (by omega) hkw
 have e29d:F103 ((l,5,1,()),())=some (dv l 1 0 5,()):=F103_eq' (a:=5) (n:=1) hl (by omega) (by omega) hd
 have e27:F101 ((l,7,months,()),())=some ((km:Int),()):=Rm.1
 have ey:F103 ((l,11,4,()),())=some (dv l 4 0 11,()):=R.year.1
 have eh:F103 ((l,16,2,()),())=some (dv l 2 0 16,()):=R.hour.1
 have emi:F103 ((l,19,2,()),())=some (dv l 2 0 19,()):=R.min.1
 have hsg:List.getD l 21 []=peek l 21:=rfl
 have tn2:Int.toNat (21:Int)=21:=rfl
 have c4':decide ((0:Int)<=(21:Int))=true:=by decide
 rw [S.y,hvm,S.d,S.s,S.z] at e31
 rw [S.y,hvm,S.d] at e33
 have hq5:5<=(hq true l (6+10)).length:=by unfold hq;split <;> simp
 have c4:decide ((21:Int)<((l.length:Nat):Int))=true:=dTt (by omega)
 rw [hk']
 by_cases hs:peek l 21=[58]
 ·have hqe:hq true l (6+10)=[50,51,58,53,57,58,53,57]:=by unfold hq;rw [if_neg (λhx=>hx.2 hs)]
  have Rs:=R.sec (λhx=>hx.2 hs)
  have Rz:=R.zone
  rw [hqe] at Rz e31
  have cs:decide (peek l 21=[58])=true:=dTt hs
  have es:F103 ((l,22,2,()),())=some (dv l 2 0 22,()):=Rs.1
  have e32:F106 ((l,25,()),())=some (zv l 25,()):=zone_eq (a:=25) hl Rz
  have hsv:sv true l (6+10)=w64 (w64 (w64 (3600*dv l 2 0 16)+w64 (60*dv l 2 0 19))+dv l 2 0 22):=by
   unfold sv;rw [if_neg (λhx=>hx.2 hs)];exact (sv_w R.hour.2 R.min.2 Rs.2).symm
  rw [hsv] at e31
  have hz':zv l (6+11+([50,51,58,53,57,58,53,57]:List UInt8).length)=zv l 25:=rfl
  rw [hz'] at e31
  have ck:decide ((0:Int)<=(kw:Int))=true:=dTt (by omega)
  by_cases he:e=0
  ·have ce:=dTt he
   by_cases hw:wk=(kw:Int)
   ·have cw:=dTt hw
    rw [if_neg (λhx=>hx.2.2 hw)]
    simp only [F61,h.ref,oBs,F98_eq,e25,hb,cneg,cFf,cTt,c0,c1,bAs,nCt,hgt,c2,g0,f28,e27w,Int.reduceAdd,wn6,c3,c3',tn,g1,e29d,f30,wn7,wn11,wn16,wn19,wn21,wn22,wn24,wn25,e27,ey,eh,emi,c4,c4',tn2,hsg,Rm.2,cs,es,e32,e31,agr_self,ce,ck,e33,e34,cw,Bool.not_true]
   ·have cw:=dFf hw
    rw [if_pos ⟨he,by omega,hw⟩]
    simp only [F61,h.ref,oBs,F98_eq,e25,hb,cneg,cFf,cTt,c0,c1,bAs,nCt,hgt,c2,g0,f28,e27w,Int.reduceAdd,wn6,c3,c3',tn,g1,e29d,f30,wn7,wn11,wn16,wn19,wn21,wn22,wn24,wn25,e27,ey,eh,emi,c4,c4',tn2,hsg,Rm.2,cs,es,e32,e31,agr_self,ce,ck,e33,e34,cw,Bool.not_false]
  ·have ce:=dFf he
   rw [if_neg (λhx=>he hx.1)]
   simp only [F61,h.ref,oBs,F98_eq,e25,hb,cneg,cFf,cTt,c0,c1,bAs,nCt,hgt,c2,g0,f28,e27w,Int.reduceAdd,wn6,c3,c3',tn,g1,e29d,f30,wn7,wn11,wn16,wn19,wn21,wn22,wn24,wn25,e27,ey,eh,emi,c4,c4',tn2,hsg,Rm.2,cs,es,e32,e31,agr_self,ce,ck,Bool.false_and]
 ·have hqe:hq true l (6+10)=[50,51,58,53,57]:=by unfold hq;rw [if_pos ⟨rfl,hs⟩]
  have Rz:=R.zone
  rw [hqe] at Rz e31
  have cs:decide (peek l 21=[58])=false:=dFf hs
  have e32:F106 ((l,22,()),())=some (zv l 22,()):=zone_eq (a:=22) hl Rz
  have hsv:sv true l (6+10)=w64 (w64 (3600*dv l 2 0 16)+w64 (60*dv l 2 0 19)):=by
   unfold sv;rw [if_pos ⟨rfl,hs⟩,Int.add_zero];exact (sv_w0 R.hour.2 R.min.2).symm
  rw [hsv] at e31
  have hz':zv l (6+11+([50,51,58,53,57]:List UInt8).length)=zv l 22:=rfl
  rw [hz'] at e31
  have ck:decide ((0:Int)<=(kw:Int))=true:=dTt (by omega)
  by_cases he:e=0
  ·have ce:=dTt he
   by_cases hw:wk=(kw:Int)
   ·have cw:=dTt hw
    rw [if_neg (λhx=>hx.2.2 hw)]
    simp only [F61,h.ref,oBs,F98_eq,e25,hb,cneg,cFf,cTt,c0,c1,bAs,nCt,hgt,c2,g0,f28,e27w,Int.reduceAdd,wn6,c3,c3',tn,g1,e29d,f30,wn7,wn11,wn16,wn19,wn21,wn22,e27,ey,eh,emi,c4,c4',tn2,hsg,Rm.2,cs,e32,e31,agr_self,ce,ck,e33,e34,cw,Bool.not_true]
   ·have cw:=dFf hw
    rw [if_pos ⟨he,by omega,hw⟩]
    simp only [F61,h.ref,oBs,F98_eq,e25,hb,cneg,cFf,cTt,c0,c1,bAs,nCt,hgt,c2,g0,f28,e27w,Int.reduceAdd,wn6,c3,c3',tn,g1,e29d,f30,wn7,wn11,wn16,wn19,wn21,wn22,e27,ey,eh,emi,c4,c4',tn2,hsg,Rm.2,cs,e32,e31,agr_self,ce,ck,e33,e34,cw,Bool.not_false]
  ·have ce:=dFf he
   rw [if_neg (λhx=>he hx.1)]
   simp only [F61,h.ref,oBs,F98_eq,e25,hb,cneg,cFf,cTt,c0,c1,bAs,nCt,hgt,c2,g0,f28,e27w,Int.reduceAdd,wn6,c3,c3',tn,g1,e29d,f30,wn7,wn11,wn16,wn19,wn21,wn22,e27,ey,eh,emi,c4,c4',tn2,hsg,Rm.2,cs,e32,e31,agr_self,ce,ck,Bool.false_and]
theorem full_11 {s:List UInt8} {l:Ls} (h:Lt s l) {v z:Nat} {far:Nat} (I:Ix l 1 1 v z) (hf:full l (pq l)=true) (hb:bst l PA 0 0=(((16*1+8*1+4*v+z:Nat):Int),far)) (S:Says l 5 2) {t u e n b wk:Int}
  (e31:F105 ((((parseP l).y,(parseP l).m,(parseP l).d,()),(parseP l).s,(parseP l).z,()),())=some (((t,u,()),0,e,()),())) (e33:F63 ((((parseP l).y,(parseP l).m,(parseP l).d,()),()),())=some ((n,b,()),())) (e34:F107 ((n,()),())=some (wk,())) :
  F61 ((s,()),())=some ((if e=0/\0<=(parseP l).k/\wk≠(parseP l).k then ((0,0,()),0,2,()) else ((t,u,()),0,e,())),()):=by
 have hl:=h.len
 have hg:=h.good
 obtain ⟨hm,_,hql⟩:=full_true hf
 have hpq:pq l=Ww 1++(([57]++Dd 1)++rq 32 true l 7 (zq l (7+11+(hq true l (7+10)).length))):=by
  have e0:=I.pwq
  have e1:=I.pdq
  unfold pq
  simp only [e0]
  rw [e1];rfl
 rw [hpq] at hm hql
 obtain ⟨m0,hm⟩:=mt_split hm
 obtain ⟨m1,m2⟩:=mt_split hm
 have m1':(mt l (List.replicate 2 57) 5).2=true:=m1
 have m2':(mt l (rq 32 true l 7 (zq l (7+11+(hq true l (7+10)).length))) 7).2=true:=m2
 have R:=rest_facts (a:=7) hg hl m2'
 have RL:=R.len
 have hd:=dq_digs (l:=l) (a:=5) (n:=2) (by omega) (by rw [show dq l 5=[57]++Dd 1 from I.pdq];rfl) (by rw [show dq l 5=[57]++Dd 1 from I.pdq];exact m1)
 obtain ⟨km,hk,hvm⟩:=S.m
 have Rm:=R.month km hk
 have f30:F104 ((),())=some ((),(months,())):=rfl
 have f28:F102 ((),())=some ((),(weeks,())):=rfl
 have e25:=F99_eq' hg hl (all:=PA) (by decide) PA_ok
 have iv:=I.s2
 have iz:=I.z4
 have hK:16*1+8*1+4*v+z<32:=by omega
 have hgt:PA.getD (16*1+8*1+4*v+z) []=Pp 1 1 v z:=by
  have hg:=PA_get hK
  rw [show (16*1+8*1+4*v+z)/16=1 by omega,show (16*1+8*1+4*v+z)/8 % 2=1 by omega,show (16*1+8*1+4*v+z)/4 % 2=v by omega,show (16*1+8*1+4*v+z) % 4=z by omega] at hg
  rw [List.getD_eq_getElem?_getD,hg];rfl
 generalize hKd:16*1+8*1+4*v+z=K at hb hK hgt
 have cneg:decide (((K:Nat):Int)<0)=false:=dFf (by omega)
 have c0:decide ((0:Int)<=((K:Nat):Int))=true:=dTt (by omega)
 have c1:decide (((K:Nat):Int)<((PA.length:Nat):Int))=true:=dTt (by rw [PA_len];omega)
 have hP:Pp 1 1 v z=87::87::87::44::32::57::57::(Mm++(Ss v++([32]++zx z::zr z))):=rfl
 have hPl:6<(Pp 1 1 v z).length:=by rw [hP];unfold Mm;simp
 have c2:decide ((0:Int)<(((Pp 1 1 v z).length:Nat):Int))=true:=dTt (by omega)
 have c3:decide ((6:Int)<(((Pp 1 1 v z).length:Nat):Int))=true:=dTt (by omega)
 have c3':decide ((0:Int)<=(6:Int))=true:=by decide
 have g0:decide ((Pp 1 1 v z).getD 0 0=87)=true:=by rw [hP];rfl
 have g1:decide ((Pp 1 1 v z).getD 6 0=57)=true:=by rw [hP];rfl
 have tn:Int.toNat (6:Int)=6:=rfl
 obtain ⟨_,_,kw,hkw,hk'⟩:isdig (peek l 0)=false/\5<=l.length/\∃ k:Nat,hit weeks 3 (peek l 0++peek l 1++peek l 2)=some k/\(parseP l).k=k:=S.k.resolve_left (λhx=>absurd (I.pw.2 hx.1) (by decide))
 have e27w:F101 ((l,0,weeks,()),())=some ((kw:Int),()):=F101_eq' (a:=0) hg hl weeks_3 (by omega) hkw
 have e29d:F103 ((l,5,2,()),())=some (dv l 2 0 5,()):=F103_eq' (a:=5) (n:=2) hl (by omega) (by omega) hd
 have e27:F101 ((l,8,months,()),())=some ((km:Int),()):=Rm.1
 have ey:F103 ((l,12,4,()),())=some (dv l 4 0 12,()):=R.year.1
 have eh:F103 ((l,17,2,()),())=some (dv l 2 0 17,()):=R.hour.1
 have emi:F103 ((l,20,2,()),())=some (dv l 2 0 20,()):=R.min.1
 have hsg:List.getD l 22 []=peek l 22:=rfl
 have tn2:Int.toNat (22:Int)=22:=rfl
 have c4':decide ((0:Int)<=(22:Int))=true:=by decide
 rw [S.y,hvm,S.d,S.s,S.z] at e31
 rw [S.y,hvm,S.d] at e33
 have hq5:5<=(hq true l (7+10)).length:=by unfold hq;split <;> simp
 have c4:decide ((22:Int)<((l.length:Nat):Int))=true:=dTt (by omega)
 rw [hk']
 by_cases hs:peek l 22=[58]
 ·have hqe:hq true l (7+10)=[50,51,58,53,57,58,53,57]:=by unfold hq;rw [if_neg (λhx=>hx.2 hs)]
  have Rs:=R.sec (λhx=>hx.2 hs)
  have Rz:=R.zone
  rw [hqe] at Rz e31
  have cs:decide (peek l 22=[58])=true:=dTt hs
  have es:F103 ((l,23,2,()),())=some (dv l 2 0 23,()):=Rs.1
  have e32:F106 ((l,26,()),())=some (zv l 26,()):=zone_eq (a:=26) hl Rz
  have hsv:sv true l (7+10)=w64 (w64 (w64 (3600*dv l 2 0 17)+w64 (60*dv l 2 0 20))+dv l 2 0 23):=by
   unfold sv;rw [if_neg (λhx=>hx.2 hs)];exact (sv_w R.hour.2 R.min.2 Rs.2).symm
  rw [hsv] at e31
  have hz':zv l (7+11+([50,51,58,53,57,58,53,57]:List UInt8).length)=zv l 26:=rfl
  rw [hz'] at e31
  have ck:decide ((0:Int)<=(kw:Int))=true:=dTt (by omega)
  by_cases he:e=0
  ·have ce:=dTt he
   by_cases hw:wk=(kw:Int)
   ·have cw:=dTt hw
    rw [if_neg (λhx=>hx.2.2 hw)]
    simp only [F61,h.ref,oBs,F98_eq,e25,hb,cneg,cFf,cTt,c0,c1,bAs,nCt,hgt,c2,g0,f28,e27w,Int.reduceAdd,wn6,c3,c3',tn,g1,e29d,f30,wn7,wn8,wn12,wn17,wn20,wn22,wn23,wn25,wn26,e27,ey,eh,emi,c4,c4',tn2,hsg,Rm.2,cs,es,e32,e31,agr_self,ce,ck,e33,e34,cw,Bool.not_true]
   ·have cw:=dFf hw
    rw [if_pos ⟨he,by omega,hw⟩]
    simp only [F61,h.ref,oBs,F98_eq,e25,hb,cneg,cFf,cTt,c0,c1,bAs,nCt,hgt,c2,g0,f28,e27w,Int.reduceAdd,wn6,c3,c3',tn,g1,e29d,f30,wn7,wn8,wn12,wn17,wn20,wn22,wn23,wn25,wn26,e27,ey,eh,emi,c4,c4',tn2,hsg,Rm.2,cs,es,e32,e31,agr_self,ce,ck,e33,e34,cw,Bool.not_false]
  ·have ce:=dFf he
   rw [if_neg (λhx=>he hx.1)]
   simp only [F61,h.ref,oBs,F98_eq,e25,hb,cneg,cFf,cTt,c0,c1,bAs,nCt,hgt,c2,g0,f28,e27w,Int.reduceAdd,wn6,c3,c3',tn,g1,e29d,f30,wn7,wn8,wn12,wn17,wn20,wn22,wn23,wn25,wn26,e27,ey,eh,emi,c4,c4',tn2,hsg,Rm.2,cs,es,e32,e31,agr_self,ce,ck,Bool.false_and]
 ·have hqe:hq true l (7+10)=[50,51,58,53,57]:=by unfold hq;rw [if_pos ⟨rfl,hs⟩]
  have Rz:=R.zone
  rw [hqe] at Rz e31
  have cs:decide (peek l 22=[58])=false:=dFf hs
  have e32:F106 ((l,23,()),())=some (zv l 23,()):=zone_eq (a:=23) hl Rz
  have hsv:sv true l (7+10)=w64 (w64 (3600*dv l 2 0 17)+w64 (60*dv l 2 0 20)):=by
   unfold sv;rw [if_pos ⟨rfl,hs⟩,Int.add_zero];exact (sv_w0 R.hour.2 R.min.2).symm
  rw [hsv] at e31
  have hz':zv l (7+11+([50,51,58,53,57]:List UInt8).length)=zv l 23:=rfl
  rw [hz'] at e31
  have ck:decide ((0:Int)<=(kw:Int))=true:=dTt (by omega)
  by_cases he:e=0
  ·have ce:=dTt he
   by_cases hw:wk=(kw:Int)
   ·have cw:=dTt hw
    rw [if_neg (λhx=>hx.2.2 hw)]
    simp only [F61,h.ref,oBs,F98_eq,e25,hb,cneg,cFf,cTt,c0,c1,bAs,nCt,hgt,c2,g0,f28,e27w,Int.reduceAdd,wn6,c3,c3',tn,g1,e29d,f30,wn7,wn8,wn12,wn17,wn20,wn22,wn23,e27,ey,eh,emi,c4,c4',tn2,hsg,Rm.2,cs,e32,e31,agr_self,ce,ck,e33,e34,cw,Bool.not_true]
   ·have cw:=dFf hw
    rw [if_pos ⟨he,by omega,hw⟩]
    simp only [F61,h.ref,oBs,F98_eq,e25,hb,cneg,cFf,cTt,c0,c1,bAs,nCt,hgt,c2,g0,f28,e27w,Int.reduceAdd,wn6,c3,c3',tn,g1,e29d,f30,wn7,wn8,wn12,wn17,wn20,wn22,wn23,e27,ey,eh,emi,c4,c4',tn2,hsg,Rm.2,cs,e32,e31,agr_self,ce,ck,e33,e34,cw,Bool.not_false]
  ·have ce:=dFf he
   rw [if_neg (λhx=>he hx.1)]
   simp only [F61,h.ref,oBs,F98_eq,e25,hb,cneg,cFf,cTt,c0,c1,bAs,nCt,hgt,c2,g0,f28,e27w,Int.reduceAdd,wn6,c3,c3',tn,g1,e29d,f30,wn7,wn8,wn12,wn17,wn20,wn22,wn23,e27,ey,eh,emi,c4,c4',tn2,hsg,Rm.2,cs,e32,e31,agr_self,ce,ck,Bool.false_and]
theorem parse_law {s:List UInt8} {l:Ls} (h:Lt s l):∃ r,F137 ((s,()),())=some r/\F61 ((s,()),())=some r:=by
 have hl:=h.len
 have hg:=h.good
 obtain ⟨w,d,v,z,I⟩:=ix l
 have hb:=bst_parse I
 obtain ⟨hp,hS⟩:=parse_sim (l:=l) hg
 rw [F4_run h,hp]
 rcases end_cases (l:=l) (pq l) with ⟨hf,hz,hlast⟩ | ⟨hf,hc⟩
 ·rw [if_pos hf] at hb
  have S:=hS (full_true hf).1
  have e0:=I.pwq
  have e1:=I.pdq
  rw [e0,e1] at S
  obtain ⟨t,u,e,n,b,wk,e31,e33,e34,x,e22⟩:=fin_eq l (parseP l).y (parseP l).m (parseP l).d (parseP l).s (parseP l).z (parseP l).k
  have e5:F61 ((s,()),())=some ((if e=0/\0<=(parseP l).k/\wk≠(parseP l).k then ((0,0,()),0,2,()) else ((t,u,()),0,e,())),()):=by
   have hw:w=0\/w=1:=by have:=I.w2;omega
   have hd:d=0\/d=1:=by have:=I.d2;omega
   rcases hw with rfl | rfl <;> rcases hd with rfl | rfl
   ·exact full_00 h I hf hb S e31 e33 e34
   ·exact full_01 h I hf hb S e31 e33 e34
   ·exact full_10 h I hf hb S e31 e33 e34
   ·exact full_11 h I hf hb S e31 e33 e34
  rw [e5,hz,hlast,e22]
  split
  ·exact ⟨_,rfl,rfl⟩
  ·exact ⟨_,rfl,rfl⟩
 ·rw [if_neg (by rw [hf];simp)] at hb
  have cneg:decide ((-1:Int)<0)=true:=by decide
  have e25:=F99_eq' hg hl (all:=PA) (by decide) PA_ok
  have e5:F61 ((s,()),())=some (((0,0,()),((mt l (pq l) 0).1:Int),(if (mt l (pq l) 0).1=l.length then 3 else 4),()),()):=by
   simp only [F61,h.ref,oBs,F98_eq,e25,hb,cneg,cTt,F100_eq']
  obtain ⟨x,hx⟩:=stop_law hf hc (parseP l).y (parseP l).m (parseP l).d (parseP l).s (parseP l).z (parseP l).k
  rw [e5,hx]
  exact ⟨_,rfl,rfl⟩
end
end Go.Qd
