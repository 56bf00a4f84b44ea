/- Texts of this claim, one behind the other. -/
import Derived.Test.YtboeddfdbpjnjaaGreatM9
import Derived.Test.YtboeddfdbpjnjaaGreatM11
import Derived.Test.YtboeddfdbpjnjaaGreatM13
import Derived.Test.YtboeddfdbpjnjaaGreatM14
import Derived.Laws.FloatBits
set_option linter.unusedSimpArgs false
set_option linter.unusedVariables false
namespace Go.Pw
open Go Go.Proofs
def C64:Nat:=FloatKind.f64.nearest 64
def C40:Nat:=4787326403894837248
def me:Nat:=9218868437227405311
theorem bR:dat C64 = .number false 4503599627370496 (-46):=by decide +kernel
theorem VP:dat C40 = .number false 4503599627370496 (-12):=by decide +kernel
theorem gC:dat me = .number false 9007199254740991 971:=by decide +kernel
theorem lr:dat 0 = .number false 0 (-1074):=by decide +kernel
def HE (b:Nat):Nat:=(Ieee.double.mul b C64).getD 0
def B8 (b:Nat):Int×Int:=
 if (dat b).isNaN then (0,50)else if (dat b).isInfinity then (0,51)else if Gr b 0==some .lt then (0,52)else if Gr (HE b) C40==some .gt then (0,54)
 else if Gr (HE b) (Hf (HE b)) != some .eq then (0,53)else (((dat (HE b)).toInt .zero).getD 0,0)
theorem Rv {a b:Int}:compare a b = .gt↔b<a:=by
 simp only[compare,compareOfLessAndEq]
 split
 ·simp;omega
 ·split
  ·simp;omega
  ·simp;omega
theorem bW {a b:Int}:compare a b = .lt↔a<b:=by
 simp only[compare,compareOfLessAndEq]
 split
 ·simp;omega
 ·split
  ·simp;omega
  ·simp;omega
theorem FG (x y:Nat):Gr x y=(dat x).order (dat y):=rfl
theorem QO (b:Nat):Gr b b=if (dat b).isNaN then none else some .eq:=by
 rw[FG];cases h:dat b with
 | nan s t=>rfl
 | infinity s=>cases s <;> rfl
 | number s m i=>
  simp only[Ieee.Datum.order,Ieee.Datum.isNaN];simp[compare,compareOfLessAndEq]
theorem LZ {r:Nat} (g:r<9223372036854775808):dat r=if r<4503599627370496 then .number false r (-1074)else if r<9218868437227405312 then .number false (4503599627370496+r%4503599627370496) (-1074+(r/4503599627370496-1:Nat))else if r=9218868437227405312 then .infinity false else .nan false (r-9218868437227405312):=by
 have b:r/9223372036854775808%2=0:=by omega
 have a:r%9223372036854775808=r:=by omega
 have f:Ieee.double.signWeight=9223372036854775808:=by decide +kernel
 have e:Ieee.double.binade=4503599627370496:=by decide +kernel
 have d:Ieee.double.infRung=9218868437227405312:=by decide +kernel
 have c:Ieee.double.leastPlace = -1074:=by decide +kernel
 show Ieee.Format.read Ieee.double r=_;unfold Ieee.Format.read;simp only[f,e,d,c,b,a];simp
theorem Ru {r:Nat} (g:r<9223372036854775808):dat (9223372036854775808+r)=if r<4503599627370496 then .number true r (-1074)else if r<9218868437227405312 then .number true (4503599627370496+r%4503599627370496) (-1074+(r/4503599627370496-1:Nat))else if r=9218868437227405312 then .infinity true else .nan true (r-9218868437227405312):=by
 have b:(9223372036854775808+r)/9223372036854775808%2=1:=by omega
 have a:(9223372036854775808+r)%9223372036854775808=r:=by omega
 have f:Ieee.double.signWeight=9223372036854775808:=by decide +kernel
 have e:Ieee.double.binade=4503599627370496:=by decide +kernel
 have d:Ieee.double.infRung=9218868437227405312:=by decide +kernel
 have c:Ieee.double.leastPlace = -1074:=by decide +kernel
 show Ieee.Format.read Ieee.double _=_;unfold Ieee.Format.read;simp only[f,e,d,c,b,a];simp
theorem Q1 {b:Nat} (a:b<18446744073709551616):b<9223372036854775808\/∃r,r<9223372036854775808/\b=9223372036854775808+r:=by
 rcases Nat.lt_or_ge b 9223372036854775808 with h | h
 ·exact .inl h
 ·exact .inr ⟨b-9223372036854775808,by omega,by omega⟩
theorem jY {r:Nat} (e:r<9223372036854775808) (a:(dat r).isNaN=false):(Gr r me==some .gt)=(dat r).isInfinity:=by
 rw[FG,gC];rw[LZ e]at a ⊢
 have le:∀(m:Nat) (i:Int),m<=9007199254740991->i<=971->((Ieee.Datum.number false m i).order (.number false 9007199254740991 971)==some .gt)=false:=λm i g hi=>by
  simp only[Ieee.Datum.order,Ieee.signed];have f:min i 971=i:=by omega
  rw[f]
  have c:¬(compare (((m <<< (i-i).toNat:Nat)):Int) ((9007199254740991 <<< (971-i).toNat:Nat):Int) = .gt):=by
   rw[Rv,Nat.shiftLeft_eq,Nat.shiftLeft_eq];have:(i-i).toNat=0:=by omega
   rw[this];have b:1<=2^(971-i).toNat:=Nat.one_le_two_pow;have d:9007199254740991*1<=9007199254740991*2^(971-i).toNat:=Nat.mul_le_mul_left _ b;omega
  simp only[Ba,if_false]
  simpa using c
 split
 ·rw[le _ _ (by omega) (by omega)];rfl
 ·split
  ·rw[le _ _ (by omega) (by omega)];rfl
  ·split
   ·rfl
   ·rename_i c b d
    rw[if_neg c,if_neg b,if_neg d]at a;cases a
theorem RU (s:Bool) (m:Nat) (i:Int):∃r,r<=9218868437227405312/\(m=0->r=0)/\Ieee.double.nearest s m i=if s then 9223372036854775808+r else r:=by
 have b:Ieee.double.signWeight=9223372036854775808:=by decide +kernel
 have c:Ieee.double.infRung=9218868437227405312:=by decide +kernel
 unfold Ieee.Format.nearest
 by_cases a:m=0
 ·rw[if_pos a]
  refine⟨0,by omega,λ_=>rfl,?_⟩;unfold Ieee.Format.word;rw[b]
 ·rw[if_neg a]
  simp only
  have key:∀x:Nat,∃r,r<=9218868437227405312/\(m=0->r=0)/\Ieee.double.word s (min x Ieee.double.infRung)=if s then 9223372036854775808+r else r:=λx=>
   ⟨min x Ieee.double.infRung,by rw[c];exact Nat.min_le_right _ _,λh=>absurd h a,by unfold Ieee.Format.word;rw[b]⟩
  exact key _
theorem bQ {s:Bool} {r:Nat} (a:r<=9218868437227405312):(∃m i,dat (if s then 9223372036854775808+r else r) = .number s m i/\(r=0->m=0))\/dat (if s then 9223372036854775808+r else r) = .infinity s:=by
 cases s with
 | true=>
  simp only[if_true];rw[Ru (by omega)]
  split
  ·exact .inl ⟨_,_,rfl,id⟩
  ·split
   ·exact .inl ⟨_,_,rfl,by omega⟩
   ·exact .inr (by rw[if_pos (by omega)])
 | false=>
  simp only[Ba,if_false];rw[LZ (by omega)]
  split
  ·exact .inl ⟨_,_,rfl,id⟩
  ·split
   ·exact .inl ⟨_,_,rfl,by omega⟩
   ·exact .inr (by rw[if_pos (by omega)])
theorem T8 {b:Nat} {s:Bool} {m:Nat} {i:Int} (d:dat b = .number s m i):∃r,r<=9218868437227405312/\(m=0->r=0)/\Ieee.double.mul b C64=some (if s then 9223372036854775808+r else r)/\HE b=if s then 9223372036854775808+r else r:=by
 have e:Ieee.double.mul b C64=some (Ieee.double.nearest s (m*4503599627370496) (i + -46)):=by
  show ((dat b).product (dat C64)).map Ieee.double.write=_;rw[d,bR];show some (Ieee.double.nearest (s ^^ false) _ _)=_;simp
 obtain⟨r,g,f,a⟩:=RU s (m*4503599627370496) (i + -46);refine⟨r,g,λc=>f (by rw[c,Nat.zero_mul]),by rw[e,a],?_⟩;unfold HE;rw[e,a];rfl
theorem nG {m:Nat} {i:Int} (a:((Ieee.Datum.number false m i).order (.number false 4503599627370496 (-12))==some .gt)=false) :
  ∃n:Int,(Ieee.Datum.number false m i).toInt .zero=some n/\0<=n/\n<=1099511627776:=by
 refine⟨((Ieee.Toward.zero.cut false (m <<< i.toNat) (-i).toNat:Nat):Int),?_,Int.natCast_nonneg _,?_⟩
 ·show some (Ieee.signed false _ 0)=_
  unfold Ieee.signed;simp
 simp only[Ieee.Datum.order,Ieee.signed,Ba,if_false]at a
 have k:¬(compare (((m <<< (i-min i (-12)).toNat:Nat)):Int) ((4503599627370496 <<< (-12-min i (-12)).toNat:Nat):Int) = .gt):=by
  intro h;rw[h]at a;cases a
 rw[Rv,Nat.shiftLeft_eq,Nat.shiftLeft_eq]at k;have b:m*2^(i-min i (-12)).toNat<=4503599627370496*2^(-12-min i (-12)).toNat:=by omega
 -- m*2^u is at most 2^40*2^d
 have j:m*2^i.toNat<=1099511627776*2^(-i).toNat:=by
  rcases Int.lt_or_le i (-12)with c | c
  ·rw[show (i-min i (-12)).toNat=0 by omega]at b
   have f:i.toNat=0:=by omega
   have e:(-i).toNat=(-12-min i (-12)).toNat+12:=by omega
   rw[f,e,Nat.pow_add];have:(2:Nat)^12=4096:=rfl;omega
  ·have f:(-12-min i (-12)).toNat=0:=by omega
   rw[f]at b;have e:(i-min i (-12)).toNat=(i+12).toNat:=by omega
   rw[e]at b;have p:i.toNat+12=(i+12).toNat+(-i).toNat:=by omega
   have o:m*2^(i.toNat+12)=m*2^(i+12).toNat*2^(-i).toNat:=by rw[p,Nat.pow_add,Nat.mul_assoc]
   have l:m*2^(i+12).toNat*2^(-i).toNat<=4503599627370496*2^(-i).toNat:=Nat.mul_le_mul_right _ (by omega);rw[<-o,Nat.pow_add,<-Nat.mul_assoc]at l;have:(2:Nat)^12=4096:=rfl;omega
 unfold Ieee.Toward.cut;simp only[Nat.one_shiftLeft,Bool.toNat_false,Nat.add_zero];rw[Nat.shiftLeft_eq];generalize q:m*2^i.toNat=M at *
 rcases Nat.le_total (-i).toNat (M.log2+2)with c | c
 ·rw[Nat.min_eq_left c]
  have:M/2^(-i).toNat<=1099511627776:=Nat.div_le_of_le_mul (by rw[Nat.mul_comm];exact j);omega
 ·rw[Nat.min_eq_right c]
  have g:M<2^(M.log2+2):=by
   have:=Nat.lt_log2_self (n:=M);rw[Nat.pow_succ];have r:2^(M.log2+1)>=0:=Nat.zero_le _;omega
  rw[Nat.div_eq_of_lt g];omega
theorem M7 {b:Nat} {s:Bool} {m:Nat} {i:Int} (g:dat b = .number s m i) (h0:(Gr b 0==some .lt)=false) (a:(Gr (HE b) C40==some .gt)=false) :
  ∃n:Int,(dat (HE b)).toInt .zero=some n/\0<=n/\n<=1099511627776:=by
 obtain⟨r,j,k,_,e⟩:=T8 g;rw[FG,VP]at a;rw[e]at a ⊢;cases s with
 | true=>
  have d:m=0:=by
   rw[FG,g,lr]at h0;simp only[Ieee.Datum.order,Ieee.signed]at h0
   rcases Nat.eq_zero_or_pos m with h | h
   ·exact h
   ·exfalso
    have:compare (-(m <<< (i-min i (-1074)).toNat:Nat):Int) ((0 <<< (-1074-min i (-1074)).toNat:Nat):Int) = .lt:=by
     rw[bW,Nat.shiftLeft_eq,Nat.shiftLeft_eq,Nat.zero_mul];have:0<m*2^(i-min i (-1074)).toNat:=Nat.mul_pos h (Nat.two_pow_pos _);omega
    simp only[if_true,Ba,if_false]at h0;rw[this]at h0;cases h0
  have c:=k d;subst c;refine⟨0,by decide +kernel,by omega,by omega⟩
 | false=>
  rcases bQ (s:=false) j with⟨l,o,f,_⟩ | f
  ·rw[f]at a ⊢
   exact nG a
  ·rw[f]at a
   cases a
section
variable {P:Program} {K:Value->Prop}
theorem US (t:TypeId) {n:Nat} (a:n<18446744073709551616):A6 P .andNot t (.int .u64 n) (.int .u64 9223372036854775808) K↔K (.int .u64 (n%9223372036854775808:Nat)):=by
 have key:(BitVec.ofInt 64 (n:Int) &&& ~~~ BitVec.ofInt 64 9223372036854775808).toNat=n%9223372036854775808:=by
  rw[BitVec.toNat_and,BitVec.toNat_not,Ey (by omega) (by omega),Ey (by omega) (by omega)];show n &&& 9223372036854775807=_;exact Nat.and_two_pow_sub_one_eq_mod n 63
 refine Bi λ_ _=>?_;show some (Value.int .u64 (IntKind.u64.wrap ((BitVec.ofInt 64 (n:Int) &&& ~~~ BitVec.ofInt 64 9223372036854775808).toNat)))=_;rw[key,F9 (by omega) (by omega)]
end
theorem gD {b:Nat} (a:b<18446744073709551616):(dat (b%9223372036854775808)).isNaN=(dat b).isNaN/\(dat (b%9223372036854775808)).isInfinity=(dat b).isInfinity:=by
 rcases Q1 a with h | ⟨r,hr,rfl⟩
 ·rw[Nat.mod_eq_of_lt h];exact⟨rfl,rfl⟩
 ·rw[show (9223372036854775808+r)%9223372036854775808=r by omega,LZ hr,Ru hr]
  repeat' split
  all_goals exact⟨rfl,rfl⟩
section
variable {h:PH} {R:RT} {b:Nat}
theorem pC (a:b<18446744073709551616) (c:R (.ret (.float .f64 (b%9223372036854775808))) h):A7 Tryz.prog 177 #[.float .f64 b] h R:=by
 refine gh ?_;unfold jv;refine bH ?_;rw[US _ a];refine Vc ?_;rw[BR];exact c
theorem aL (a:b<18446744073709551616) (d:(dat b).isNaN=false) (e:R (.ret (.bool (dat b).isInfinity)) h):A7 Tryz.prog 150 #[.float .f64 b,.int .i64 0] h R:=by
 refine iJ ?_;unfold kV fI ivW pnW;simp only[BC,B6,AB];refine nT ?_;refine pC a ?_;simp only[AK.elim];rw[JR];have c:=gD a;have:=jY (r:=b%9223372036854775808) (Nat.mod_lt _ (by omega)) (by rw[c.1];exact d);rw[show (9218868437227405311:Nat)=me from rfl,this,c.2];exact e
theorem Yw (a:(dat b).isNaN=false) (c:R (.ret (.float .f64 (Hf b))) h):A7 Tryz.prog 151 #[.float .f64 b] h R:=by
 refine iI ?_;unfold kU pnW;rw[AB];refine nT ?_;exact XG a c
theorem Sa (E:b<18446744073709551616) (d:R (.ret (.tuple #[.int .i64 (B8 b).1,.int .i64 (B8 b).2])) h):A7 Tryz.prog 106 #[.float .f64 b,.int .i64 6] h R:=by
 refine jB ?_;unfold lR N8 gAW gGW ivW pnW;simp;rw[SV (by omega) (by omega) (by omega) (by omega)];refine⟨_,_,rfl,?_⟩;have w:FloatKind.f64.nearest ((1:Int)*2^(6:Int).toNat)=C64:=rfl;rw[w];unfold B8 at d
 -- what comes of a product x
 have l:∀x,((dat b).isNaN=false->(dat b).isInfinity=false->x=HE b)->(A6 Tryz.prog .neq 23 (.float .f64 b) (.float .f64 b) λt21=>
   dIf t21 (R (.ret (.tuple #[(.int .i64 0),(.int .i64 50)])) h)
   (AA Tryz.prog 150 #[.float .f64 b,(.int .i64 0)] h (λt24 k=>
   dIf t24 (R (.ret (.tuple #[(.int .i64 0),(.int .i64 51)])) k)
   (A6 Tryz.prog .lss 23 (.float .f64 b) (.float .f64 0) λt27=>
   dIf t27 (R (.ret (.tuple #[(.int .i64 0),(.int .i64 52)])) k)
   (A6 Tryz.prog .gtr 23 (.float .f64 x) (.float .f64 4787326403894837248) λt30=>
   dIf t30 (R (.ret (.tuple #[(.int .i64 0),(.int .i64 54)])) k)
   (AA Tryz.prog 151 #[.float .f64 x] k (λt34 o=>
   A6 Tryz.prog .neq 23 (.float .f64 x) t34 λt35=>
   dIf t35 (R (.ret (.tuple #[(.int .i64 0),(.int .i64 53)])) o)
   (NJ .i64 (.float .f64 x) λt37=>
   R (.ret (.tuple #[t37,(.int .i64 0)])) o))
   (λc h=>R (.pan c) h)))))
   (λc h=>R (.pan c) h))):=by
  intro x A;rw[JQ,QO];cases f:(dat b).isNaN with
  | true=>
   rw[f]at d;simp only[if_true]at d ⊢;rw[AB];exact⟨λ_=>d,λe=>absurd e (by simp)⟩
  | false=>
   rw[f]at d;simp only[Ba,if_false]at d ⊢;rw[AB];refine nF ?_;refine aL E f ?_;simp only[AK.elim,AB];cases hi:(dat b).isInfinity with
   | true=>
    rw[hi]at d;simp only[if_true]at d;exact⟨λ_=>d,λe=>absurd e (by simp)⟩
   | false=>
    rw[hi]at d;simp only[Ba,if_false]at d;refine nF ?_;rw[A f hi,Pz,AB];cases h0:(Gr b 0==some .lt)with
    | true=>
     rw[h0]at d;exact⟨λ_=>d,λe=>absurd e (by simp)⟩
    | false=>
     rw[h0]at d;simp only[Ba,if_false]at d;refine nF ?_;rw[JR,AB,show (4787326403894837248:Nat)=C40 from rfl];cases v:(Gr (HE b) C40==some .gt)with
     | true=>
      rw[v]at d;exact⟨λ_=>d,λe=>absurd e (by simp)⟩
     | false=>
      rw[v]at d;simp only[Ba,if_false]at d;refine nF ?_
      obtain⟨s,m,i,j⟩:∃s m i,dat b = .number s m i:=by
       cases j:dat b with
       | nan s t=>rw[j]at f;cases f
       | infinity s=>rw[j]at hi;cases hi
       | number s m i=>exact⟨s,m,i,rfl⟩
      obtain⟨n,g,C,B⟩:=M7 j h0 v
      have u:(dat (HE b)).isNaN=false:=by
       cases D:dat (HE b)with
       | nan s t=>rw[D]at g;cases g
       | infinity s=>rfl
       | number s m i=>rfl
      refine Yw u ?_;simp only[AK.elim];rw[JQ,AB];cases z:(Gr (HE b) (Hf (HE b)) != some .eq)with
      | true=>
       rw[z]at d;exact⟨λ_=>d,λe=>absurd e (by simp)⟩
      | false=>
       rw[z]at d;simp only[Ba,if_false]at d;refine nF ?_;rw[g]at d;refine⟨_,_,n,rfl,g,?_,?_,d⟩
       ·show (-9223372036854775808:Int)<=n
        omega
       ·show n<=(9223372036854775807:Int)
        omega
 refine⟨_,_,_,_,rfl,rfl,rfl,λr p=>?_,λp r=>?_⟩
 ·refine l r λf hi=>?_
  have:Ieee.double.mul b C64=some r:=p;unfold HE;rw[this];rfl
 ·refine l _ λf hi=>?_
  exfalso
  obtain⟨s,m,i,j⟩:∃s m i,dat b = .number s m i:=by
   cases j:dat b with
   | nan s t=>rw[j]at f;cases f
   | infinity s=>rw[j]at hi;cases hi
   | number s m i=>exact⟨s,m,i,rfl⟩
  obtain⟨q,_,_,y,_⟩:=T8 j;have:Ieee.double.mul b C64=none:=p;rw[this]at y;cases y
end
theorem Q4 {b:Nat} (h:(B8 b).2=0):0<=(B8 b).1/\(B8 b).1<=1099511627776:=by
 unfold B8 at h ⊢
 by_cases d:(dat b).isNaN=true
 ·rw[if_pos d]at h;cases h
 rw[if_neg d]at h ⊢
 by_cases c:(dat b).isInfinity=true
 ·rw[if_pos c]at h;cases h
 rw[if_neg c]at h ⊢
 by_cases f:(Gr b 0==some .lt)=true
 ·rw[if_pos f]at h;cases h
 rw[if_neg f]at h ⊢
 by_cases e:(Gr (HE b) C40==some .gt)=true
 ·rw[if_pos e]at h;cases h
 rw[if_neg e]at h ⊢
 by_cases g:(Gr (HE b) (Hf (HE b)) != some .eq)=true
 ·rw[if_pos g]at h;cases h
 rw[if_neg g]
 obtain⟨s,m,i,a⟩:∃s m i,dat b = .number s m i:=by
  cases a:dat b with
  | nan s t=>rw[a]at d;exact absurd rfl d
  | infinity s=>rw[a]at c;exact absurd rfl c
  | number s m i=>exact⟨s,m,i,rfl⟩
 obtain⟨n,l,k,j⟩:=M7 a (by simpa using f) (by simpa using e);rw[l];exact⟨k,j⟩
theorem Nq (b:Nat):(B8 b).2=0\/(B8 b).2=50\/(B8 b).2=51\/(B8 b).2=52\/(B8 b).2=53\/(B8 b).2=54:=by
 unfold B8
 repeat' split
 all_goals simp
structure OpV where
 kind:Int
 good:Int
 am:Int
 side:Int
 id:Int
 price:Nat
def OpV.a (o:OpV):Array Value:=#[.int .i64 o.kind,.int .i64 o.good,.int .i64 o.am,.int .i64 o.side,.int .i64 o.id,.float .f64 o.price]
abbrev OpV.v (o:OpV):Value:=.agg o.a
def OpV.nums (o:OpV):List Int:=[o.kind,o.good,o.am,o.side,o.id]
def le8 (x:Nat):Nat->List UInt8
 | 0=>[]
 | k+1=>UInt8.ofNat (x%256)::le8 (x/256) k
def opB (o:OpV):ByteArray:=if ∃n∈o.nums,n<0\/9007199254740992<n then ⟨#[]⟩else ⟨(C9 o.nums++le8 o.price 8).toArray⟩
def opE (o:OpV):Int:=if ∃n∈o.nums,n<0\/9007199254740992<n then 14 else 0
theorem fx (a b c d e:Value) (k:a.cells=#[a]) (j:b.cells=#[b]) (h:c.cells=#[c]) (g:d.cells=#[d]) (f:e.cells=#[e]) :
  Instr.fill (λi=>some (i*1,1)) (rep #[Value.int .i64 0] (5*1)) [(0,a),(1,b),(2,c),(3,d),(4,e)]=some #[a,b,c,d,e]:=by
 have l:Array.range 5=#[0,1,2,3,4]:=by decide
 simp[Instr.fill,rep,k,j,h,g,f,l]
section
variable {h:PH} {R:RT}
theorem SW {P:Program} {K:Value->Prop} (t:TypeId) (n:Nat):A6 P .rem t (.int .u64 n) (.int .u64 256) K↔K (.int .u64 (n%256:Nat)):=by
 rw[J0 _ _ _ _ (by omega)];rw[show Int.tmod (n:Int) 256=((n%256:Nat):Int)from rfl]
theorem SX {P:Program} {K:Value->Prop} (t:TypeId) {n:Nat} (a:n<18446744073709551616):A6 P .quo t (.int .u64 n) (.int .u64 256) K↔K (.int .u64 (n/256:Nat)):=by
 rw[Fx _ _ _ _ (by omega)];rw[show Int.tdiv (n:Int) 256=((n/256:Nat):Int)from rfl,F9 (by omega) (by omega)]
theorem Xl {o:OpV} (hp:o.price<18446744073709551616) (u:R (.ret (.tuple #[.string (opB o),.int .i64 (opE o)])) h):A7 Tryz.prog 36 #[o.v] h R:=by
 refine A7.drop (oR ?_);unfold qQ eXW ivW pnW;rw[show Value.cells o.v=o.a from rfl];refine Ai λc G hc Z a=>?_;have l0:=λK=>A5 (K:=K) a (show o.a[0]?=some (.int .i64 o.kind)from rfl);have l1:=λK=>A5 (K:=K) a (show o.a[1]?=some (.int .i64 o.good)from rfl);have l2:=λK=>A5 (K:=K) a (show o.a[2]?=some (.int .i64 o.am)from rfl);have l3:=λK=>A5 (K:=K) a (show o.a[3]?=some (.int .i64 o.side)from rfl);have l4:=λK=>A5 (K:=K) a (show o.a[4]?=some (.int .i64 o.id)from rfl);simp only[AH,Ad,l0,l1,l2,l3,l4];refine⟨by omega,_,fx _ _ _ _ _ rfl rfl rfl rfl rfl,λq hq=>?_⟩;have s:ins G q (.cells #[.int .i64 o.kind,.int .i64 o.good,.int .i64 o.am,.int .i64 o.side,.int .i64 o.id] 3) q=some (.cells #[.int .i64 o.kind,.int .i64 o.good,.int .i64 o.am,.int .i64 o.side,.int .i64 o.id] 3 (0,0)):=AD _ _ _;have b:Sub G (ins G q (.cells #[.int .i64 o.kind,.int .i64 o.good,.int .i64 o.am,.int .i64 o.side,.int .i64 o.id] 3)):=AT _ hq;revert s b;generalize ins G q (.cells #[.int .i64 o.kind,.int .i64 o.good,.int .i64 o.am,.int .i64 o.side,.int .i64 o.id] 3)=H;intro s b
 have t:∀(i:Nat) (n:Int),o.nums[i]?=some n->∀K,A0 none (.pointer (some ⟨q,i,none⟩)) H K↔K (.int .i64 n):=λi n f K=>by
  refine A5 s ?_;have:(#[.int .i64 o.kind,.int .i64 o.good,.int .i64 o.am,.int .i64 o.side,.int .i64 o.id]:Array Value)=(o.nums.map iv).toArray:=rfl;rw[this,List.getElem?_toArray,List.getElem?_map,f];rfl
 refine AL (λm v g=>∃i:Nat,v=(.string ⟨#[]⟩,.int .i64 0,.string ⟨(C9 (o.nums.take i)).toArray⟩,.int .i64 i)/\m=5-i/\i<=5/\g=H/\∀n∈o.nums.take i,0<=n/\n<=9007199254740992) 5 ⟨0,rfl,rfl,by omega,rfl,by simp⟩ ?_;rintro m v g ⟨i,rfl,rfl,hi,rfl,hgood⟩
 have Q:(C9 (o.nums.take i)).length<=50:=by
  have:=Ge hgood;rw[List.length_take]at this;omega
 by_cases O:i<5
 ·obtain⟨n,f⟩:∃n,o.nums[i]?=some n:=⟨_,Bu (show i<o.nums.length from O)⟩
  have key:∀(l:V2->V4->PH->Prop) Kp W I,((n<0\/9007199254740992<n)->I (ptr c,.string ⟨#[]⟩,.int .i64 14,.string ⟨(C9 (o.nums.take i)).toArray⟩) g) ->
    (0<=n/\n<=9007199254740992->l (ptr c,.slice (some ⟨q,0,none⟩) 5 5) (.string ⟨#[]⟩,.int .i64 0,.string ⟨(C9 (o.nums.take (i+1))).toArray⟩,.int .i64 ((i:Int)+1)) g) ->
    U8 Kp W I (ptr c,.slice (some ⟨q,0,none⟩) 5 5) l (.string ⟨#[]⟩,.int .i64 0,.string ⟨(C9 (o.nums.take i)).toArray⟩,.int .i64 i) g:=by
   intro l Kp W I hB hG;unfold U8 gAW gGW ivW;have d:(i:Int)<5:=by omega
   by_cases F:n<0
   ·simp[d,t i n f,F]
    exact hB (.inl F)
   ·by_cases V:9007199254740992<n
    ·simp[d,t i n f,F,V]
     exact hB (.inr V)
    ·simp[d,t i n f,F,V]
     refine DH (by omega) (by omega) ?_;simp only[AK.elim];have h10:=Cs (n:=n.toNat) (by omega);rw[Dg _ _ _ (by simp[ByteArray.size];omega)];rw[w64 (by omega) (by omega)]
     have e1:C9 (o.nums.take (i+1))=C9 (o.nums.take i)++Br n.toNat:=by
      rw[List.take_add_one,f];simp[C9]
     have U:(⟨(C9 (o.nums.take i)).toArray⟩:ByteArray)++⟨(Br n.toNat).toArray⟩=⟨(C9 (o.nums.take (i+1))).toArray⟩:=by
      apply ByteArray.ext;rw[ByteArray.data_append,e1];simp
     rw[U];exact hG ⟨by omega,by omega⟩
  refine key _ _ _ _ (λB=>?_) (λhg=>⟨rfl,5-(i+1),by omega,i+1,rfl,rfl,by omega,rfl,λx j=>?_⟩)
  ·intro r w
   simp only[Prod.mk.injEq]at w;obtain⟨Y,E,J,X⟩:=w;rw[E,J];have A:∃n∈o.nums,n<0\/9007199254740992<n:=⟨n,List.mem_of_getElem? f,B⟩;unfold opB opE at u;rw[if_pos A,if_pos A]at u;exact⟨h,Z.trans b,u⟩
  ·rw[List.take_add_one,f]at j
   rcases List.mem_append.1 j with j | j
   ·exact hgood x j
   ·simp at j;rw[j];exact hg
 ·have e:i=5:=by omega
  subst e;unfold U8 gAW gGW ivW;simp only[AC,AB];refine nF ?_;intro r w;simp only[Prod.mk.injEq]at w;obtain⟨Y,E,J,X⟩:=w;simp only[Y,E,J,X,AH,Ad];have N:o.nums.take 5=o.nums:=rfl;rw[N]at hgood Q ⊢;have y:¬∃n∈o.nums,n<0\/9007199254740992<n:=λ⟨n,f,hb⟩=>by have:=hgood n f;omega
  unfold opB opE at u;rw[if_neg y,if_neg y]at u;rw[A5 (b _ _ a) (show o.a[5]?=some (.float .f64 o.price)from rfl)];refine bH ?_
  refine AL (λm v g'=>∃(k x:Nat) (bs:List UInt8) (C:Value),v=(.int .u64 x,C,.int .i64 k)/\m=8-k/\k<=8/\x<18446744073709551616/\bs++le8 x (8-k)=le8 o.price 8/\bs.length=k/\OB 5 1 g bs.length (byteCells bs) g' C) 8
   ⟨0,o.price,[],.slice none 0 0,rfl,rfl,by omega,hp,rfl,rfl,Sub.refl g,rfl,.inl ⟨rfl,rfl,rfl⟩⟩ ?_
  rintro m v g' ⟨k,x,bs,C,rfl,rfl,hk,j,hbs,hbl,ob⟩
  by_cases hkn:k<8
  ·have key:∀(l:Value->V3->PH->Prop) Kp x2,(∀T D,OB 5 1 g (bs ++ [UInt8.ofNat (x%256)]).length (byteCells (bs ++ [UInt8.ofNat (x%256)])) T D->l (.string ⟨(C9 o.nums).toArray⟩) (.int .u64 (x/256:Nat),D,.int .i64 ((k:Int)+1)) T) ->
     PI Kp x2 (.string ⟨(C9 o.nums).toArray⟩) l (.int .u64 x,C,.int .i64 k) g':=by
    intro l Kp x2 z;unfold PI ivW;have d:(k:Int)<8:=by omega
    simp only[AC,d,B6,AB];refine nT ?_;rw[SW,Ct,E2 (n:=x%256) (by omega) rfl];refine RQ ob (by omega) λh3 s3 L=>?_;rw[SX _ j];simp only[AG];rw[w64 (by omega) (by omega)];exact z h3 s3 L
   refine key _ _ _ λT D M=>⟨rfl,8-(k+1),by omega,k+1,x/256,_,D,rfl,rfl,by omega,by omega,?_,by simp[hbl],M⟩;rw[<-hbs,show 8-k=(8-(k+1))+1 by omega,List.append_assoc]
   rfl
  ·have e:k=8:=by omega
   unfold PI ivW;have P:¬(k:Int)<8:=by omega
   simp only[AC,P,BW,AB];refine nF ?_;intro E p;simp only[Prod.mk.injEq]at p;rw[p.1,p.2];refine WM ob ?_;have S:bs=le8 o.price 8:=by rw[<-hbs,e];simp[le8]
   rw[Dg _ _ _ (by simp[ByteArray.size];omega)]
   have U:(⟨(C9 o.nums).toArray⟩:ByteArray)++⟨bs.toArray⟩=⟨(C9 o.nums++le8 o.price 8).toArray⟩:=by
    apply ByteArray.ext;rw[ByteArray.data_append,S];simp
   rw[U];exact⟨h,(Z.trans b).trans ob.sub,u⟩
end
def op0:OpV:={kind:=0,good:=0,am:=0,side:=0,id:=0,price:=0}
def un8:List UInt8->Nat
 | []=>0
 | c::l=>c.toNat+256*un8 l
theorem SY:∀(l:List UInt8) (c:UInt8),un8 (l ++ [c])=un8 l+256^l.length*c.toNat
 | [],c=>by simp[un8]
 | a::l,c=>by
  simp only[List.cons_append,un8,SY l c,List.length_cons];rw[Nat.mul_add,Nat.pow_succ,<-Nat.mul_assoc,Nat.mul_comm (256^l.length) 256];omega
theorem Nl:∀l:List UInt8,un8 l<256^l.length
 | []=>by simp[un8]
 | a::l=>by
  have c:=Nl l;have b:a.toNat<256:=a.toNat_lt;simp only[un8,List.length_cons];rw[Nat.pow_succ];omega
def Cv (s:ByteArray):OpV×Int:=
 if 256<s.size then (op0,4)else
 match Ch s.data.toList 0 with
 | .bad e=>(op0,e)
 | .ok k a1=>match Ch s.data.toList a1 with
  | .bad e=>(op0,e)
  | .ok g a2=>match Ch s.data.toList a2 with
   | .bad e=>(op0,e)
   | .ok m a3=>match Ch s.data.toList a3 with
    | .bad e=>(op0,e)
    | .ok d a4=>match Ch s.data.toList a4 with
     | .bad e=>(op0,e)
     | .ok i a5=>if s.size<a5+8 then (op0,10)else if a5+8<s.size then (op0,12)
      else ({kind:=k,good:=g,am:=m,side:=d,id:=i,price:=un8 (s.extract a5 (a5+8)).data.toList},0)
theorem JY {s:List UInt8}:∀(a i n at_ m next:Nat),rdN s a i n at_ = .ok m next->m<=9007199254740992
 | 0,i,n,at_,m,next,h=>by simp[rdN]at h
 | a+1,i,n,at_,m,next,h=>by
  rw[rdN]at h
  split at h
  ·cases h
  ·split at h
   ·split at h
    ·cases h
    ·exact JY a _ _ _ _ _ h
   ·split at h
    ·cases h
    ·rename_i b
     cases h;omega
theorem Zq (s:ByteArray):0<=(Cv s).1.kind/\(Cv s).1.kind<=9007199254740992/\0<=(Cv s).1.good/\(Cv s).1.good<=9007199254740992/\0<=(Cv s).1.am/\(Cv s).1.am<=9007199254740992 /\
  0<=(Cv s).1.side/\(Cv s).1.side<=9007199254740992/\0<=(Cv s).1.id/\(Cv s).1.id<=9007199254740992/\(Cv s).1.price<18446744073709551616:=by
 have z:0<=op0.kind/\op0.kind<=9007199254740992/\0<=op0.good/\op0.good<=9007199254740992/\0<=op0.am/\op0.am<=9007199254740992/\0<=op0.side/\op0.side<=9007199254740992/\0<=op0.id/\op0.id<=9007199254740992/\op0.price<18446744073709551616:=by
  simp[op0]
 unfold Cv
 split
 ·exact z
 cases h:Ch s.data.toList 0 with
 | bad e=>exact z
 | ok k a1=>
  simp only;cases f:Ch s.data.toList a1 with
  | bad e=>exact z
  | ok g a2=>
   simp only;cases c:Ch s.data.toList a2 with
   | bad e=>exact z
   | ok m a3=>
    simp only;cases b:Ch s.data.toList a3 with
    | bad e=>exact z
    | ok d a4=>
     simp only;cases a:Ch s.data.toList a4 with
     | bad e=>exact z
     | ok i a5=>
      simp only
      split
      ·exact z
      ·split
       ·exact z
       ·have b1:=JY _ _ _ _ _ _ h
        have b2:=JY _ _ _ _ _ _ f;have r:=JY _ _ _ _ _ _ c;have q:=JY _ _ _ _ _ _ b;have p:=JY _ _ _ _ _ _ a;have o:=Nl (s.extract a5 (a5+8)).data.toList
        have j:(s.extract a5 (a5+8)).data.toList.length<=8:=by
         rw[Array.length_toList];show (s.extract a5 (a5+8)).size<=8;rw[ByteArray.size_extract];omega
        have n:256^(s.extract a5 (a5+8)).data.toList.length<=256^8:=Nat.pow_le_pow_right (by omega) j;have l:(256:Nat)^8=18446744073709551616:=rfl;simp only;omega
section
variable {h g:PH} {R:RT} {a b:Nat} {va:Array Value} {vb:Value}
structure S2 (h g:PH) (a b:Nat) (va:Array Value) (vb:Value):Prop where
 sub:Sub h g
 a0:h a=none
 b0:h b=none
 ga:g a=some (.cells va 25 (0,0))
 gb:g b=some (.cells #[vb] 30 (0,0))
 ab:a≠b
 sz:va.size=6
theorem S2.other (s:S2 h g a b va vb) {p:Nat} {o:Obj} (c:h p=none) (e:a≠p) (d:b≠p):S2 h (ins g p o) a b va vb:=
 ⟨Sub.put s.sub c,s.a0,s.b0,by rw[Aq _ _ e];exact s.ga,by rw[Aq _ _ d];exact s.gb,s.ab,s.sz⟩
theorem S2.stA {K:PH->Prop} (s:S2 h g a b va vb) {wa:Array Value} (c:wa.size=6) (d:wa.toList.all Value.oneCell'=true) (e:∀g,S2 h g a b wa vb->K g):A9 6 (.pointer (some ⟨a,0,none⟩)) (.agg wa) g K:=
 AN s.ga s.sz c d (e _ ⟨Sub.put s.sub s.a0,s.a0,s.b0,AD _ _ _,by rw[Aq _ _ s.ab.symm];exact s.gb,s.ab,c⟩)
theorem S2.stB {K:PH->Prop} (s:S2 h g a b va vb) {v:Value} (c:v.oneCell'=true) (d:∀g,S2 h g a b va v->K g):A9 1 (.pointer (some ⟨b,0,none⟩)) v g K:=
 (Aw s.gb (by simp) c).2 (d _ ⟨Sub.put s.sub s.b0,s.a0,s.b0,by rw[Aq _ _ s.ab];exact s.ga,AD _ _ _,s.ab,s.sz⟩)
theorem S2.ldA {K:Value->Prop} (s:S2 h g a b va vb):A0 (some 6) (.pointer (some ⟨a,0,none⟩)) g K↔K (.agg va):=by
 rw[AI s.ga (off:=0) (n:=6) (by rw[s.sz];omega),show va.extract 0 (0+6)=va by have:=s.sz;simp[<-this]]
theorem S2.ldB {K:Value->Prop} (s:S2 h g a b va vb):A0 none (.pointer (some ⟨b,0,none⟩)) g K↔K vb:=A5 s.gb rfl
theorem Wi (s:S2 h g a b va vb) (d:Int) (i:R (.ret (.tuple #[op0.v,.int .i64 d])) h) :
  d32 (ptr a) (ptr b) (ptr a) (ptr b) (λe j=>∃g,Sub g j/\R e g) (.iface 178 (.int .i64 d)) g:=by
 unfold d32;rw[jR];simp only[AB];refine nT ?_;refine⟨_,rfl,?_⟩;refine YN ?_;simp only[AK.elim];refine s.stA (wa:=op0.a) rfl (by rfl) λl f=>f.stB rfl λk c=>?_;rw[c.ldA,c.ldB];exact⟨h,c.sub,i⟩
theorem Te (s:S2 h g a b va vb) (c:R (.ret (.tuple #[.agg va,vb])) h) :
  d32 (ptr a) (ptr b) (ptr a) (ptr b) (λe d=>∃g,Sub g d/\R e g) .nilIface g:=by
 unfold d32;rw[jQ];simp only[AB];refine nF ?_;rw[s.ldA,s.ldB];exact⟨h,s.sub,c⟩
theorem mP {p:Nat} {s:ByteArray} {j:Nat} (e:ja h p s j) (k:s.size<4611686018427387904) (d:¬j<s.size->R (.ret (.tuple #[])) h) (c:j<s.size->R (.pan (Qd 12)) h):A7 Tryz.prog 62 #[ptr p] h R:=by
 refine ny ?_;unfold pz ivW pnW;have q0:(#[Value.string s,.int .i64 j]:Array Value)[0+0]?=some (.string s):=rfl;have q1:(#[Value.string s,.int .i64 j]:Array Value)[0+1]?=some (.int .i64 j):=rfl;simp only[BO,AH,A5 e q0,A5 e q1,Dp,AC,AB,CF,D9];exact⟨λf=>⟨_,_,rfl,c (by omega)⟩,λi=>d (by omega)⟩
theorem XC {P:Program} {K:Value->Prop} {t:TypeId} {c i:Nat} (o:c<256) (hi:i<8):A6 P .shl t (.int .u64 c) (.int .i64 ((8:Int)*i)) K↔K (.int .u64 (c*256^i:Nat)):=by
 refine Bi λ_ _=>?_;have e:min ((8:Int)*i).toNat 64=8*i:=by omega
 have k:¬((8:Int)*(i:Int)<0):=by omega
 have j:(2:Nat)^(8*i)=256^i:=by rw[Nat.pow_mul]
 have d:((c:Int)*2^(8*i))=((c*256^i:Nat):Int):=by
  rw[<-j];simp
 have n:256^i<=256^7:=Nat.pow_le_pow_right (by omega) (by omega);have m:c*256^i<=255*256^7:=Nat.mul_le_mul (by omega) n;have l:(255:Nat)*256^7<18446744073709551616:=by decide
 have f:IntKind.u64.wrap ((c*256^i:Nat):Int)=((c*256^i:Nat):Int):=F9 (by omega) (by omega);simp only[eqGuard,binOp,Op.shift,k,if_false,IntKind.bits,e,d,f]
 rfl
theorem Yp {P:Program} {K:Value->Prop} {t:TypeId} {n M:Nat} (c:n ||| M=n+M) (d:n+M<18446744073709551616):A6 P .or t (.int .u64 n) (.int .u64 M) K↔K (.int .u64 (n+M:Nat)):=by
 have key:(BitVec.ofInt 64 (n:Int) ||| BitVec.ofInt 64 (M:Int)).toNat=n+M:=by
  rw[BitVec.toNat_or,Ey (by omega) (by omega),Ey (by omega) (by omega)];exact c
 refine Bi λ_ _=>?_;show some (Value.int .u64 (IntKind.u64.wrap ((BitVec.ofInt 64 (n:Int) ||| BitVec.ofInt 64 (M:Int)).toNat)))=_;rw[key,F9 (by omega) (by omega)]
end
section
variable {h g:PH} {R:RT} {a b p j:Nat} {va:Array Value} {vb:Value} {s:ByteArray}
structure SR (h g:PH) (a b p:Nat) (s:ByteArray) (j:Nat) (va:Array Value) (vb:Value):Prop where
 s2:S2 h g a b va vb
 hp:ja g p s j
 p0:h p=none
 ap:a≠p
 bp:b≠p
theorem SR.at (r:SR h g a b p s j va vb) (k:Nat):SR h (IE g p s k) a b p s k va vb:=
 ⟨r.s2.other r.p0 r.ap r.bp,AD _ _ _,r.p0,r.ap,r.bp⟩
theorem SR.num {K:Value->PH->Prop} {Kp:KP} (r:SR h g a b p s j va vb) (i:s.size<9223372036854775807)
  (f:∀n next g',Ch s.data.toList j = .ok n next->SR h g' a b p s next va vb->K (.int .i64 n) g') (d:∀e g',Ch s.data.toList j = .bad e->S2 h g' a b va vb->Kp (Qd e) g') :
  AA Tryz.prog 60 #[ptr p] g K Kp:=
 Xc r.hp i (λn next c=>f n next _ c (r.at next)) (λe k c=>d e _ c (r.at k).s2)
theorem SR.stF {K:PH->Prop} (r:SR h g a b p s j va vb) {i:Nat} (hi:i<6) {v:Value} (c:v.oneCell'=true) (d:∀g',SR h g' a b p s j (va.setIfInBounds i v) vb->K g'):A9 1 (.pointer (some ⟨a,i,none⟩)) v g K:=
 (Aw r.s2.ga (by rw[r.s2.sz];exact hi) c).2 (d _ ⟨⟨Sub.put r.s2.sub r.s2.a0,r.s2.a0,r.s2.b0,AD _ _ _,by rw[Aq _ _ r.s2.ab.symm];exact r.s2.gb,r.s2.ab,by simp[r.s2.sz]⟩,by
  show ins _ _ _ _=_;rw[Aq _ _ (λe=>r.ap e.symm)];exact r.hp,r.p0,r.ap,r.bp⟩)
theorem YP {S:ByteArray} (y:S.size=8) {F:V4} {Kp:KP} {q:V4->PH->Prop} (x:F.2.2.2 = .string S) (w:q (F.1,F.2.1,F.2.2.1,.int .u64 (un8 S.data.toList)) g) :
  lf (Qt Kp q) F (.int .u64 0,.int .i64 0) g:=by
 have A:S.data.toList.length=8:=by rw[Array.length_toList];exact y
 refine AL (λm r g'=>∃i:Nat,r=(.int .u64 (un8 (S.data.toList.take i)),.int .i64 i)/\m=8-i/\i<=8/\g'=g) 8 ⟨0,rfl,rfl,by omega,rfl⟩ ?_;rintro m r g' ⟨i,rfl,rfl,hi,rfl⟩;unfold Qt;rw[x];simp only[AC,AB,CF,D9];refine⟨λu=>?_,λv=>?_⟩
 ·have n:i<8:=by omega
  obtain⟨c,t⟩:∃c,S.data.toList[i]?=some c:=⟨_,Bu (by omega)⟩;have o:c.toNat<256:=c.toNat_lt;refine⟨S,_,_,c,rfl,rfl,by omega,by rw[BR,<-Array.getElem?_toList];exact t,?_⟩;simp only[Ct,CG];rw[F9 (by omega) (by omega),w64 (by omega) (by omega),XC o n]
  have l:un8 (S.data.toList.take i)<256^i:=by
   have:=Nl (S.data.toList.take i)
   rwa [List.length_take,Nat.min_eq_left (by omega)]at this
  have k:(256:Nat)^i=2^(8*i):=by rw[Nat.pow_mul]
  have d:un8 (S.data.toList.take (i+1))=un8 (S.data.toList.take i)+c.toNat*256^i:=by
   rw[List.take_add_one,t,Option.toList,SY,List.length_take,Nat.min_eq_left (by omega),Nat.mul_comm]
  have f:un8 (S.data.toList.take (i+1))<18446744073709551616:=by
   have D:=Nl (S.data.toList.take (i+1));have z:(S.data.toList.take (i+1)).length<=8:=by rw[List.length_take];omega
   have C:256^(S.data.toList.take (i+1)).length<=256^8:=Nat.pow_le_pow_right (by omega) z;have B:(256:Nat)^8=18446744073709551616:=rfl;omega
  rw[Yp (by rw[k];exact Zn (by rw[<-k];exact l)) (by rw[<-d];exact f),<-d];simp only[AG];rw[w64 (by omega) (by omega)];exact⟨by trivial,8-(i+1),by omega,i+1,rfl,by trivial,by omega,by trivial⟩
 ·have e:i=8:=by omega
  rw[e,show S.data.toList.take 8=S.data.toList by rw[List.take_of_length_le (by omega)]];exact w
theorem eU (c:R (.ret (.tuple #[(Cv s).1.v,.int .i64 (Cv s).2])) h):A7 Tryz.prog 32 #[.string s] h R:=by
 refine A7.drop (oW ?_);unfold mJ;refine AX λa T=>AX λb hb=>?_;obtain⟨J,I⟩:=JH hb
 have x:S2 h (ins (ins h a (.cells op0.a 25 (0,0))) b (.cells #[.int .i64 0] 30 (0,0))) a b op0.a (.int .i64 0):=
  ⟨Sub.put (Sub.put (Sub.refl h) T) J,T,J,by rw[Aq _ _ I.symm];exact AD _ _ _,AD _ _ _,I.symm,rfl⟩
 have e0:ins (ins h a (.cells #[.int .i64 0,.int .i64 0,.int .i64 0,.int .i64 0,.int .i64 0,.float .f64 0] 25 (0,0))) b (.cells #[.int .i64 0] 30 (0,0))=ins (ins h a (.cells op0.a 25 (0,0))) b (.cells #[.int .i64 0] 30 (0,0)):=rfl;rw[e0];revert x;generalize ins (ins h a (.cells op0.a 25 (0,0))) b (.cells #[.int .i64 0] 30 (0,0))=g;intro x;unfold Cv at c;simp only[Dp,At,AB,CF,D9];refine⟨λl=>?_,λK=>?_⟩
 ·rw[if_pos (by omega)]at c
  refine⟨_,rfl,?_⟩;refine x.stA (wa:=op0.a) rfl (by rfl) λg1 V=>V.stB rfl λg2 L=>?_;rw[L.ldA,L.ldB];exact⟨h,L.sub,c⟩
 rw[if_neg (by omega)]at c;have hz:s.size<4611686018427387000:=by omega
 refine⟨#[.string s,.int .i64 0],rfl,?_⟩;refine AX λp G=>?_;refine AN (AD _ _ _) (by rfl) (by rfl) (by rfl) ?_;rw[An];have D:h p=none:=x.sub.fresh G;have F:a≠p:=λe=>by rw[<-e,x.ga]at G;cases G
 have E:b≠p:=λe=>by rw[<-e,x.gb]at G;cases G
 have O:SR h (ins g p (.cells #[.string s,.int .i64 0] 135 (0,0))) a b p s 0 op0.a (.int .i64 0):=⟨x.other D F E,AD _ _ _,D,F,E⟩;revert O;generalize ins g p (.cells #[.string s,.int .i64 0] 135 (0,0))=g0;intro O;have o:∀e g',S2 h g' a b op0.a (.int .i64 0)->R (.ret (.tuple #[op0.v,.int .i64 e])) h->∃v,Qd e = [{v:=v,recovered:=false}]/\d32 (ptr a) (ptr b) (ptr a) (ptr b) (λe P=>∃g,Sub g P/\R e g) v g':=λe g' f C=>⟨_,rfl,Wi f e C⟩;refine O.num (by omega) (λk a1 g1 e1 r1=>?_) (λe g' u f=>by rw[u]at c;exact o e g' f c);rw[e1]at c;simp only at c;refine r1.num (by omega) (λgd a2 g2 e2 r2=>?_) (λe g' u f=>by rw[u]at c;exact o e g' f c);rw[e2]at c;simp only at c;refine r2.num (by omega) (λm a3 g3 e3 r3=>?_) (λe g' u f=>by rw[u]at c;exact o e g' f c);rw[e3]at c;simp only at c;refine r3.num (by omega) (λd a4 g4 e4 r4=>?_) (λe g' u f=>by rw[u]at c;exact o e g' f c);rw[e4]at c;simp only at c;refine r4.num (by omega) (λi q g5 U r5=>?_) (λe g' u f=>by rw[u]at c;exact o e g' f c);rw[U]at c;simp only at c
 have ha5:q<=s.size:=by
  have:=Un _ _ _ _ _ _ U
  rwa [Array.length_toList]at this
 simp only[AH,Ad];refine r5.stF (by omega) rfl λg6 Z=>Z.stF (by omega) rfl λg7 Y=>Y.stF (by omega) rfl λg8 X=>X.stF (by omega) rfl λg9 W=>W.stF (by omega) rfl λg10 t=>?_;have Q:(((((op0.a.setIfInBounds 0 (.int .i64 k)).setIfInBounds 1 (.int .i64 gd)).setIfInBounds 2 (.int .i64 m)).setIfInBounds 3 (.int .i64 d)).setIfInBounds 4 (.int .i64 i))=(OpV.a {kind:=k,good:=gd,am:=m,side:=d,id:=i,price:=0}):=rfl;rw[Q]at t;have w:∀e g' va vb,S2 h g' a b va vb->R (.ret (.tuple #[op0.v,.int .i64 e])) h->∃v,Qd e = [{v:=v,recovered:=false}]/\d32 (ptr a) (ptr b) (ptr a) (ptr b) (λe P=>∃g,Sub g P/\R e g) v g':=λe g' va vb f C=>⟨_,rfl,Wi f e C⟩;refine ZX (n:=8) t.hp (by omega) (by omega) (by omega) (λl=>?_) (λB=>?_)
 ·rw[if_neg l]at c
  simp only[AK.elim];have z:=t.at (q+8);refine YP (S:=s.extract q (q+8)) (by rw[ByteArray.size_extract];omega) rfl ?_;intro r C;simp only[Prod.mk.injEq]at C;obtain⟨q2,q3,q4,q6⟩:=C;simp only[q2,q3,q4,q6];refine mP z.hp (by omega) (λH=>?_) (λA=>?_)
  ·rw[if_neg H]at c
   simp only[AK.elim];refine Vc ?_;simp only[AH,Ad,BR];refine z.stF (by omega) rfl λg12 y=>?_;rw[y.s2.ldA];have ev:(OpV.a {kind:=k,good:=gd,am:=m,side:=d,id:=i,price:=0}).setIfInBounds 5 (.float .f64 (un8 (s.extract q (q+8)).data.toList))=OpV.a {kind:=k,good:=gd,am:=m,side:=d,id:=i,price:=un8 (s.extract q (q+8)).data.toList}:=rfl;rw[ev]at y ⊢;refine y.s2.stA (wa:=OpV.a {kind:=k,good:=gd,am:=m,side:=d,id:=i,price:=un8 (s.extract q (q+8)).data.toList}) rfl (by rfl) λg13 N=>N.stB rfl λg14 M=>?_;exact Te M c
  ·rw[if_pos A]at c
   exact w 12 _ _ _ z.s2 c
 ·rw[if_pos B]at c
  exact w 10 _ _ _ t.s2 c
end
instance:Std.Associative (HSMul.hSMul:(PH->Prop)->(PH->Prop)->(PH->Prop)):=⟨Bf⟩
instance:Std.Commutative (HSMul.hSMul:(PH->Prop)->(PH->Prop)->(PH->Prop)):=⟨I7⟩
theorem NP {A A' C:PH->Prop} {h:PH} {b:Nat} {o:Obj} (H:(A•C) h) (r:∀f,A f->(∃p,f b=some p)/\A' (ins f b o)):(A'•C) (ins h b o):=by
 obtain⟨f,k,d,m,l,a,c⟩:=H;obtain⟨⟨p,n⟩,a'⟩:=r f a;have j:k b=none:=d b (by rw[n];simp);refine⟨ins f b o,k,λx i=>?_,m.both,λx q g=>?_,a',c⟩
 ·by_cases e:x=b
  ·rw[e];exact j
  ·rw[Aq _ _ e]at i;exact d x i
 ·rw[Aq _ _ (λe=>by rw[e,j]at g;cases g)];exact l _ _ g
structure Hs where
 L:Led
 now:Int
 bk:Nat->Bk
 au:Nat->Option (Auc×Int)
def Hs.G (S:Hs):Nat:=S.L.goods.toNat
def Hs.setL (S:Hs) (L:Led):Hs:={S with L:=L}
def Hs.setBk (S:Hs) (i:Nat) (B:Bk):Hs:={S with bk:=λk=>if k=i then B else S.bk k}
def Hs.setAu (S:Hs) (i:Nat) (A:Option (Auc×Int)):Hs:={S with au:=λk=>if k=i then A else S.au k}
structure Nm where
 l:Nat
 lb:Nat
 bs:Nat
 bcap:Nat
 cb:Array Value
 ss:Nat
 ba:Nat->Nat
 aa:Nat->Nat
 ab:Nat->Nat
def GD (nm:Nm) (S:Hs):Array Value:=#[ptr nm.l,.int .i64 S.L.n,.int .i64 S.L.goods,.int .i64 S.now,.slice (some ⟨nm.bs,0,none⟩) S.G nm.bcap,.slice (some ⟨nm.ss,0,none⟩) S.G S.G]
def Bg (nm:Nm) (S:Hs) (i:Nat):Value:=match S.au i with | some _=>ptr (nm.aa i) | none=>.pointer none
def CV (S:Hs) (i:Nat):Int:=match S.au i with | some p=>p.2 | none=>0
def FF (nm:Nm) (S:Hs):Array Value:=Array.ofFn (n:=S.G*2) λk=>if k.val%2=0 then Bg nm S (k.val/2)else .int .i64 (CV S (k.val/2))
theorem Dz (nm:Nm) (S:Hs):(FF nm S).size=S.G*2:=by simp[FF]
theorem RC {nm:Nm} {S:Hs} {i:Nat} (hi:i<S.G):(FF nm S)[i*2]?=some (Bg nm S i):=by
 unfold FF;rw[Array.getElem?_ofFn,dif_pos (by omega)];simp only;rw[if_pos (by omega),show i*2/2=i by omega]
theorem W5 {nm:Nm} {S:Hs} {i:Nat} (hi:i<S.G):(FF nm S)[i*2+1]?=some (.int .i64 (CV S i)):=by
 unfold FF;rw[Array.getElem?_ofFn,dif_pos (by omega)];simp only;rw[if_neg (by omega),show (i*2+1)/2=i by omega]
abbrev hsO (nm:Nm) (S:Hs):Obj:=.cells (GD nm S) 85 (0,0)
abbrev saO (nm:Nm) (S:Hs):Obj:=.cells (FF nm S) 98 (0,0)
abbrev boO (nm:Nm):Obj:=.cells nm.cb 93 (0,0)
def KC (l lb:Nat) (L:Led):PH->Prop:=λh=>Bl h l lb L
def NG (a b:Nat) (A:Auc):PH->Prop:=λh=>Cm h a b A
def auP (nm:Nm) (S:Hs) (i:Nat):PH->Prop:=match S.au i with | some p=>NG (nm.aa i) (nm.ab i) p.1 | none=>emp
def bkP (nm:Nm) (S:Hs) (i:Nat):PH->Prop:=BkP (nm.ba i) (S.bk i)
def HsN (x:Nat) (nm:Nm) (S:Hs):PH->Prop:=pt x (hsO nm S)•KC nm.l nm.lb S.L•pt nm.bs (boO nm)•pt nm.ss (saO nm S)•CA (bkP nm S) S.G•CA (auP nm S) S.G
structure Nm.ok (nm:Nm) (S:Hs):Prop where
 cb:∀i,i<S.G->nm.cb[i]?=some (ptr (nm.ba i))
 cap:S.G<=nm.bcap
section
variable {h g:PH} {x:Nat} {nm:Nm} {S:Hs} {C:PH->Prop} {l lb a bb:Nat} {L:Led} {A B:Auc}
theorem KC.mono:C3 (KC l lb L):=λh g b c=>Bl.sub c b
theorem NG.mono:C3 (NG a bb A):=λh g b c=>Cm.sub c b
theorem auP.mono (i:Nat):C3 (auP nm S i):=by
 unfold auP;cases S.au i with
 | none=>exact OP
 | some p=>exact NG.mono
theorem HsN.mono:C3 (HsN x nm S):=A8 _ _
theorem fH {L':Led} (H:(KC l lb L•C) h) (c:L'.goods=L.goods) (b:L'.n=L.n):(KC l lb L'•C) (CQ h lb L'):=
 NP H λd a=>⟨⟨_,a.hb⟩,a.put c b⟩
theorem jM (H:(NG a bb A•C) h):(NG a bb B•C) (Ci h a bb B):=by
 unfold Ci;refine NP (A:=λh=>a≠bb/\(∃p,h a=some p)/\h bb=some (.cells (C8 B) 157 (0,0))) (NP H λc b=>⟨⟨_,b.hb⟩,b.ne,⟨_,by rw[Aq _ _ b.ne];exact b.ha⟩,AD _ _ _⟩) ?_;rintro c ⟨hne,hp,hb⟩;exact⟨hp,AD _ _ _,by rw[Aq _ _ hne.symm];exact hb⟩
structure HF (h:PH) (x:Nat) (nm:Nm) (S:Hs):Prop where
 hx:h x=some (hsO nm S)
 hl:Bl h nm.l nm.lb S.L
 hb:h nm.bs=some (boO nm)
 hs:h nm.ss=some (saO nm S)
 bk:∀i,i<S.G->BkP (nm.ba i) (S.bk i) h
 au:∀i p,i<S.G->S.au i=some p->Cm h (nm.aa i) (nm.ab i) p.1
theorem HsN.f (H:HsN x nm S h):HF h x nm S:=by
 unfold HsN at H;have q:∀(k j f e d c:PH->Prop),k•j•f•e•d•c=d•(k•j•f•e•c):=λ_ _ _ _ _ _=>by ac_rfl
 have o:∀(k j f e d c:PH->Prop),k•j•f•e•d•c=c•(k•j•f•e•d):=λ_ _ _ _ _ _=>by ac_rfl
 refine⟨AM H,AJ KC.mono (AF (A8 _ _) H),AM (AF (A8 _ _) (AF (A8 _ _) H)),AM (AF (A8 _ _) (AF (A8 _ _) (AF (A8 _ _) H))),λi hi=>?_,λi p hi n=>?_⟩
 ·rw[q]at H
  have b:=AJ (Gu _ _) H;rw[FZ hi BkP.mono]at b;exact AJ BkP.mono b
 ·rw[o]at H
  have b:=AJ (Gu _ _) H;rw[FZ hi (auP.mono i)]at b;have m:=AJ (auP.mono i) b;unfold auP at m;rw[n]at m;exact m
theorem HsN.led {L':Led} (H:(HsN x nm S•C) h) (b:L'.goods=S.L.goods) (d:L'.n=S.L.n):(HsN x nm (S.setL L')•C) (CQ h nm.lb L'):=by
 have c:(S.setL L').G=S.G:=by unfold Hs.G Hs.setL;rw[b]
 have e:∀(n m k j i f C:PH->Prop),(n•m•k•j•i•f)•C=m•((n•k•j•i•f)•C):=λ_ _ _ _ _ _ _=>by ac_rfl
 unfold HsN at H ⊢;rw[e]at H ⊢;have p:hsO nm (S.setL L')=hsO nm S:=by unfold hsO GD;rw[c];simp only[Hs.setL,b,d]
 have o:saO nm (S.setL L')=saO nm S:=by unfold saO FF;rw[c];rfl
 rw[p,o,c];exact fH H b d
theorem HsN.book {i:Nat} (hi:i<S.G) (H:(HsN x nm S•C) h):∃q:PH->Prop,(BkP (nm.ba i) (S.bk i)•q•C) h/\∀(B':Bk) (D:PH->Prop) (g:PH),(BkP (nm.ba i) B'•q•D) g->(HsN x nm (S.setBk i B')•D) g:=by
 have e:∀(o n m j f d C:PH->Prop),(o•n•m•j•f•d)•C=f•((o•n•m•j•d)•C):=λ_ _ _ _ _ _ _=>by ac_rfl
 refine⟨CA (upA (bkP nm S) i emp) S.G•(pt x (hsO nm S)•KC nm.l nm.lb S.L•pt nm.bs (boO nm)•pt nm.ss (saO nm S)•CA (auP nm S) S.G),?_,λB' D g p=>?_⟩
 ·unfold HsN at H
  rw[e,FZ hi BkP.mono,Bf]at H;rw[Bf];exact H
 ·unfold HsN
  rw[e];have w:(S.setBk i B').G=S.G:=rfl
  have b:CA (bkP nm (S.setBk i B')) S.G=BkP (nm.ba i) B'•CA (upA (bkP nm S) i emp) S.G:=by
   rw[FZ hi BkP.mono];have v:bkP nm (S.setBk i B') i=BkP (nm.ba i) B':=by unfold bkP Hs.setBk;simp
   have u:upA (bkP nm (S.setBk i B')) i emp=upA (bkP nm S) i emp:=by
    funext k
    unfold upA
    split
    ·rfl
    ·rename_i c;unfold bkP Hs.setBk;simp[c]
   rw[v,u]
  rw[w,b,Bf];have t:auP nm (S.setBk i B')=auP nm S:=rfl;have s:hsO nm (S.setBk i B')=hsO nm S:=rfl;have r:saO nm (S.setBk i B')=saO nm S:=rfl;rw[t,s,r];rw[Bf]at p;exact p
theorem HsN.auc {i:Nat} {w:Int} (hi:i<S.G) (f:S.au i=some (A,w)) (H:(HsN x nm S•C) h):(HsN x nm (S.setAu i (some (B,w)))•C) (Ci h (nm.aa i) (nm.ab i) B):=by
 have e:∀(s r q p o n C:PH->Prop),(s•r•q•p•o•n)•C=n•((s•r•q•p•o)•C):=λ_ _ _ _ _ _ _=>by ac_rfl
 unfold HsN at H ⊢;rw[e]at H ⊢;have b:∀S':Hs,CA (auP nm S') S.G=auP nm S' i•CA (upA (auP nm S') i emp) S.G:=λS'=>FZ hi (auP.mono i);have m:(S.setAu i (some (B,w))).G=S.G:=rfl;rw[b,Bf]at H;rw[m,b,Bf];have G:auP nm S i=NG (nm.aa i) (nm.ab i) A:=by unfold auP;rw[f]
 have F:auP nm (S.setAu i (some (B,w))) i=NG (nm.aa i) (nm.ab i) B:=by unfold auP Hs.setAu;simp
 have E:upA (auP nm (S.setAu i (some (B,w)))) i emp=upA (auP nm S) i emp:=by
  funext k
  unfold upA
  split
  ·rfl
  ·rename_i d;unfold auP Hs.setAu;simp[d]
 have D:FF nm (S.setAu i (some (B,w)))=FF nm S:=by
  unfold FF;rw[m]
  congr 1
  funext k
  have u:∀j,Bg nm (S.setAu i (some (B,w))) j=Bg nm S j:=λj=>by
   unfold Bg Hs.setAu;simp only
   by_cases c:j=i
   ·subst c;rw[if_pos rfl,f]
   ·rw[if_neg c]
  have t:∀j,CV (S.setAu i (some (B,w))) j=CV S j:=λj=>by
   unfold CV Hs.setAu;simp only
   by_cases c:j=i
   ·subst c;rw[if_pos rfl,f]
   ·rw[if_neg c]
  rw[u,t]
 have z:saO nm (S.setAu i (some (B,w)))=saO nm S:=by unfold saO;rw[D]
 have y:bkP nm (S.setAu i (some (B,w)))=bkP nm S:=rfl;have v:hsO nm (S.setAu i (some (B,w)))=hsO nm S:=rfl;rw[G]at H;rw[F,E,z,y,v];exact jM H
end
def BN (L:Led) (i:Nat) (n:Int):Led:=if 0<n then (IP L i n).2 else if n<0 then (IR L i (-n)).2 else L
def BY (L:Led) (i:Nat) (g n:Int):Led:=if 0<n then (CH L i g n).2 else if n<0 then (ES L i g (-n)).2 else L
def BJ (L:Led) (s b:Nat) (g p n:Int):Led:=if 0<n then (if 0<p then (GS (EG L s b g n).2 b s (p*n)).2 else (EG L s b g n).2)else L
theorem DS {L:Led} (h:Inv L) {i:Nat} (hi:i<L.n) (n:Int):Inv (BN L i n):=by
 unfold BN
 split
 ·exact aP h hi
 ·split
  ·exact aQ h hi
  ·exact h
theorem Jh {L:Led} (h:Inv L) {i:Nat} (hi:i<L.n) (g n:Int):Inv (BY L i g n):=by
 unfold BY
 split
 ·exact TL h hi
 ·split
  ·exact VF h hi
  ·exact h
theorem BK (L:Led) (i:Nat) (n:Int):(BN L i n).goods=L.goods/\(BN L i n).n=L.n:=by
 unfold BN IP IR
 repeat' split
 all_goals exact⟨rfl,rfl⟩
theorem Cw (L:Led) (i:Nat) (g n:Int):(BY L i g n).goods=L.goods/\(BY L i g n).n=L.n:=by
 unfold BY CH ES
 repeat' split
 all_goals exact⟨rfl,rfl⟩
structure LX (h:PH) (x l lb:Nat) (L:Led):Prop where
 hx:∃c,h x=some (.cells c 85 (0,0))/\c[0]?=some (ptr l)
 hl:Bl h l lb L
section
variable {h g:PH} {R:RT} {x l lb:Nat} {L L':Led} {i:Nat} {n:Int}
theorem LX.ne (H:LX h x l lb L):x≠lb:=λe=>by
 obtain⟨c,a,_⟩:=H.hx;rw[e,H.hl.hb]at a;injection a with h2
 injection h2 with _ h3
 exact absurd h3 (by decide)
theorem LX.put (H:LX h x l lb L) (b:L'.goods=L.goods) (a:L'.n=L.n):LX (CQ h lb L') x l lb L':=
 ⟨by obtain⟨c,e,d⟩:=H.hx;exact⟨c,by unfold CQ;rw[Aq _ _ H.ne];exact e,d⟩,H.hl.put b a⟩
theorem LX.ld (H:LX h x l lb L) {K:Value->Prop}:A0 none (.pointer (some ⟨x,0,none⟩)) h K↔K (ptr l):=by
 obtain⟨c,b,a⟩:=H.hx;exact A5 b a
theorem HF.lx {nm:Nm} {S:Hs} (H:HF h x nm S):LX h x nm.l nm.lb S.L:=⟨⟨_,H.hx,rfl⟩,H.hl⟩
theorem Ka (H:LX h x l lb L) (d:Inv L) (hi:i<L.n) (e:-4611686018427387904<=n/\n<=4611686018427387904) (a:R (.ret (.tuple #[])) (CQ h lb (BN L i n))):A7 Tryz.prog 113 #[ptr x,.int .i64 i,.int .i64 n] h R:=by
 refine j4 ?_;unfold lK mj ivW pnW;unfold BN at a
 by_cases c:0<n
 ·have b:¬n<0:=by omega
  rw[if_pos c]at a;simp[c,H.ld];refine fT H.hl d.small hi ?_;simp[AK.elim,b];exact λ_=>a
 ·rw[if_neg c]at a
  by_cases b:n<0
  ·rw[if_pos b]at a
   simp[c,b,H.ld];rw[w64 (by omega) (by omega)];refine fo H.hl d.small hi ?_;simp only[AK.elim];exact a
  ·rw[if_neg b,B7 H.hl]at a
   simp[c,b];exact a
theorem Ri {g:Int} (H:LX h x l lb L) (d:Inv L) (hi:i<L.n) (e:-4611686018427387904<=n/\n<=4611686018427387904) (a:R (.ret (.tuple #[])) (CQ h lb (BY L i g n))):A7 Tryz.prog 117 #[ptr x,.int .i64 i,.int .i64 g,.int .i64 n] h R:=by
 refine iz ?_;unfold lG mi ivW pnW;unfold BY at a
 by_cases c:0<n
 ·have b:¬n<0:=by omega
  rw[if_pos c]at a;simp[c,H.ld];refine WR H.hl d.small hi ?_;simp[AK.elim,b];exact λ_=>a
 ·rw[if_neg c]at a
  by_cases b:n<0
  ·rw[if_pos b]at a
   simp[c,b,H.ld];rw[w64 (by omega) (by omega)];refine XE H.hl d.small hi ?_;simp only[AK.elim];exact a
  ·rw[if_neg b,B7 H.hl]at a
   simp[c,b];exact a
theorem ah (H:LX h x l lb L) (b:Inv L) (hi:i<L.n) (j:R (.ret (.int .i64 (L.f i 0-L.f i 1))) h):A7 Tryz.prog 111 #[ptr x,.int .i64 i] h R:=by
 refine A7.drop (j6 ?_);unfold lM zq2 pnW;simp only[BO,AH,Ad,H.ld];refine Ly H.hl hi ?_;simp only[AK.elim,Av,Au];refine Ai λc G f e a=>?_;refine AN a (by rfl) (by rfl) (by rfl) ?_;have d:=AD G c (.cells (AW L i) 61 (0,0));simp only[AH,Ad];rw[A5 d (show (AW L i)[0]?=some (.int .i64 (L.f i 0))from rfl),A5 d (show (AW L i)[1]?=some (.int .i64 (L.f i 1))from rfl),Ao];have k:=b.small.num i 0 hi (by omega);have b1:=b.small.num i 1 hi (by omega);rw[w64 (by omega) (by omega)];exact⟨h,Sub.put e f,j⟩
theorem Wb {s b:Nat} {gd p n:Int} (H:LX h x l lb L) (m:Inv L) (j:s<L.n) (k:b<L.n) (o:0<=p/\p<=1099511627776) (r:n<=1048576) (c:R (.ret (.tuple #[])) (CQ h lb (BJ L s b gd p n))) :
  A7 Tryz.prog 146 #[ptr x,.int .i64 s,.int .i64 b,.int .i64 gd,.int .i64 p,.int .i64 n] h R:=by
 refine iN ?_;unfold kc ivW pnW;unfold BJ at c
 by_cases e:0<n
 ·rw[if_pos e]at c
  simp[e,H.ld];refine fX H.hl m.small j k ?_
  have a:(EG L s b gd n).2.goods=L.goods/\(EG L s b gd n).2.n=L.n:=by
   unfold EG D6
   repeat' split
   all_goals exact⟨rfl,rfl⟩
  have f:Inv (EG L s b gd n).2:=TM m j k;have q:=H.put a.1 a.2
  by_cases d:0<p
  ·rw[if_pos d]at c
   simp[AK.elim,d,q.ld];have u:0<=p*n:=Int.mul_nonneg o.1 (by omega);have t:p*n<=1099511627776*1048576:=Int.mul_le_mul o.2 r (by omega) (by omega);rw[w64 (by omega) (by omega)];refine⟨?_,λh0=>absurd h0 (by omega)⟩;refine fD q.hl f.small (by rw[a.2];exact k) (by rw[a.2];exact j) ?_;simp only[AK.elim];rw[Fe];exact c
  ·rw[if_neg d]at c
   simp[AK.elim,d];exact λ_=>c
 ·rw[if_neg e,B7 H.hl]at c
  simp[e];exact c
end
structure OpV.ok (o:OpV):Prop where
 kind:0<=o.kind/\o.kind<=9007199254740992
 good:0<=o.good/\o.good<=9007199254740992
 am:0<=o.am/\o.am<=9007199254740992
 side:0<=o.side/\o.side<=9007199254740992
 id:0<=o.id/\o.id<=9007199254740992
 price:o.price<18446744073709551616
theorem LK (s:ByteArray):(Cv s).1.ok:=by
 have:=Zq s;exact⟨by omega,by omega,by omega,by omega,by omega,by omega⟩
structure Tm where
 p:Int
 id:Int
 e:Int
def Bn (S:Hs) (who:Nat) (o:OpV):Tm:=
 if S.L.goods<=o.good\/1<o.side\/1048576<o.id\/o.am<1\/1048576<o.am then ⟨0,0,1⟩else ⟨(B8 o.price).1,o.id*16+who,(B8 o.price).2⟩
theorem Gb {S:Hs} {who:Nat} {o:OpV} (h:(Bn S who o).e=0):o.good<S.L.goods/\o.side<=1/\o.id<=1048576/\1<=o.am/\o.am<=1048576/\0<=(Bn S who o).p/\(Bn S who o).p<=1099511627776/\(Bn S who o).id=o.id*16+who:=by
 unfold Bn at h ⊢
 split at h
 ·cases h
 ·rename_i a
  rw[if_neg a];have:=Q4 h;exact⟨by omega,by omega,by omega,by omega,by omega,this.1,this.2,rfl⟩
def Cz (buys:Bool) (p am:Int):Int:=if buys then p*am else 0
def Dd (buys:Bool) (p am:Int):Int:=if buys then 0 else am
def Gz (L:Led) (who:Nat) (good:Int) (buys:Bool) (p am:Int):Int:=
 if L.f who 0-L.f who 1<Cz buys p am\/L.f who (2+good.toNat)-L.f who (6+good.toNat)<Dd buys p am then 61 else 0
section
variable {h g:PH} {R:RT} {x l lb:Nat} {L:Led} {nm:Nm} {S:Hs} {who:Nat} {o:OpV}
theorem Wc (w:h x=some (hsO nm S)) (u:o.ok) (z:who<16) (y:R (.ret (.tuple #[.int .i64 (Bn S who o).p,.int .i64 (Bn S who o).id,.int .i64 (Bn S who o).e])) h) :
  A7 Tryz.prog 114 #[ptr x,.int .i64 who,o.v] h R:=by
 refine A7.drop (j3 ?_);unfold lJ gGW ivW pnW;rw[show Value.cells o.v=o.a from rfl];refine Ai λc G A s b=>?_;have i:=λK=>A5 (K:=K) b (show o.a[1]?=some (.int .i64 o.good)from rfl);have q:=λK=>A5 (K:=K) b (show o.a[2]?=some (.int .i64 o.am)from rfl);have m:=λK=>A5 (K:=K) b (show o.a[3]?=some (.int .i64 o.side)from rfl);have k:=λK=>A5 (K:=K) b (show o.a[4]?=some (.int .i64 o.id)from rfl);have v:=λK=>A5 (K:=K) b (show o.a[5]?=some (.float .f64 o.price)from rfl);have f:=λK=>A5 (K:=K) (s _ _ w) (show (GD nm S)[2]?=some (.int .i64 S.L.goods)from rfl);have a:∀{t:Tm},Bn S who o=t->∃g,Sub g G/\R (.ret (.tuple #[.int .i64 t.p,.int .i64 t.id,.int .i64 t.e])) g:=λe=>⟨h,s,by rw[<-e];exact y⟩
 by_cases d:S.L.goods<=o.good
 ·simp[i,f,d]
  exact a (by unfold Bn;rw[if_pos (.inl d)])
 by_cases j:1<o.side
 ·simp[i,f,d,m,j]
  exact a (by unfold Bn;rw[if_pos (.inr (.inl j))])
 by_cases n:1048576<o.id
 ·simp[i,f,d,m,j,k,n]
  exact a (by unfold Bn;rw[if_pos (.inr (.inr (.inl n)))])
 by_cases p:o.am<1
 ·simp[i,f,d,m,j,k,n,q,p]
  exact a (by unfold Bn;rw[if_pos (.inr (.inr (.inr (.inl p))))])
 by_cases r:1048576<o.am
 ·simp[i,f,d,m,j,k,n,q,p,r]
  exact a (by unfold Bn;rw[if_pos (.inr (.inr (.inr (.inr r))))])
 simp[i,f,d,m,j,k,n,q,p,r,v];refine Sa u.price ?_;have:=u.id;simp[AK.elim,k];rw[w64 (x:=o.id*16) (by omega) (by omega),w64 (by omega) (by omega)];exact a (t:=⟨(B8 o.price).1,o.id*16+who,(B8 o.price).2⟩) (by unfold Bn;rw[if_neg (by omega)])
theorem Qx (L:Led) (i:Nat) {m:Nat} (a:m<4):(AW L i)[2+m]?=some (.int .i64 (L.f i (2+m))):=match m,a with
 | 0,_=>rfl
 | 1,_=>rfl
 | 2,_=>rfl
 | 3,_=>rfl
theorem Qw (L:Led) (i:Nat) {m:Nat} (a:m<4):(AW L i)[6+m]?=some (.int .i64 (L.f i (6+m))):=match m,a with
 | 0,_=>rfl
 | 1,_=>rfl
 | 2,_=>rfl
 | 3,_=>rfl
theorem fe {good:Nat} {buys:Bool} {p am:Int} (H:LX h x l lb L) (r:Inv L) (hi:who<L.n) (m:good<4) (w:0<=p/\p<=1099511627776) (v:0<=am/\am<=1048576)
  (C:R (.ret (.tuple #[.int .i64 (Cz buys p am),.int .i64 (Dd buys p am),.int .i64 (Gz L who good buys p am)])) h) :
  A7 Tryz.prog 115 #[ptr x,.int .i64 who,.int .i64 good,.bool buys,.int .i64 p,.int .i64 am] h R:=by
 refine A7.drop (j1 ?_);unfold lI zq2 gAW gGW ivW pnW;simp only[BO,AH,Ad,H.ld];refine Ly H.hl hi ?_;simp only[AK.elim,Av,Au];refine AX λc B=>?_;refine AN (cs:=AW L who) (AD _ _ _) (by rfl) (by rfl) (by rfl) ?_;rw[An];have u:Sub h (ins h c (.cells (AW L who) 61 (0,0))):=AT _ B;have d:ins h c (.cells (AW L who) 61 (0,0)) c=some (.cells (AW L who) 61 (0,0)):=AD _ _ _;revert u d;generalize ins h c (.cells (AW L who) 61 (0,0))=G;intro u d;have q:=λK=>A5 (K:=K) d (show (AW L who)[0]?=some (.int .i64 (L.f who 0))from rfl);have n:=λK=>A5 (K:=K) d (show (AW L who)[1]?=some (.int .i64 (L.f who 1))from rfl);have t:=λK=>A5 (K:=K) d (Qx L who m);have s:=λK=>A5 (K:=K) d (Qw L who m);have E:=r.small.num who 0 hi (by omega);have b1:=r.small.num who 1 hi (by omega);have b2:=r.small.num who (2+good) hi (by omega);have D:=r.small.num who (6+good) hi (by omega);have b:IntKind.i64.wrap (L.f who 0-L.f who 1)=L.f who 0-L.f who 1:=w64 (by omega) (by omega);have f:IntKind.i64.wrap (L.f who (2+good)-L.f who (6+good))=L.f who (2+good)-L.f who (6+good):=w64 (by omega) (by omega);have z:0<=p*am:=Int.mul_nonneg w.1 v.1;have y:p*am<=1099511627776*1048576:=Int.mul_le_mul w.2 v.2 v.1 (by omega);have j:IntKind.i64.wrap (p*am)=p*am:=w64 (by omega) (by omega);have hg':(good:Int)<4:=by omega
 have a:∀e,Gz L who good buys p am=e->∃g,Sub g G/\R (.ret (.tuple #[.int .i64 (Cz buys p am),.int .i64 (Dd buys p am),.int .i64 e])) g:=λe A=>⟨h,u,by rw[<-A];exact C⟩;cases buys with
 | true=>
  unfold Gz Cz Dd at a;simp only[if_true,BR]at a
  by_cases i:L.f who 0-L.f who 1<p*am
  ·simp[j,q,n,b,i]
   exact a 61 (by rw[if_pos (.inl i)])
  ·by_cases k:L.f who (2+good)-L.f who (6+good)<0
   ·simp[j,q,n,b,i,m,t,s,f,k]
    exact⟨hg',a 61 (by rw[if_pos (.inr k)])⟩
   ·simp[j,q,n,b,i,m,t,s,f,k]
    exact⟨hg',a 0 (by rw[if_neg (by omega)])⟩
 | false=>
  unfold Gz Cz Dd at a;simp only[Ba,if_false,BR]at a
  by_cases i:L.f who 0-L.f who 1<0
  ·simp[q,n,b,i]
   exact a 61 (by rw[if_pos (.inl i)])
  ·by_cases k:L.f who (2+good)-L.f who (6+good)<am
   ·simp[q,n,b,i,m,t,s,f,k]
    exact⟨hg',a 61 (by rw[if_pos (.inr k)])⟩
   ·simp[q,n,b,i,m,t,s,f,k]
    exact⟨hg',a 0 (by rw[if_neg (by omega)])⟩
def Ae (A:Auc) (who:Int):Int:=max ((B4 A who).1*A.last) ((B4 A who).2*A.price)
theorem M1 {A:Auc} (a:A.ok) (who:Int):0<=(B4 A who).1/\(B4 A who).1<=1048576/\0<=(B4 A who).2/\(B4 A who).2<=1048576:=by
 unfold B4
 split
 ·simp
 ·have c:=a.was who.toNat (by omega)
  have b:=a.now who.toNat (by omega);simp only;omega
theorem Jf {A:Auc} (a:A.ok):0<=A.last/\A.last<=1099511627776:=by
 have f:=a.priceB;have e:=a.sta;have d:=a.stp;have c:=a.rnd;unfold Auc.last
 split
 ·omega
 ·rename_i b
  have:A.stp<=(A.rnd-1)*A.stp:=by
   have:1*A.stp<=(A.rnd-1)*A.stp:=Int.mul_le_mul_of_nonneg_right (by omega) (by omega);omega
  unfold Auc.price at *;omega
theorem Dc {a b A B:Int} (d:0<=a/\a<=A) (c:0<=b/\b<=B):0<=a*b/\a*b<=A*B:=⟨Int.mul_nonneg d.1 c.1,Int.mul_le_mul d.2 c.2 c.1 (by omega)⟩
theorem Dr {A:Auc} (b:A.ok) (who:Int):0<=Ae A who/\Ae A who<=1152921504606846976:=by
 have a:=M1 b who;have d:=Dc (B:=1099511627776) ⟨a.1,a.2.1⟩ (Jf b);have c:=Dc (B:=1099511627776) ⟨a.2.2.1,a.2.2.2⟩ b.priceB;unfold Ae;omega
theorem VK {a n:Nat} {A:Auc} {w who:Int} (m:Cm h a n A) (b:A.ok) (k:R (.ret (.int .i64 (Ae A who))) h):A7 Tryz.prog 102 #[.agg #[ptr a,.int .i64 w],.int .i64 who] h R:=by
 refine A7.drop (jF ?_);unfold lV pnW;rw[show Value.cells (.agg #[ptr a,.int .i64 w])=#[ptr a,.int .i64 w]from rfl];refine Ai λc G p j i=>?_;have f:=λK=>A5 (K:=K) i (show (#[ptr a,.int .i64 w]:Array Value)[0]?=some (ptr a)from rfl);have hA':=m.sub j;simp only[AH,Ad,f];refine JL hA' ?_;simp only[AK.elim,Av,Au,f];refine P0 hA' b ?_;simp only[AK.elim,f,true_and,CG];have d:=M1 b who;have r:=Dc (B:=1099511627776) ⟨d.1,d.2.1⟩ (Jf b);have q:=Dc (B:=1099511627776) ⟨d.2.2.1,d.2.2.2⟩ b.priceB;rw[w64 (by omega) (by omega)];refine EN hA' b ?_;simp only[AK.elim,CG];rw[w64 (by omega) (by omega),E7];simp only[if_true]
 have e:(if (B4 A who).2*A.price>(B4 A who).1*A.last then (B4 A who).2*A.price else (B4 A who).1*A.last)=Ae A who:=by
  unfold Ae;split <;> omega
 rw[e];exact⟨h,j,k⟩
end
structure Hs.ok (S:Hs):Prop where
 led:Inv S.L
 n1:1<=S.L.n
 bk:∀i,i<S.G->(S.bk i).ok
 own:∀i,i<S.G->∀o∈(S.bk i).l,o.own<S.L.n
 au:∀i A w,i<S.G->S.au i=some (A,w)->A.ok/\A.ste=0/\A.n=S.L.n/\0<=w/\w<S.L.n
 now:0<=S.now/\S.now<=9007199254740992
theorem Hs.ok.g {S:Hs} (h:S.ok):S.L.goods=S.G/\1<=S.G/\S.G<=4:=by
 have b:=h.led.g0;have a:=h.led.gd;unfold Hs.G;omega
theorem Hs.ok.cl {S:Hs} (h:S.ok):S.L.n<=16:=h.led.cl
theorem Nx (S:Hs) (i:Nat):S.setBk i (S.bk i)=S:=by
 have:(λk=>if k=i then S.bk i else S.bk k)=S.bk:=by
  funext k;split
  ·rename_i e;rw[e]
  ·rfl
 unfold Hs.setBk;rw[this]
def Bo (t:Tm) (who:Nat) (o:OpV):Ord:={id:=t.id,own:=who,pr:=t.p,am:=o.am,pl:=0,buys:=decide (o.side=0)}
def Hj (S:Hs) (who:Nat) (o:OpV):Int×Hs:=
 let t:=Bn S who o
 if t.e≠0 then (t.e,S)else
 let a:=Gz S.L who o.good (decide (o.side=0)) t.p o.am
 if a≠0 then (a,S)else
 let r:=E4 (S.bk o.good.toNat) (Bo t who o)
 if r.1≠0 then (r.1,S)else
 (0,(S.setBk o.good.toNat r.2).setL (BY (BN S.L who (Cz (decide (o.side=0)) t.p o.am)) who o.good (Dd (decide (o.side=0)) t.p o.am)))
theorem Zb {B:Bk} {o:Ord} (h:(E4 B o).1≠0):(E4 B o).2=B:=by
 unfold E4 at h ⊢
 repeat' split
 all_goals first | rfl | (simp_all)
section
variable {h g:PH} {R:RT} {x:Nat} {nm:Nm} {S:Hs} {who:Nat} {o:OpV}
theorem Qm (o:Ord) (a:o.pl=0):Instr.fill (λi=>[(0,1),(1,1),(2,1),(3,1),(4,1),(5,1)][i]?) #[Value.int .i64 0,.int .i64 0,.int .i64 0,.int .i64 0,.int .i64 0,.bool false] [(0,.int .i64 o.id),(1,.int .i64 o.own),(2,.int .i64 o.pr),(3,.int .i64 o.am),(5,.bool o.buys)]=some o.a:=by
 simp[Instr.fill,Value.cells,Ord.a,a]
theorem HF.book {K:Value->Prop} (F:HF h x nm S) (a:nm.ok S) {i:Nat} (hi:i<S.G) (b:K (ptr (nm.ba i))):A0 none (.pointer (some ⟨x,4,none⟩)) h λs=>AR 1 s (.int .i64 i) λt=>A0 none t h K:=by
 rw[A5 F.hx (show (GD nm S)[4]?=some (.slice (some ⟨nm.bs,0,none⟩) S.G nm.bcap)from rfl),B9];refine⟨by omega,by omega,?_⟩;rw[A5 F.hb (v:=ptr (nm.ba i)) (by simpa using a.cb i hi)];exact b
theorem rB (H:HsN x nm S h) (T:nm.ok S) (l:S.ok) (u:who<S.L.n) (O:o.ok) (a:∀g,HsN x nm (Hj S who o).2 g->R (.ret (.tuple #[.int .i64 0,.int .i64 (Hj S who o).1])) g) :
  A7 Tryz.prog 74 #[ptr x,.int .i64 who,o.v] h R:=by
 refine nf ?_;unfold pd K8 CO ivW pnW;rw[show Value.cells o.v=o.a from rfl];have V:=l.cl;have hg:=l.g;refine AX λc Y=>?_;have P:=Ar (o:=.cells o.a 25 (0,0)) Y H;have d:(HsN x nm S•pt c (.cells o.a 25 (0,0))) (ins h c (.cells o.a 25 (0,0))):=BX P;revert d;generalize ins h c (.cells o.a 25 (0,0))=G;intro d;clear P;have f:G c=some (.cells o.a 25 (0,0)):=AM (BX d);have E:=AJ HsN.mono d;have F:=E.f
 have w:∀K,A0 (some 6) (.pointer (some ⟨c,0,none⟩)) G K↔K o.v:=λK=>by
  rw[AI f (off:=0) (n:=6) (by show 0+6<=6;omega),show o.a.extract 0 (0+6)=o.a from rfl]
 have y:=λK=>A5 (K:=K) f (show o.a[1]?=some (.int .i64 o.good)from rfl);have N:=λK=>A5 (K:=K) f (show o.a[2]?=some (.int .i64 o.am)from rfl);have M:=λK=>A5 (K:=K) f (show o.a[3]?=some (.int .i64 o.side)from rfl);rw[w];refine Wc F.hx O (by omega) ?_;simp only[AK.elim,Ek,Ej,Ei,BB,AB];unfold Hj at a;simp only at a;have z:=Gb (S:=S) (who:=who) (o:=o);generalize Bn S who o=t at *
 by_cases m:t.e=0
 ·rw[if_neg (by simp[m])]at a
  obtain⟨m1,m2,m3,m4,L,J,I,m8⟩:=z m;simp only[m,B6,Bool.not_true];refine nF ?_;obtain⟨gd,j⟩:∃gd:Nat,o.good=gd:=⟨o.good.toNat,by have:=O.good;omega⟩;have k:gd<S.G:=by omega
  rw[j]at y;simp only[AH,Ad,y,N,M,BC];refine fe (good:=gd) F.lx l.led u (by omega) ⟨J,I⟩ ⟨by omega,L⟩ ?_;simp only[AK.elim,Ek,Ej,Ei,BB,AB];rw[j,BR]at a;generalize W:Gz S.L who (gd:Int) (decide (o.side=0)) t.p o.am=ce at *
  by_cases hc0:ce=0
  ·rw[if_neg (by simp[hc0])]at a
   simp only[hc0,B6,Bool.not_true];refine nF ?_;simp only[BO,AH,Ad,y,N,M,BC];refine F.book T k ?_;refine⟨_,Qm (Bo t who o) rfl,?_⟩;obtain⟨C',B,A⟩:=HsN.book k d;have r:=l.bk gd k;refine p7 (o:=Bo t who o) B r.len r.nx λZ D=>?_;have v:=A _ _ _ D;simp only[AK.elim,BB,AB]
   by_cases p:(E4 (S.bk gd) (Bo t who o)).1=0
   ·rw[if_neg (by simp[p])]at a
    simp only[p,B6,Bool.not_true];refine nF ?_;have F2:=(AJ HsN.mono v).f;have s:LX Z x nm.l nm.lb S.L:=F2.lx;have hb:=Dc ⟨J,I⟩ (show 0<=o.am/\o.am<=1048576 from⟨by omega,L⟩);have X:0<=Cz (decide (o.side=0)) t.p o.am/\Cz (decide (o.side=0)) t.p o.am<=1152921504606846976:=by unfold Cz;split <;> omega
    have U:0<=Dd (decide (o.side=0)) t.p o.am/\Dd (decide (o.side=0)) t.p o.am<=1048576:=by unfold Dd;split <;> omega
    refine Ka s l.led u (by omega) ?_;simp only[AK.elim];have b:=BK S.L who (Cz (decide (o.side=0)) t.p o.am);have Q:=HsN.led (L':=BN S.L who (Cz (decide (o.side=0)) t.p o.am)) v b.1 b.2;have q:=AM (BX Q);have C:=s.put b.1 b.2;rw[A5 q (show o.a[1]?=some (.int .i64 gd)by rw[<-j];rfl)];refine Ri C (DS l.led u _) (by rw[b.2];exact u) (by omega) ?_;simp only[AK.elim];have i:=Cw (BN S.L who (Cz (decide (o.side=0)) t.p o.am)) who gd (Dd (decide (o.side=0)) t.p o.am);have H4:=HsN.led (L':=BY (BN S.L who (Cz (decide (o.side=0)) t.p o.am)) who gd (Dd (decide (o.side=0)) t.p o.am)) Q i.1 i.2;exact a _ (AJ HsN.mono H4)
   ·rw[if_pos p]at a
    have h0:¬(E4 (S.bk gd) (Bo t who o)).1=(0:Int):=p;simp only[h0,BW,Bool.not_false];refine nT ?_;rw[Zb p,Nx]at v;exact a _ (AJ HsN.mono v)
  ·rw[if_pos hc0]at a
   simp only[hc0,BW,Bool.not_false];exact⟨λ_=>a _ E,λe=>absurd e (by simp)⟩
 ·rw[if_pos m]at a
  simp only[m,BW,Bool.not_false];exact⟨λ_=>a _ E,λe=>absurd e (by simp)⟩
end
def Cl (a:Ord) (p m:Int):Int:=if a.buys then p*m-a.pr*a.am else 0
def D8 (a:Ord) (m:Int):Int:=if a.buys then 0 else m-a.am
def De (S:Hs) (who:Nat) (o:OpV):Int×Hs:=
 let t:=Bn S who o
 if t.e≠0 then (t.e,S)else
 let r:=EZ (S.bk o.good.toNat).l t.id
 if r.2=false then (3,S)else
 if S.L.f who 0-S.L.f who 1<Cl r.1 t.p o.am\/S.L.f who (2+o.good.toNat)-S.L.f who (6+o.good.toNat)<D8 r.1 o.am then (61,S)else
 let a:=Bw (S.bk o.good.toNat) t.id who t.p o.am
 if a.1≠0 then (a.1,S)else
 (0,(S.setBk o.good.toNat a.2).setL (BY (BN S.L who (Cl r.1 t.p o.am)) who o.good (D8 r.1 o.am)))
def DO (S:Hs) (who:Nat) (o:OpV):Int×Hs:=
 if S.L.goods<=o.good\/1048576<o.id then (1,S)else
 let r:=EZ (S.bk o.good.toNat).l (o.id*16+who)
 if r.2=false then (3,S)else
 (0,(S.setBk o.good.toNat (CN (S.bk o.good.toNat) (o.id*16+who) who).2).setL (if r.1.buys then BN S.L who (-r.1.pr*r.1.am)else BY S.L who o.good (-r.1.am)))
theorem Vg {B:Bk} {id own p m:Int} (h:(Bw B id own p m).1≠0):(Bw B id own p m).2=B:=by
 unfold Bw at h ⊢
 split
 ·rfl
 ·rename_i k b
  simp only[b]at h
  split
  ·rfl
  ·rename_i o a
   simp only[a]at h
   repeat' split
   all_goals first | rfl | (exfalso;simp_all)
theorem TR {l:List Ord} {id:Int} (h:(EZ l id).2=true):(EZ l id).1∈l:=by
 unfold EZ at h ⊢
 split
 ·rename_i b;simp only[b]at h;cases h
 ·rename_i k b
  simp only[b]at h
  split
  ·rename_i o a;exact List.mem_of_getElem? a
  ·rename_i a;simp only[a]at h;cases h
section
variable {h g:PH} {R:RT} {x:Nat} {nm:Nm} {S:Hs} {who:Nat} {o:OpV}
theorem fh (H:HsN x nm S h) (hn:nm.ok S) (Q:S.ok) (X:who<S.L.n) (ho:o.ok) (m:∀g,HsN x nm (De S who o).2 g->R (.ret (.tuple #[.int .i64 0,.int .i64 (De S who o).1])) g) :
  A7 Tryz.prog 75 #[ptr x,.int .i64 who,o.v] h R:=by
 refine nc ?_;unfold pZ K8 Pp CO zq2 gAW gGW ivW pnW;rw[show Value.cells o.v=o.a from rfl];have hcl:=Q.cl;have hg:=Q.g;refine AX λc hc=>?_;have N:(HsN x nm S•pt c (.cells o.a 25 (0,0))) (ins h c (.cells o.a 25 (0,0))):=BX (Ar (o:=.cells o.a 25 (0,0)) hc H);revert N;generalize ins h c (.cells o.a 25 (0,0))=G;intro N;have hcc:G c=some (.cells o.a 25 (0,0)):=AM (BX N);have HG:=AJ HsN.mono N;have F:=HG.f
 have ld6:∀K,A0 (some 6) (.pointer (some ⟨c,0,none⟩)) G K↔K o.v:=λK=>by
  rw[AI hcc (off:=0) (n:=6) (by show 0+6<=6;omega),show o.a.extract 0 (0+6)=o.a from rfl]
 have l1:=λK=>A5 (K:=K) hcc (show o.a[1]?=some (.int .i64 o.good)from rfl);rw[ld6];refine Wc F.hx ho (by omega) ?_;simp only[AK.elim,Ek,Ej,Ei,BB,AB];unfold De at m;simp only at m;have htm:=Gb (S:=S) (who:=who) (o:=o);generalize Bn S who o=t at *
 by_cases ht:t.e=0
 ·rw[if_neg (by simp[ht])]at m
  obtain⟨m1,m2,m3,m4,m5,m6,m7,m8⟩:=htm ht;simp only[ht,B6,Bool.not_true];refine nF ?_;obtain⟨gd,T⟩:∃gd:Nat,o.good=gd:=⟨o.good.toNat,by have:=ho.good;omega⟩;have J:gd<S.G:=by omega
  have E:gd<4:=by omega
  rw[T]at l1;rw[T,BR]at m;simp only[BO,AH,Ad,l1];refine F.book hn J ?_;have U:=Q.bk gd J;refine Qp (F.bk gd J) U.len ?_;simp only[AK.elim,Av,Au];have hmem:=TR (l:=(S.bk gd).l) (id:=t.id);generalize hold:EZ (S.bk gd).l t.id=r at *;refine AX λd hd=>?_;refine AN (cs:=r.1.a) (AD _ _ _) (by rfl) (by rfl) (by cases r.1;rfl) ?_;rw[An];have M:(HsN x nm S•pt c (.cells o.a 25 (0,0))) (ins G d (.cells r.1.a 78 (0,0))):=EF N (AT _ hd);have hdd:ins G d (.cells r.1.a 78 (0,0)) d=some (.cells r.1.a 78 (0,0)):=AD _ _ _;revert M hdd;generalize ins G d (.cells r.1.a 78 (0,0))=G3;intro M hdd;cases k:r.2 with
  | false=>
   rw[k]at m;simp only[if_true]at m;simp only[Bm,Bool.not_false,AB];exact⟨λ_=>m _ (AJ HsN.mono M),λe=>absurd e (by simp)⟩
  | true=>
   rw[k]at m;simp only[Bool.true_eq_false,if_false]at m;simp only[Bm,Bool.not_true,AB];refine nF ?_;have hrO:=Am.1 (U.right r.1 (hmem k));generalize r.1=old at *;have F3:=(AJ HsN.mono M).f;simp only[BO,AH,Ad,F3.lx.ld];refine Ly F3.hl X ?_;simp only[AK.elim,Av,Au];refine AX λq hq=>?_;refine AN (cs:=AW S.L who) (AD _ _ _) (by rfl) (by rfl) (by rfl) ?_;rw[An];have hs4:Sub G3 (ins G3 q (.cells (AW S.L who) 61 (0,0))):=AT _ hq;have L:=EF M hs4;have p:=hs4 _ _ hdd;have D:ins G3 q (.cells (AW S.L who) 61 (0,0)) q=some (.cells (AW S.L who) 61 (0,0)):=AD _ _ _;clear hs4;revert L p D;generalize ins G3 q (.cells (AW S.L who) 61 (0,0))=G4;intro L p D;have hcc4:G4 c=some (.cells o.a 25 (0,0)):=AM (BX L);have k1:=λK=>A5 (K:=K) hcc4 (show o.a[1]?=some (.int .i64 gd)by rw[<-T];rfl);have k2:=λK=>A5 (K:=K) hcc4 (show o.a[2]?=some (.int .i64 o.am)from rfl);have d2:=λK=>A5 (K:=K) p (show old.a[2]?=some (.int .i64 old.pr)from rfl);have d3:=λK=>A5 (K:=K) p (show old.a[3]?=some (.int .i64 old.am)from rfl);have d5:=λK=>A5 (K:=K) p (show old.a[5]?=some (.bool old.buys)from rfl);have a0:=λK=>A5 (K:=K) D (show (AW S.L who)[0]?=some (.int .i64 (S.L.f who 0))from rfl);have a1:=λK=>A5 (K:=K) D (show (AW S.L who)[1]?=some (.int .i64 (S.L.f who 1))from rfl);have ag:=λK=>A5 (K:=K) D (Qx S.L who E);have al:=λK=>A5 (K:=K) D (Qw S.L who E);have b0:=Q.led.small.num who 0 X (by omega);have b1:=Q.led.small.num who 1 X (by omega);have b2:=Q.led.small.num who (2+gd) X (by omega)
   have b3:=Q.led.small.num who (6+gd) X (by omega);have C:IntKind.i64.wrap (S.L.f who 0-S.L.f who 1)=S.L.f who 0-S.L.f who 1:=w64 (by omega) (by omega);have P:IntKind.i64.wrap (S.L.f who (2+gd)-S.L.f who (6+gd))=S.L.f who (2+gd)-S.L.f who (6+gd):=w64 (by omega) (by omega);have p1:=Dc ⟨m6,m7⟩ (show 0<=o.am/\o.am<=1048576 from⟨by omega,m5⟩);have p2:=Dc (a:=old.pr) (b:=old.am) (A:=1099511627776) (B:=1048576) ⟨by omega,by omega⟩ ⟨by omega,by omega⟩;have z:IntKind.i64.wrap (t.p*o.am)=t.p*o.am:=w64 (by omega) (by omega);have y:IntKind.i64.wrap (old.pr*old.am)=old.pr*old.am:=w64 (by omega) (by omega);have w:IntKind.i64.wrap (t.p*o.am-old.pr*old.am)=t.p*o.am-old.pr*old.am:=w64 (by omega) (by omega);have v:IntKind.i64.wrap (o.am-old.am)=o.am-old.am:=w64 (by omega) (by omega);have hg':(gd:Int)<4:=by omega
   have HG4:=AJ HsN.mono L;have F4:=HG4.f
   -- once it is covered
   have V:∀f goods:Int,f=Cl old t.p o.am->goods=D8 old o.am->¬(S.L.f who 0-S.L.f who 1<f\/S.L.f who (2+gd)-S.L.f who (6+gd)<goods) ->
     A0 none (.pointer (some ⟨x,4,none⟩)) G4 λs=>AR 1 s (.int .i64 gd) λtt=>A0 none tt G4 λt99=>
     AA Tryz.prog 119 #[t99,.int .i64 t.id,.int .i64 who,.int .i64 t.p,.int .i64 o.am] G4 (λt105 h_22=>
     A6 Tryz.prog .neq 30 t105 (.int .i64 0) λt107=>
     dIf t107 (R (.ret (.tuple #[(.int .i64 0),t105])) h_22)
     (AA Tryz.prog 113 #[ptr x,.int .i64 who,.int .i64 f] h_22 (λt112 h_23=>
     A0 none (.pointer (some ⟨c,1,none⟩)) h_23 λt116=>
     AA Tryz.prog 117 #[ptr x,.int .i64 who,t116,.int .i64 goods] h_23 (λt118 h_24=>
     R (.ret (.tuple #[(.int .i64 0),(.int .i64 0)])) h_24)
     (λc h=>R (.pan c) h))
     (λc h=>R (.pan c) h)))
     (λc h=>R (.pan c) h):=λf goods u j Z=>by
    rw[u,j]at Z;rw[if_neg Z]at m;refine F4.book hn J ?_;obtain⟨C',hb1,hb2⟩:=HsN.book J L;refine cJ hb1 U.len U.nx λg2 Hg2=>?_;have H2:=hb2 _ _ _ Hg2;simp only[AK.elim,BB,AB]
    by_cases hr:(Bw (S.bk gd) t.id who t.p o.am).1=0
    ·rw[if_neg (by simp[hr])]at m
     simp only[hr,B6,Bool.not_true];refine nF ?_;have LX2:LX g2 x nm.l nm.lb S.L:=((AJ HsN.mono H2).f).lx;have hcb:-1152921504606846976<=f/\f<=1152921504606846976:=by rw[u];unfold Cl;split <;> omega
     have hgb:-1048576<=goods/\goods<=1048576:=by rw[j];unfold D8;split <;> omega
     refine Ka LX2 Q.led X (by omega) ?_;simp only[AK.elim];have I:=BK S.L who f;have H3:=HsN.led (L':=BN S.L who f) H2 I.1 I.2;have hcc3:=AM (BX H3);have LX3:=LX2.put I.1 I.2;rw[A5 hcc3 (show o.a[1]?=some (.int .i64 gd)by rw[<-T];rfl)];refine Ri LX3 (DS Q.led X _) (by rw[I.2];exact X) (by omega) ?_;simp only[AK.elim];have Y:=Cw (BN S.L who f) who gd goods;have H4:=HsN.led (L':=BY (BN S.L who f) who gd goods) H3 Y.1 Y.2;rw[u,j]at H4 ⊢;exact m _ (AJ HsN.mono H4)
    ·rw[if_pos hr]at m
     simp only[hr,BW,Bool.not_false];refine nT ?_;rw[Vg hr,Nx]at H2;exact m _ (AJ HsN.mono H2)
   have i:(S.L.f who 0-S.L.f who 1<Cl old t.p o.am\/S.L.f who (2+gd)-S.L.f who (6+gd)<D8 old o.am)->R (.ret (.tuple #[.int .i64 0,.int .i64 61])) G4:=λhp=>by
    rw[if_pos hp]at m;exact m _ HG4
   cases O:old.buys with
   | true=>
    have ec:Cl old t.p o.am=t.p*o.am-old.pr*old.am:=by unfold Cl;rw[O];rfl
    have eg:D8 old o.am=0:=by unfold D8;rw[O];rfl
    rw[ec,eg]at i;rw[ec,eg]at V
    by_cases W:S.L.f who 0-S.L.f who 1<t.p*o.am-old.pr*old.am
    ·simp[k2,z,d2,d3,y,w,d5,O,a0,a1,C,W,v]
     exact i (.inl W)
    ·by_cases c2:S.L.f who (2+gd)-S.L.f who (6+gd)<0
     ·simp[k2,z,d2,d3,y,w,d5,O,a0,a1,C,W,v,k1,E,ag,al,P,c2]
      exact⟨hg',i (.inr c2)⟩
     ·have:=V _ _ rfl rfl (by omega)
      simp[k2,z,d2,d3,y,w,d5,O,a0,a1,C,W,v,k1,E,ag,al,P,c2];exact⟨hg',by simpa using this⟩
   | false=>
    have ec:Cl old t.p o.am=0:=by unfold Cl;rw[O];rfl
    have eg:D8 old o.am=o.am-old.am:=by unfold D8;rw[O];rfl
    rw[ec,eg]at i;rw[ec,eg]at V
    by_cases W:S.L.f who 0-S.L.f who 1<0
    ·simp[k2,z,d2,d3,y,w,d5,O,a0,a1,C,W,v]
     exact i (.inl W)
    ·by_cases c2:S.L.f who (2+gd)-S.L.f who (6+gd)<o.am-old.am
     ·simp[k2,z,d2,d3,y,w,d5,O,a0,a1,C,W,v,k1,E,ag,al,P,c2]
      exact⟨hg',i (.inr c2)⟩
     ·have:=V _ _ rfl rfl (by omega)
      simp[k2,z,d2,d3,y,w,d5,O,a0,a1,C,W,v,k1,E,ag,al,P,c2];exact⟨hg',by simpa using this⟩
 ·rw[if_pos ht]at m
  simp only[ht,BW,Bool.not_false];exact⟨λ_=>m _ HG,λe=>absurd e (by simp)⟩
end
section
variable {h g:PH} {R:RT} {x:Nat} {nm:Nm} {S:Hs} {who:Nat} {o:OpV}
theorem ai (H:HsN x nm S h) (hn:nm.ok S) (u:S.ok) (Y:who<S.L.n) (ho:o.ok) (i:∀g,HsN x nm (DO S who o).2 g->R (.ret (.tuple #[.int .i64 0,.int .i64 (DO S who o).1])) g) :
  A7 Tryz.prog 76 #[ptr x,.int .i64 who,o.v] h R:=by
 refine na ?_;unfold pY K8 Pp N8 CO gGW ivW pnW;rw[show Value.cells o.v=o.a from rfl];have hcl:=u.cl;have hg:=u.g;refine AX λc hc=>?_;have n:(HsN x nm S•pt c (.cells o.a 25 (0,0))) (ins h c (.cells o.a 25 (0,0))):=BX (Ar (o:=.cells o.a 25 (0,0)) hc H);revert n;generalize ins h c (.cells o.a 25 (0,0))=G;intro n;have z:G c=some (.cells o.a 25 (0,0)):=AM (BX n);have V:=AJ HsN.mono n;have F:=V.f;have I:=λK=>A5 (K:=K) z (show o.a[1]?=some (.int .i64 o.good)from rfl);have X:=λK=>A5 (K:=K) z (show o.a[4]?=some (.int .i64 o.id)from rfl);have L:=λK=>A5 (K:=K) F.hx (show (GD nm S)[2]?=some (.int .i64 S.L.goods)from rfl);unfold DO at i
 by_cases C:S.L.goods<=o.good
 ·rw[if_pos (.inl C)]at i
  simp[I,L,C];exact i _ V
 by_cases T:1048576<o.id
 ·rw[if_pos (.inr T)]at i
  simp[I,L,C,X,T];exact i _ V
 rw[if_neg (by omega)]at i;have hid:=ho.id;have hgd0:=ho.good;obtain⟨gd,p⟩:∃gd:Nat,o.good=gd:=⟨o.good.toNat,by omega⟩;have m:gd<S.G:=by omega
 have N:IntKind.i64.wrap (o.id*16)=o.id*16:=w64 (by omega) (by omega);have M:IntKind.i64.wrap (o.id*16+who)=o.id*16+who:=w64 (by omega) (by omega);rw[p]at I C;rw[p,BR]at i;have s:=u.bk gd m;simp[I,L,C,X,T,N,M];refine F.book hn m ?_;refine Qp (F.bk gd m) s.len ?_;simp only[AK.elim,Av,Au];have t:=TR (l:=(S.bk gd).l) (id:=o.id*16+who);generalize Z:EZ (S.bk gd).l (o.id*16+who)=r at *;simp only at i;refine AX λd hd=>?_;refine AN (cs:=r.1.a) (AD _ _ _) (by rfl) (by rfl) (by cases r.1;rfl) ?_;rw[An];have j:(pt d (.cells r.1.a 78 (0,0))•HsN x nm S•pt c (.cells o.a 25 (0,0))) (ins G d (.cells r.1.a 78 (0,0))):=Ar hd n;revert j;generalize ins G d (.cells r.1.a 78 (0,0))=G3;intro j;rw[Es]at j;cases f:r.2 with
 | false=>
  rw[f]at i;simp only[if_true]at i;simp only[Bm,Bool.not_false,AB];exact⟨λ_=>i _ (AJ HsN.mono j),λe=>absurd e (by simp)⟩
 | true=>
  rw[f]at i;simp only[Bool.true_eq_false,if_false]at i;simp only[Bm,Bool.not_true,AB];refine nF ?_;have hrO:=Am.1 (s.right r.1 (t f));generalize r.1=old at *;have F3:=(AJ HsN.mono j).f;have w:G3 c=some (.cells o.a 25 (0,0)):=AM (BX (AF (A8 _ _) j));rw[A5 F3.hx (show (GD nm S)[4]?=some (.slice (some ⟨nm.bs,0,none⟩) S.G nm.bcap)from rfl)];rw[A5 w (show o.a[1]?=some (.int .i64 gd)by rw[<-p];rfl),B9];refine⟨by omega,by omega,?_⟩;rw[A5 F3.hb (v:=ptr (nm.ba gd)) (by simpa using hn.cb gd m)];obtain⟨C',P,O⟩:=HsN.book m j;refine YQ P s.len λQ U=>?_;have E:=O _ _ _ U;simp only[AK.elim];have q:Q d=some (.cells old.a 78 (0,0)):=AM (AF (A8 _ _) E);have y:Q c=some (.cells o.a 25 (0,0)):=AM (BX (AF (A8 _ _) E));have d2:=λK=>A5 (K:=K) q (show old.a[2]?=some (.int .i64 old.pr)from rfl);have d3:=λK=>A5 (K:=K) q (show old.a[3]?=some (.int .i64 old.am)from rfl);have d5:=λK=>A5 (K:=K) q (show old.a[5]?=some (.bool old.buys)from rfl);have k1:=λK=>A5 (K:=K) y (show o.a[1]?=some (.int .i64 gd)by rw[<-p];rfl);have D:LX Q x nm.l nm.lb S.L:=((AJ HsN.mono E).f).lx;have p2:=Dc (a:=old.pr) (b:=old.am) (A:=1099511627776) (B:=1048576) ⟨by omega,by omega⟩ ⟨by omega,by omega⟩;cases J:old.buys with
  | true=>
   rw[J]at i;simp only[if_true]at i;simp[d5,J,d2,d3];have hneg:-old.pr*old.am = -(old.pr*old.am):=Int.neg_mul _ _;rw[w64 (x:=-old.pr) (by omega) (by omega),w64 (by omega) (by omega)];refine Ka D u.led Y (by omega) ?_;simp only[AK.elim];have k:=BK S.L who (-old.pr*old.am);have W:=HsN.led (L':=BN S.L who (-old.pr*old.am)) E k.1 k.2;exact i _ (AJ HsN.mono W)
  | false=>
   rw[J]at i;simp only[Ba,if_false]at i;simp[d5,J,d3,k1];rw[w64 (x:=-old.am) (by omega) (by omega)];refine Ri D u.led Y (by omega) ?_;simp only[AK.elim];have k:=Cw S.L who gd (-old.am);have W:=HsN.led (L':=BY S.L who gd (-old.am)) E k.1 k.2;exact i _ (AJ HsN.mono W)
def FC (S:Hs) (who:Nat) (o:OpV):Int×Hs:=
 if S.L.goods<=o.good\/1048576<o.am then (1,S)else
 match S.au o.good.toNat with
 | none=>(3,S)
 | some (A,w)=>
  if w=who then (80,S)else
  let was:=(B4 A who).1
  let more:=max (was*A.last) (o.am*A.price)-Ae A who
  if 1<A.rnd/\was<o.am then (71,S)else
  if S.L.f who 0-S.L.f who 1<more then (61,S)else
  (0,(S.setAu o.good.toNat (some ((DZ A who o.am).2,w))).setL (BN S.L who more))
theorem pA (A:Auc) (who n:Int):(DZ A who n).2.n=A.n:=by
 unfold DZ
 repeat' split
 all_goals rfl
end
section
variable {h g:PH} {R:RT} {x:Nat} {nm:Nm} {S:Hs} {who:Nat} {o:OpV}
theorem QC {i:Nat} (hi:i<S.G):(FF nm S).extract (i*2) (i*2+2)=#[Bg nm S i,.int .i64 (CV S i)]:=by
 apply Array.ext_getElem?;intro j;rw[Array.getElem?_extract,Dz]
 rcases Nat.lt_or_ge j 2 with hj | hj
 ·rw[if_pos (by omega)]
  match j,hj with
  | 0,_=>rw[Nat.add_zero,RC hi];rfl
  | 1,_=>rw[W5 hi];rfl
 ·rw[if_neg (by omega),D1 (by simpa using hj)]
theorem HF.sale {K:Value->PH->Prop} (F:HF h x nm S) {i:Nat} (hi:i<S.G) (a:∀d,h d=none->K (ptr d) (ins h d (.cells #[Bg nm S i,.int .i64 (CV S i)] 98 (0,0)))) :
  A0 none (.pointer (some ⟨x,5,none⟩)) h λs=>AR 2 s (.int .i64 i) λt=>A0 (some 2) t h λv=>Ag #[.pointer none,.int .i64 0] 98 h λp e=>A9 2 p v e λc=>K p c:=by
 rw[A5 F.hx (show (GD nm S)[5]?=some (.slice (some ⟨nm.ss,0,none⟩) S.G S.G)from rfl),B9];refine⟨by omega,by omega,?_⟩;rw[show 0+(i:Int).toNat*2=i*2 by omega,AI F.hs (by rw[Dz];omega),QC hi];refine AX λd b=>?_;refine AN (cs:=#[Bg nm S i,.int .i64 (CV S i)]) (AD _ _ _) (by rfl) (by rfl) (by unfold Bg;cases S.au i <;> rfl) ?_;rw[An];exact a d b
theorem mu (H:HsN x nm S h) (hn:nm.ok S) (E:S.ok) (hw:who<S.L.n) (ho:o.ok) (b:∀g,HsN x nm (FC S who o).2 g->R (.ret (.tuple #[.int .i64 0,.int .i64 (FC S who o).1])) g) :
  A7 Tryz.prog 73 #[ptr x,.int .i64 who,o.v] h R:=by
 refine ng ?_;unfold pg K8 Pp N8 gAW gGW ivW pnW;rw[show Value.cells o.v=o.a from rfl];have hcl:=E.cl;have hg:=E.g;refine AX λc hc=>?_;have m:(HsN x nm S•pt c (.cells o.a 25 (0,0))) (ins h c (.cells o.a 25 (0,0))):=BX (Ar (o:=.cells o.a 25 (0,0)) hc H);revert m;generalize ins h c (.cells o.a 25 (0,0))=G;intro m;have M:G c=some (.cells o.a 25 (0,0)):=AM (BX m);have HG:=AJ HsN.mono m;have F:=HG.f;have T:=λK=>A5 (K:=K) M (show o.a[1]?=some (.int .i64 o.good)from rfl);have l2:=λK=>A5 (K:=K) M (show o.a[2]?=some (.int .i64 o.am)from rfl);have W:=λK=>A5 (K:=K) F.hx (show (GD nm S)[2]?=some (.int .i64 S.L.goods)from rfl);unfold FC at b
 by_cases Q:S.L.goods<=o.good
 ·rw[if_pos (.inl Q)]at b
  simp[T,W,Q];exact b _ HG
 by_cases c2:1048576<o.am
 ·rw[if_pos (.inr c2)]at b
  simp[T,W,Q,l2,c2];exact b _ HG
 rw[if_neg (by omega)]at b;have ham:=ho.am;have hgd0:=ho.good;obtain⟨gd,J⟩:∃gd:Nat,o.good=gd:=⟨o.good.toNat,by omega⟩;have r:gd<S.G:=by omega
 rw[J]at T Q;rw[J,BR]at b;simp[T,W,Q,l2,c2];refine F.sale r λd hd=>?_;have l:(HsN x nm S•pt c (.cells o.a 25 (0,0))) (ins G d (.cells #[Bg nm S gd,.int .i64 (CV S gd)] 98 (0,0))):=EF m (AT _ hd);have i:ins G d (.cells #[Bg nm S gd,.int .i64 (CV S gd)] 98 (0,0)) d=some (.cells #[Bg nm S gd,.int .i64 (CV S gd)] 98 (0,0)):=AD _ _ _;revert l i;generalize ins G d (.cells #[Bg nm S gd,.int .i64 (CV S gd)] 98 (0,0))=G3;intro l i;have q:=AJ HsN.mono l;cases f:S.au gd with
 | none=>
  rw[f]at b;have hP:Bg nm S gd = .pointer none:=by unfold Bg;rw[f]
  simp only[AH,Ad];rw[A5 i (v:=.pointer none) (by rw[hP];rfl),M4 Tryz.underlying96];rw[AB];exact⟨λ_=>b _ q,λe=>absurd e (by simp)⟩
 | some p=>
  obtain⟨A,w⟩:=p;rw[f]at b;simp only at b;obtain⟨j,hA0,hAn,hw0,hwn⟩:=E.au gd A w r f;have hP:Bg nm S gd=ptr (nm.aa gd):=by unfold Bg;rw[f]
  have hW:CV S gd=w:=by unfold CV;rw[f]
  rw[hP,hW]at i;have F3:=q.f;have C:Cm G3 (nm.aa gd) (nm.ab gd) A:=F3.au gd (A,w) r f;have d0:=λK=>A5 (K:=K) i (show (#[ptr (nm.aa gd),.int .i64 w]:Array Value)[0]?=some (ptr (nm.aa gd))from rfl);have d1:=λK=>A5 (K:=K) i (show (#[ptr (nm.aa gd),.int .i64 w]:Array Value)[1]?=some (.int .i64 w)from rfl)
  have dd:∀K,A0 (some 2) (.pointer (some ⟨d,0,none⟩)) G3 K↔K (.agg #[ptr (nm.aa gd),.int .i64 w]):=λK=>by
   rw[AI i (off:=0) (n:=2) (by show 0+2<=2;omega),show (#[ptr (nm.aa gd),.int .i64 w]:Array Value).extract 0 (0+2)=#[ptr (nm.aa gd),.int .i64 w]from rfl]
  have L:G3 c=some (.cells o.a 25 (0,0)):=AM (BX l);have z:=λK=>A5 (K:=K) L (show o.a[2]?=some (.int .i64 o.am)from rfl)
  by_cases V:w=who
  ·rw[if_pos V]at b
   simp[d0,As Tryz.underlying96,d1,V];exact b _ q
  rw[if_neg V]at b;simp[d0,As Tryz.underlying96,d1,V];have D:=M1 j who;have Z:=Jf j;have X:=j.priceB;have hnb:=Dr j who;have m1:=Dc (B:=1099511627776) ⟨D.1,D.2.1⟩ Z;have m2:=Dc (a:=o.am) (A:=1048576) (B:=1099511627776) ⟨ham.1,by omega⟩ X;refine JL C ?_;simp only[AK.elim,Av,Au,dd];refine VK C j ?_;simp only[AK.elim,d0,z];refine P0 C j ?_;simp only[AK.elim,z,d0,true_and,CG];rw[w64 (by omega) (by omega)];refine EN C j ?_;simp only[AK.elim,z,true_and,CG,E7,if_true,Ao,d0];rw[w64 (x:=o.am*A.price) (by omega) (by omega)];have P:(if o.am*A.price>(B4 A who).1*A.last then o.am*A.price else (B4 A who).1*A.last)=max ((B4 A who).1*A.last) (o.am*A.price):=by split <;> omega
  rw[P];have mb:0<=max ((B4 A who).1*A.last) (o.am*A.price)/\max ((B4 A who).1*A.last) (o.am*A.price)<=1152921504606846976:=by omega
  rw[w64 (by omega) (by omega)];generalize Y:max ((B4 A who).1*A.last) (o.am*A.price)-Ae A who=more at *;refine Tj C ?_;simp only[AK.elim]
  have s:¬(1<A.rnd/\(B4 A who).1<o.am)->AA Tryz.prog 111 #[ptr x,.int .i64 who] G3 (λt77 k=>
    A6 Tryz.prog .gtr 3 (.int .i64 more) t77 λt78=>
    dIf t78 (R (.ret (.tuple #[(.int .i64 0),(.int .i64 61)])) k)
    (A0 none (.pointer (some ⟨d,0,none⟩)) k λt80=>
    A0 none (.pointer (some ⟨c,2,none⟩)) k λt83=>
    AA Tryz.prog 112 #[t80,.int .i64 who,t83] k (λt84 O=>
    AA Tryz.prog 113 #[ptr x,.int .i64 who,.int .i64 more] O (λt88 N=>
    R (.ret (.tuple #[(.int .i64 0),(.int .i64 0)])) N)
    (λc h=>R (.pan c) h))
    (λc h=>R (.pan c) h)))
    (λc h=>R (.pan c) h):=λt=>by
   rw[if_neg t]at b;refine ah F3.lx E.led hw ?_;simp only[AK.elim,At,AB,CF,D9];refine⟨λy=>?_,λu=>?_⟩
   ·rw[if_pos y]at b
    exact b _ q
   ·rw[if_neg u]at b
    rw[d0,z];refine Qj C ?_;simp only[AK.elim];have H4:=HsN.auc (B:=(DZ A who o.am).2) r f l;have LX4:=((AJ HsN.mono H4).f).lx;refine Ka LX4 E.led hw (by omega) ?_;simp only[AK.elim];have I:=BK S.L who more;have H5:=HsN.led (L':=BN S.L who more) H4 I.1 I.2;exact b _ (AJ HsN.mono H5)
  by_cases U:1<A.rnd
  ·by_cases c5:(B4 A who).1<o.am
   ·rw[if_pos ⟨U,c5⟩]at b
    simp[U,z,c5];exact b _ q
   ·have:=s (by omega)
    simp[U,z,c5];exact this
  ·have:=s (by omega)
   simp[U];exact this
end
def Nm.auc (nm:Nm) (i a b:Nat):Nm:={nm with aa:=λk=>if k=i then a else nm.aa k,ab:=λk=>if k=i then b else nm.ab k}
def Dq (S:Hs) (who:Nat) (o:OpV):Int×Hs:=
 if S.L.goods<=o.good then (1,S)else
 if (B8 o.price).2≠0 then ((B8 o.price).2,S)else
 if ¬(1<=o.am/\o.am<=1048576/\0<=(B8 o.price).1/\(B8 o.price).1<=1099511627776/\1<=o.side/\o.side<=1099511627776/\1<=(S.L.n:Int)/\(S.L.n:Int)<=16)then (1,S)else
 if (S.au o.good.toNat).isSome then (63,S)else
 if (CH S.L who o.good o.am).1≠0 then ((CH S.L who o.good o.am).1,S)else
 (0,(S.setAu o.good.toNat (some (CS o.am (B8 o.price).1 o.side S.L.n,who))).setL (CH S.L who o.good o.am).2)
section
variable {h g:PH} {R:RT} {x:Nat} {nm:Nm} {S:Hs} {who:Nat} {o:OpV} {C:PH->Prop} {A:Auc}
theorem jN {a b:Nat} (l:h a=none) (k:h b=none) (j:Sub h g) (d:Cm g a b A) (m:C h):(NG a b A•C) g:=by
 refine⟨ins (one b (.cells (C8 A) 157 (0,0))) a (.cells (KK A b) 155 (0,0)),h,λx f=>?_,λx p c=>?_,j,⟨AD _ _ _,?_⟩,m⟩
 ·by_cases e:x=a
  ·rw[e];exact l
  ·rw[Aq _ _ e]at f
   by_cases i:x=b
   ·rw[i];exact k
   ·exact absurd (by unfold one;rw[Aq _ _ i]) f
 ·by_cases e:x=a
  ·subst e;rw[AD]at c;cases c;exact d.ha
  ·rw[Aq _ _ e]at c
   exact Ja d.hb x p c
 ·rw[Aq _ _ d.ne.symm];exact AD _ _ _
theorem Si {S:Hs} {k:Nat} (a:k<S.G*2):(FF nm S)[k]?=some (if k%2=0 then Bg nm S (k/2)else .int .i64 (CV S (k/2))):=by
 unfold FF;rw[Array.getElem?_ofFn,dif_pos a]
theorem QB {nm':Nm} {S':Hs} {i:Nat} (hi:i<S.G) (c:S'.G=S.G) (f:∀k,k≠i->Bg nm' S' k=Bg nm S k) (d:∀k,k≠i->CV S' k=CV S k) :
  wr (FF nm S) (i*2) [Bg nm' S' i,.int .i64 (CV S' i)]=FF nm' S':=by
 apply Array.ext_getElem?;intro k;rw[EH,Dz]
 rcases Nat.lt_or_ge k (S.G*2)with hk | hk
 ·rw[Si (nm:=nm') (S:=S') (by rw[c];exact hk)]
  simp only[List.length_cons,List.length_nil]
  by_cases e:i*2<=k/\k<i*2+2
  ·rw[if_pos ⟨e.1,e.2,hk⟩]
   rcases (by omega:k=i*2\/k=i*2+1)with rfl | rfl
   ·rw[show i*2-i*2=0 by omega,if_pos (by omega),show i*2/2=i by omega];rfl
   ·rw[show i*2+1-i*2=1 by omega,if_neg (by omega),show (i*2+1)/2=i by omega];rfl
  ·rw[if_neg (λb=>e ⟨b.1,b.2.1⟩),Si hk]
   have a:k/2≠i:=by omega
   rw[f _ a,d _ a]
 ·rw[if_neg (by omega),D1 (by rw[Dz];exact hk),D1 (by rw[Dz,c];exact hk)]
theorem HsN.offer {i a b:Nat} {w:Int} (hi:i<S.G) (q:S.au i=none) (H:(NG a b A•HsN x nm S•C) h) :
  (HsN x (nm.auc i a b) (S.setAu i (some (A,w)))•C) (ins h nm.ss (saO (nm.auc i a b) (S.setAu i (some (A,w))))):=by
 have e:∀(A n m l j f d C:PH->Prop),A•(n•m•l•j•f•d)•C=j•(A•d)•((n•m•l•f)•C):=λ_ _ _ _ _ _ _ _=>by ac_rfl
 have y:∀(n m l j f d C:PH->Prop),(n•m•l•j•f•d)•C=j•d•((n•m•l•f)•C):=λ_ _ _ _ _ _ _=>by ac_rfl
 unfold HsN at H ⊢;rw[e]at H;rw[y];have v:(S.setAu i (some (A,w))).G=S.G:=rfl;have c:∀(nm':Nm) (S':Hs),CA (auP nm' S') S.G=auP nm' S' i•CA (upA (auP nm' S') i emp) S.G:=λnm' S'=>FZ hi (auP.mono i);have u:auP nm S i=emp:=by unfold auP;rw[q]
 have t:auP (nm.auc i a b) (S.setAu i (some (A,w))) i=NG a b A:=by unfold auP Hs.setAu Nm.auc;simp
 have s:upA (auP (nm.auc i a b) (S.setAu i (some (A,w)))) i emp=upA (auP nm S) i emp:=by
  funext k
  unfold upA
  split
  ·rfl
  ·rename_i p;unfold auP Hs.setAu Nm.auc;simp[p]
 rw[c nm S,u]at H;rw[v,c,t,s];have r:emp•CA (upA (auP nm S) i emp) S.G=CA (upA (auP nm S) i emp) S.G:=by rw[I7,Ie (Gu _ _)]
 rw[r]at H;exact Bb H
theorem HsN.close {i:Nat} (hi:i<S.G) (H:(HsN x nm S•C) h):(HsN x nm (S.setAu i none)•C) (ins h nm.ss (saO nm (S.setAu i none))):=by
 have s:∀(m l j f e d C:PH->Prop),(m•l•j•f•e•d)•C=f•d•((m•l•j•e)•C):=λ_ _ _ _ _ _ _=>by ac_rfl
 unfold HsN at H ⊢;rw[s]at H ⊢;have r:(S.setAu i none).G=S.G:=rfl;have a:∀(nm':Nm) (S':Hs),CA (auP nm' S') S.G=auP nm' S' i•CA (upA (auP nm' S') i emp) S.G:=λnm' S'=>FZ hi (auP.mono i);have q:auP nm (S.setAu i none) i=emp:=by unfold auP Hs.setAu;simp
 have c:upA (auP nm (S.setAu i none)) i emp=upA (auP nm S) i emp:=by
  funext k
  unfold upA
  split
  ·rfl
  ·rename_i b;unfold auP Hs.setAu;simp[b]
 rw[a nm S]at H;rw[r,a,q,c];have t:=Bb (p:=saO nm (S.setAu i none)) H;exact AU t (λ_ h=>h) λ_ n=>AU n (λ_ c=>AU c (λ_ _=>trivial) λ_ h=>h) λ_ h=>h
theorem Xq {L:Led} {i:Nat} {g n:Int} (h:(CH L i g n).1≠0):(CH L i g n).2=L:=by
 unfold CH at h ⊢
 repeat' split
 all_goals first | rfl | (exfalso;simp_all)
theorem LM (L:Led) (i:Nat) (g n:Int):(CH L i g n).2.goods=L.goods/\(CH L i g n).2.n=L.n:=by
 unfold CH
 repeat' split
 all_goals exact⟨rfl,rfl⟩
theorem fc (H:HsN x nm S h) (r:nm.ok S) (s:S.ok) (hw:who<S.L.n) (ho:o.ok) (b:∀g nm',HsN x nm' (Dq S who o).2 g->nm'.ok (Dq S who o).2->R (.ret (.tuple #[.int .i64 0,.int .i64 (Dq S who o).1])) g) :
  A7 Tryz.prog 72 #[ptr x,.int .i64 who,o.v] h R:=by
 refine nh ?_;unfold ph K8 N8 ivW pnW;rw[show Value.cells o.v=o.a from rfl];have hcl:=s.cl;have hg:=s.g;refine AX λc hc=>?_;have l:(HsN x nm S•pt c (.cells o.a 25 (0,0))) (ins h c (.cells o.a 25 (0,0))):=BX (Ar (o:=.cells o.a 25 (0,0)) hc H);revert l;generalize ins h c (.cells o.a 25 (0,0))=G;intro l;have d:G c=some (.cells o.a 25 (0,0)):=AM (BX l);have P:=AJ HsN.mono l;have F:=P.f;have lo:=λ{G':PH} (d:G' c=some (.cells o.a 25 (0,0))) (j:Nat) (v:Value) (hv:o.a[j]?=some v) (K:Value->Prop)=>A5 (K:=K) d hv;have l1:=lo d 1 (.int .i64 o.good) rfl;have l2:=lo d 2 (.int .i64 o.am) rfl;have l3:=lo d 3 (.int .i64 o.side) rfl;have l5:=lo d 5 (.float .f64 o.price) rfl;have T:=λK=>A5 (K:=K) F.hx (show (GD nm S)[2]?=some (.int .i64 S.L.goods)from rfl);have U:=λK=>A5 (K:=K) F.hx (show (GD nm S)[1]?=some (.int .i64 S.L.n)from rfl);unfold Dq at b;simp only[BO,AH,Ad,l1,T,By,AB,CF,D9];refine⟨λc1=>?_,λc1=>?_⟩
 ·rw[if_pos c1]at b
  exact b _ nm P r
 rw[if_neg c1]at b;rw[l5];refine Sa ho.price ?_;simp only[AK.elim,Av,Au,BB,AB]
 by_cases N:(B8 o.price).2=0
 rotate_left
 ·rw[if_pos N]at b
  simp only[N,BW,Bool.not_false];exact⟨λ_=>b _ nm P r,λe=>absurd e (by simp)⟩
 rw[if_neg (by simp[N])]at b;simp only[N,B6,Bool.not_true];refine nF ?_;rw[l2,l3,U]
 by_cases M:(1<=o.am/\o.am<=1048576/\0<=(B8 o.price).1/\(B8 o.price).1<=1099511627776/\1<=o.side/\o.side<=1099511627776/\1<=(S.L.n:Int)/\(S.L.n:Int)<=16)
 rotate_left
 ·rw[if_pos M]at b
  refine Pr M ?_;simp[AK.elim];exact b _ nm P r
 rw[if_neg (λV=>V M)]at b;refine Rx M λa O g3 ha W E hA3=>?_;have z:(NG a O (CS o.am (B8 o.price).1 o.side S.L.n)•HsN x nm S•pt c (.cells o.a 25 (0,0))) g3:=jN ha W E hA3 l;have L:HsN x nm S g3:=AJ HsN.mono (AF (A8 _ _) z);have Q:=L.f;have q:g3 c=some (.cells o.a 25 (0,0)):=E _ _ d;obtain⟨gd,u⟩:∃gd:Nat,o.good=gd:=⟨o.good.toNat,by have:=ho.good;omega⟩;have y:gd<S.G:=by omega
 have k1:=lo q 1 (.int .i64 gd) (by rw[<-u];rfl);have k2:=lo q 2 (.int .i64 o.am) rfl;rw[u,BR]at b;simp only[AK.elim,Av,Au,BB,B6,Bool.not_true,AB];refine nF ?_;rw[A5 Q.hx (show (GD nm S)[5]?=some (.slice (some ⟨nm.ss,0,none⟩) S.G S.G)from rfl),k1,B9];refine⟨by omega,by omega,?_⟩;rw[AH,A5 Q.hs (v:=Bg nm S gd) (by have:=RC (nm:=nm) y;simpa using this)];cases f:S.au gd with
 | some p=>
  rw[f]at b;have Z:Bg nm S gd=ptr (nm.aa gd):=by unfold Bg;rw[f]
  rw[Z,JP Tryz.underlying96,AB];exact⟨λ_=>b _ nm L r,λe=>absurd e (by simp)⟩
 | none=>
  rw[f]at b;simp only[Option.isSome_none,Ba,if_false]at b;have Z:Bg nm S gd = .pointer none:=by unfold Bg;rw[f]
  rw[Z,J1 Tryz.underlying96,AB];refine nF ?_;rw[Q.lx.ld,k1,k2];refine WR Q.hl s.led.small hw ?_;simp only[AK.elim,BB,AB];have t:=LM S.L who gd o.am;rw[Es]at z;have D:=HsN.led (L':=(CH S.L who gd o.am).2) z t.1 t.2
  by_cases J:(CH S.L who gd o.am).1=0
  rotate_left
  ·rw[if_pos J]at b
   simp only[J,BW,Bool.not_false];refine nT ?_;rw[Xq J]at D ⊢;exact b _ nm (AJ HsN.mono D) r
  rw[if_neg (by simp[J])]at b;simp only[J,B6,Bool.not_true];refine nF ?_;have F4:=(AJ HsN.mono D).f;have I:=AM (BX (AF (A8 _ _) D));have B:(S.setL (CH S.L who gd o.am).2).G=S.G:=by unfold Hs.G Hs.setL;rw[t.1]
  rw[A5 F4.hx (show (GD nm (S.setL (CH S.L who gd o.am).2))[5]?=some (.slice (some ⟨nm.ss,0,none⟩) (S.setL (CH S.L who gd o.am).2).G (S.setL (CH S.L who gd o.am).2).G)from rfl)];rw[lo I 1 (.int .i64 gd) (by rw[<-u];rfl)];refine⟨#[ptr a,.int .i64 who],rfl,?_⟩;refine (B9 _ _ _ _ _ _ _).2 ⟨by omega,by rw[B];omega,?_⟩;rw[Es]at D;have H5:=HsN.offer (S:=S.setL (CH S.L who gd o.am).2) (w:=who) (by rw[B];exact y) f D;rw[show 0+(gd:Int).toNat*2=gd*2 by omega];rw[Hx (n:=2) (v:=.agg #[ptr a,.int .i64 who]) F4.hs rfl (by rw[Dz,B];omega) (by rfl)];have Y:Bg (nm.auc gd a O) ((S.setL (CH S.L who gd o.am).2).setAu gd (some (CS o.am (B8 o.price).1 o.side S.L.n,(who:Int)))) gd=ptr a:=by unfold Bg Hs.setAu Nm.auc;simp
  have X:CV ((S.setL (CH S.L who gd o.am).2).setAu gd (some (CS o.am (B8 o.price).1 o.side S.L.n,(who:Int)))) gd=who:=by unfold CV Hs.setAu;simp
  have m:=QB (nm:=nm) (S:=S.setL (CH S.L who gd o.am).2) (nm':=nm.auc gd a O) (S':=(S.setL (CH S.L who gd o.am).2).setAu gd (some (CS o.am (B8 o.price).1 o.side S.L.n,(who:Int)))) (i:=gd) (by rw[B];exact y) rfl
   (λk s=>by unfold Bg Hs.setAu Nm.auc;simp[s]) (λk s=>by unfold CV Hs.setAu;simp[s])
  rw[Y,X]at m;rw[show (Value.agg #[ptr a,.int .i64 who]).cells.toList = [ptr a,.int .i64 who]from rfl,m];refine b _ (nm.auc gd a O) (AJ HsN.mono H5) ⟨λi hi=>r.cb i ?_,?_⟩
  ·have:((S.setAu gd (some (CS o.am (B8 o.price).1 o.side S.L.n,(who:Int)))).setL (CH S.L who gd o.am).2).G=S.G:=B
   rw[this]at hi;exact hi
  ·have:((S.setAu gd (some (CS o.am (B8 o.price).1 o.side S.L.n,(who:Int)))).setL (CH S.L who gd o.am).2).G=S.G:=B
   rw[this];exact r.cap
end
def FO (s:Value) (l:List Fil):PH->Prop:=λh=>(l = []/\∃p cap,s = .slice p 0 cap) \/
 ∃g off cap c,s = .slice (some ⟨g,off,none⟩) l.length cap/\l.length<=cap/\h g=some (.cells c 218 (0,0))/\off+l.length*3<=c.size/\∀i f,l[i]?=some f->∀j,j<3->c[off+i*3+j]?=f.cells[j]?
def Kt:Value->Value
 | .slice p len cap=>.slice (if cap=1 then p else p.map (·.add (1*3))) (len-1) (cap-1)
 | v=>v
section
variable {h g:PH} {R:RT} {s:Value} {l r:List Fil} {f:Fil} {C:PH->Prop}
theorem FO.mono:C3 (FO s l):=λh g b H=>by
 rcases H with a | ⟨q,off,cap,c,a1,a2,a3,a4⟩
 ·exact .inl a
 ·exact .inr ⟨q,off,cap,c,a1,a2,b _ _ a3,a4⟩
theorem FO.len (H:FO s l h):∃p cap,s = .slice p l.length cap:=by
 rcases H with⟨rfl,p,cap,rfl⟩ | ⟨q,off,cap,c,a,_⟩
 ·exact⟨p,cap,rfl⟩
 ·exact⟨_,_,a⟩
theorem FO.of (H:OS 218 3 s l.length (DR l) h):FO s l h:=by
 rcases H.buf with⟨b,a,_⟩ | ⟨g,c,cap,b,a,n,m,k⟩
 ·exact .inl ⟨List.eq_nil_of_length_eq_zero a,none,0,b⟩
 ·refine .inr ⟨g,0,cap,c,b,m,a,by omega,λi f d j e=>?_⟩
  have hi:i<l.length:=(Bc.1 d).1;rw[<-Jo l i f d j e,<-k,List.getElem?_take,if_pos (by omega),Array.getElem?_toList,Ad]
theorem FO.tail (H:FO s (f::r) h):FO (Kt s) r h:=by
 rcases H with⟨p,_⟩ | ⟨q,off,cap,c,rfl,o,n,m,k⟩
 ·cases p
 ·simp only[List.length_cons]at o m
  unfold Kt;simp only[List.length_cons,Nat.add_sub_cancel]
  by_cases e:cap=1
  ·have a:r = []:=List.eq_nil_of_length_eq_zero (by omega)
   subst a;exact .inl ⟨rfl,_,_,rfl⟩
  ·rw[if_neg e]
   refine .inr ⟨q,off+3,cap-1,c,?_,by omega,n,by omega,λi t d j b=>?_⟩
   ·rfl
   ·rw[show off+3+i*3+j=off+(i+1)*3+j by omega]
    exact k (i+1) t (by simpa using d) j b
theorem We {K:Value->Prop} (H:FO s (f::r) h) (d:K (Kt s)):vSl 3 (some (.int .i64 1)) none s K:=by
 obtain⟨p,cap,rfl⟩:=H.len
 have a:(f::r).length<=cap:=by
  rcases H with⟨b,_⟩ | ⟨q,off,e,c,b,i,_⟩
  ·cases b
  ·cases b;exact i
 simp only[List.length_cons]at a;refine⟨p,_,cap,rfl,?_⟩;simp only[CK];refine⟨_,_,rfl,by omega,by simp only[List.length_cons];omega,?_⟩;unfold Kt at d;exact d
theorem Mu {K:Value->Prop} (H:FO s (f::r) h) {j:Nat} {v:Value} (a:f.a[j]?=some v) (b:K v):AR 3 s (.int .i64 0) λt=>vFA j t λt=>A0 none t h K:=by
 rcases H with⟨m,_⟩ | ⟨q,off,cap,c,rfl,o,k,n,i⟩
 ·cases m
 ·have d:j<3:=by
   rcases Nat.lt_or_ge j 3 with h | h
   ·exact h
   ·rw[D1 (show f.a.size<=j from h)]at a;cases a
  rw[B9];refine⟨by omega,by simp only[List.length_cons];omega,?_⟩;have e:=i 0 f rfl j d
  rw[AH,A5 k (v:=v) (by
   rw[show off+(0:Int).toNat*3+j=off+0*3+j by omega,e,<-a,show f.cells=f.a.toList from rfl,Array.getElem?_toList])]
  exact b
theorem lj {K:PH->Prop} {v:Int} (H:(FO s (f::r)•C) h) (u:∀g,(FO s ({f with am:=v} :: r)•C) g->K g):AR 3 s (.int .i64 0) λt=>vFA 2 t λt=>A9 1 t (.int .i64 v) h K:=by
 have E:=AJ FO.mono H
 rcases E with⟨k,_⟩ | ⟨q,off,cap,c,rfl,F,y,x,n⟩
 ·cases k
 ·simp only[List.length_cons]at x
  rw[B9];refine⟨by omega,by simp only[List.length_cons];omega,?_⟩;rw[AH,show off+(0:Int).toNat*3+2=off+2 by omega,Aw y (by omega) rfl];refine u _ (NP H λk D=>?_)
  rcases D with⟨e,_⟩ | ⟨q1,m,p,B,e,z,o,I,G⟩
  ·cases e
  ·cases e
   have w:k q=some (.cells B 218 (0,0)):=o;refine⟨⟨_,o⟩,.inr ⟨q,off,cap,_,rfl,z,AD _ _ _,by rw[Array.size_setIfInBounds];simp only[List.length_cons];omega,λi A a j d=>?_⟩⟩
   by_cases e:off+i*3+j=off+2
   ·have hi:i=0:=by omega
    have b:j=2:=by omega
    subst hi;subst b;simp only[List.getElem?_cons_zero,Option.some.injEq]at a;subst a;rw[show off+0*3+2=off+2 by omega,Array.getElem?_setIfInBounds_self_of_lt (by omega)]
    rfl
   ·rw[Array.getElem?_setIfInBounds_ne (λh=>e h.symm)]
    match i,a with
    | 0,a=>
     simp only[List.getElem?_cons_zero,Option.some.injEq]at a;subst a;rw[n 0 f rfl j d]
     match j,d,e with
     | 0,_,_=>rfl
     | 1,_,_=>rfl
     | 2,_,e=>exact absurd (by omega) e
    | i+1,a=>exact n (i+1) A (by simpa using a) j d
end
def CD (gd p:Int):Nat->Led->List Fil->List Fil->Led
 | 0,L,_,_=>L
 | _+1,L,[],_=>L
 | _+1,L,_::_,[]=>L
 | k+1,L,b::bs,s::ss=>
  CD gd p k (BJ L s.own.toNat b.own.toNat gd p (min b.am s.am)) (if b.am-min b.am s.am=0 then bs else {b with am:=b.am-min b.am s.am} :: bs)
   (if s.am-min b.am s.am=0 then ss else {s with am:=s.am-min b.am s.am} :: ss)
theorem Ff (gd p:Int) (k:Nat) (L:Led) (l:List Fil):CD gd p k L [] l=L:=by cases k <;> rfl
theorem HR (gd p:Int) (k:Nat) (L:Led) (l:List Fil):CD gd p k L l []=L:=by
 cases k
 ·rfl
 ·cases l <;> rfl
theorem EU (L:Led) (s b:Nat) (g p n:Int):(BJ L s b g p n).goods=L.goods/\(BJ L s b g p n).n=L.n:=by
 unfold BJ GS EG GO D6
 repeat' split
 all_goals exact⟨rfl,rfl⟩
theorem Et {L:Led} (h:Inv L) {s b:Nat} (a:s<L.n) (c:b<L.n) (g p n:Int):Inv (BJ L s b g p n):=by
 have e:Inv (EG L s b g n).2:=TM h a c
 have d:(EG L s b g n).2.n=L.n:=by
  unfold EG D6
  repeat' split
  all_goals rfl
 unfold BJ
 split
 ·split
  ·exact aN e (by rw[d];exact c) (by rw[d];exact a)
  ·exact e
 ·exact h
def BH (n:Nat) (l:List Fil):Prop:=∀f∈l,0<=f.own/\f.own<n/\1<=f.am/\f.am<=1048576
theorem BH.next {n:Nat} {f:Fil} {r:List Fil} {m:Int} (h:BH n (f::r)) (b:0<m/\m<=f.am):BH n (if f.am-m=0 then r else {f with am:=f.am-m} :: r):=by
 split
 ·exact λx a=>h x (by simp[a])
 ·intro x a
  rcases List.mem_cons.1 a with rfl | a
  ·have:=h f (by simp)
   simp only;omega
  ·exact h x (by simp[a])
section
variable {h g:PH} {R:RT} {x:Nat} {nm:Nm} {S:Hs} {C:PH->Prop}
theorem Zy {gd:Nat} {p:Int} {bu y:List Fil} {sb ss:Value} {R:RT} {x4:Unit->PH->Prop} (H:(HsN x nm S•FO sb bu•FO ss y•C) h) (hv:Inv S.L) (hp:0<=p/\p<=1099511627776) (hbu:BH S.L.n bu) (hse:BH S.L.n y)
  (hX:∀g,HsN x nm (S.setL (CD gd p (bu.length+y.length) S.L bu y)) g->x4 () g) :
  lf (Lt (λc h=>R (.pan c) h) x4) (ptr x,.int .i64 gd,.int .i64 p) (sb,ss) h:=by
 refine AL (λm s' g=>∃(L:Led) (q i:List Fil) (l a:Value),s'=(l,a)/\q.length+i.length<=m/\L.n=S.L.n/\L.goods=S.L.goods/\Inv L/\BH S.L.n q/\BH S.L.n i /\
   CD gd p m L q i=CD gd p (bu.length+y.length) S.L bu y/\(HsN x nm (S.setL L)•FO l q•FO a i•C) g) (bu.length+y.length)
  ⟨S.L,bu,y,sb,ss,rfl,Nat.le_refl _,rfl,rfl,hv,hbu,hse,rfl,H⟩ ?_
 rintro m s' g ⟨L,q,i,l,a,rfl,hm,hLn,hLg,hLv,hb',hs',hM,Hg⟩;have J:FO l q g:=AJ FO.mono (AF (A8 _ _) Hg);have I:FO a i g:=AJ FO.mono (AF (A8 _ _) (AF (A8 _ _) Hg));have HH:HsN x nm (S.setL L) g:=AJ HsN.mono Hg;obtain⟨pb,cb,hsb⟩:=J.len;obtain⟨ps,cs,hss⟩:=I.len;have lb:∀K:Value->Prop,Ap l K↔K (.int .i64 q.length):=λK=>by rw[hsb];simp
 have M:∀K:Value->Prop,Ap a K↔K (.int .i64 i.length):=λK=>by rw[hss];simp
 have key:∀(T:V3->V2->PH->Prop),(∀(L2:Led) (d t:List Fil) (f z:Value) (Q:Nat) (g2:PH),Q<m->d.length+t.length<=Q->L2.n=S.L.n->L2.goods=S.L.goods->Inv L2->BH S.L.n d->BH S.L.n t ->
   CD gd p Q L2 d t=CD gd p (bu.length+y.length) S.L bu y->(HsN x nm (S.setL L2)•FO f d•FO z t•C) g2->T (ptr x,.int .i64 gd,.int .i64 p) (f,z) g2) ->
   Lt (λc h=>R (.pan c) h) x4 (ptr x,.int .i64 gd,.int .i64 p) T (l,a) g:=by
  intro T W;unfold Lt gAW gGW ivW
  match q,i,hm,hb',hs',hM,Hg,J,I,lb,M with
  | [],i,hm,hb',hs',hM,Hg,J,I,lb,M=>
   rw[Ff]at hM;simp[lb];refine hX _ ?_;rw[<-hM];exact HH
  | b::bs,[],hm,hb',hs',hM,Hg,J,I,lb,M=>
   rw[HR]at hM;simp[lb,M];refine hX _ ?_;rw[<-hM];exact HH
  | b::bs,s::sss,hm,hb',hs',hM,Hg,J,I,lb,M=>
   simp only[List.length_cons]at hm;obtain⟨B,rfl⟩:∃B,m=B+1:=⟨m-1,by omega⟩;have hbb:=hb' b (by simp);have hsb2:=hs' s (by simp);have P:(0:Int)<((b::bs).length:Int):=by simp only[List.length_cons];omega
   have O:(0:Int)<((s::sss).length:Int):=by simp only[List.length_cons];omega
   simp only[lb,M,At,P,O,B6,AZ,C7,CI,ne_eq,Bx,C1,and_true,Al,cond_true,AB];refine⟨?_,λe=>absurd e (by simp)⟩;refine Mu J (j:=2) (v:=.int .i64 b.am) rfl ?_;refine Mu I (j:=2) (v:=.int .i64 s.am) rfl ?_;simp only[E7,Ba,if_false];have V:(if s.am<b.am then s.am else b.am)=min b.am s.am:=by split <;> omega
   rw[V];refine Mu I (j:=1) (v:=.int .i64 s.own) rfl ?_;refine Mu J (j:=1) (v:=.int .i64 b.own) rfl ?_;have hmb:0<min b.am s.am/\min b.am s.am<=b.am:=by omega
   have hms:0<min b.am s.am/\min b.am s.am<=s.am:=by omega
   obtain⟨k,U⟩:∃k:Nat,s.own=k:=⟨s.own.toNat,by omega⟩;obtain⟨r,Y⟩:∃r:Nat,b.own=r:=⟨b.own.toNat,by omega⟩;rw[U,Y]
   have hM2:CD gd p (B+1) L (b::bs) (s::sss)=CD gd p B (BJ L k r gd p (min b.am s.am)) (if b.am-min b.am s.am=0 then bs else {b with am:=b.am-min b.am s.am} :: bs) (if s.am-min b.am s.am=0 then sss else {s with am:=s.am-min b.am s.am} :: sss):=by
    show CD gd p B (BJ L s.own.toNat b.own.toNat gd p (min b.am s.am)) _ _=_;rw[U,Y,BR,BR]
   rw[hM2]at hM;have F:=hb'.next hmb;have A:=hs'.next hms
   have o:(if b.am-min b.am s.am=0 then bs else {b with am:=b.am-min b.am s.am} :: bs).length+(if s.am-min b.am s.am=0 then sss else {s with am:=s.am-min b.am s.am} :: sss).length<=B:=by
    by_cases hle:b.am<=s.am
    ·rw[if_pos (by omega)]
     split <;> (try simp only[List.length_cons]) <;> omega
    ·rw[if_neg (by omega),if_pos (by omega)]
     simp only[List.length_cons];omega
   generalize hn:min b.am s.am=n at *;refine Wb (L:=L) HH.f.lx hLv (by rw[hLn];omega) (by rw[hLn];omega) hp (by omega) ?_;have u:=EU L k r gd p n;have D:=Et hLv (s:=k) (b:=r) (by rw[hLn];omega) (by rw[hLn];omega) gd p n;have N:=HsN.led (L':=BJ L k r gd p n) Hg u.1 u.2;have eS:(S.setL L).setL (BJ L k r gd p n)=S.setL (BJ L k r gd p n):=rfl;rw[eS]at N;revert N;generalize CQ g nm.lb (BJ L k r gd p n)=g2;intro N
   try simp only[AK.elim]
   refine Mu (AJ FO.mono (AF (A8 _ _) N)) (j:=2) (v:=.int .i64 b.am) rfl ?_
   try simp only[Ao]
   rw[w64 (by omega) (by omega)];rw[Es]at N;refine lj (v:=b.am-n) N λg3 H3=>?_;have Z:=AJ FO.mono H3;refine Mu Z (j:=2) (v:=.int .i64 (b.am-n)) rfl ?_
   -- the sells' side
   have w:∀(f:Value) (d:List Fil),(if b.am-n=0 then bs else {b with am:=b.am-n} :: bs)=d->(FO f d•HsN x nm (S.setL (BJ L k r gd p n))•FO a (s::sss)•C) g3 ->
     AR 3 a (.int .i64 0) λt122=>vFA 2 t122 λt123=>A0 none t123 g3 λt124=>A6 Tryz.prog .sub 3 t124 (.int .i64 n) λt126=>
     AR 3 a (.int .i64 0) λt127=>vFA 2 t127 λt128=>A9 1 t128 t126 g3 λG=>
     AR 3 a (.int .i64 0) λt130=>vFA 2 t130 λt131=>A0 none t131 G λt132=>
     A6 Tryz.prog .eql 3 t132 (.int .i64 0) λt133=>
     dIf t133 (vSl 3 (some (.int .i64 1)) none a λt135=>T (ptr x,.int .i64 gd,.int .i64 p) (f,t135) G)
     (T (ptr x,.int .i64 gd,.int .i64 p) (f,a) G):=λf d X H4=>by
    rw[X]at hM F o;refine Mu (AJ FO.mono (AF (A8 _ _) (AF (A8 _ _) H4))) (j:=2) (v:=.int .i64 s.am) rfl ?_;simp only[Ao];rw[w64 (by omega) (by omega)];have e4:(FO f d•HsN x nm (S.setL (BJ L k r gd p n))•FO a (s::sss)•C)=FO a (s::sss)•(FO f d•HsN x nm (S.setL (BJ L k r gd p n))•C):=by ac_rfl
    rw[e4]at H4;refine lj (v:=s.am-n) H4 λg5 H5=>?_;refine Mu (AJ FO.mono H5) (j:=2) (v:=.int .i64 (s.am-n)) rfl ?_;simp only[BC,AB,CF,D9];refine⟨λE=>?_,λE=>?_⟩
    ·refine We (AJ FO.mono H5) ?_
     rw[if_pos E]at hM A o;have H6:(FO (Kt a) sss•(FO f d•HsN x nm (S.setL (BJ L k r gd p n))•C)) g5:=AU H5 (λ_ h=>FO.tail h) (λ_ h=>h);have e6:(FO (Kt a) sss•(FO f d•HsN x nm (S.setL (BJ L k r gd p n))•C))=HsN x nm (S.setL (BJ L k r gd p n))•FO f d•FO (Kt a) sss•C:=by ac_rfl
     rw[e6]at H6;exact W _ d sss f (Kt a) B _ (by omega) o (by rw[u.2,hLn]) (by rw[u.1,hLg]) D F A hM H6
    ·rw[if_neg E]at hM A o
     have e6:(FO a ({s with am:=s.am-n} :: sss)•(FO f d•HsN x nm (S.setL (BJ L k r gd p n))•C))=HsN x nm (S.setL (BJ L k r gd p n))•FO f d•FO a ({s with am:=s.am-n} :: sss)•C:=by ac_rfl
     rw[e6]at H5;exact W _ d _ f a B _ (by omega) o (by rw[u.2,hLn]) (by rw[u.1,hLg]) D F A hM H5
   simp only[BC,AB,CF,D9];refine⟨λE=>?_,λE=>?_⟩
   ·refine We Z ?_
    exact w (Kt l) bs (if_pos E) (AU H3 (λ_ h=>FO.tail h) (λ_ h=>h))
   ·exact w l _ (if_neg E) H3
 exact key _ λL2 d t f z Q g2 h1 h2 h3 h4 h5 h6 h7 h8 h9=>⟨rfl,Q,h1,L2,d,t,f,z,rfl,h2,h3,h4,h5,h6,h7,h8,h9⟩
end
structure Spl where
 L:Led
 bu:List Fil
 se:List Fil
def inF (p:Int) (f:Fil) (t:Spl) (o:Ord):Spl:=
 if o.id≠f.id then t else if o.buys then {t with L:=BN t.L f.own.toNat (-(o.pr-p)*f.am),bu:=t.bu ++ [f]} else {t with se:=t.se ++ [f]}
def Cu (p:Int) (was:List Ord) (t:Spl) (f:Fil):Spl:=was.foldl (inF p f) t
theorem WU (p:Int) (f:Fil) (t:Spl) (o:Ord):(inF p f t o).bu.length<=t.bu.length+1/\(inF p f t o).se.length<=t.se.length+1:=by
 unfold inF
 repeat' split
 all_goals simp
theorem WV {p:Int} {f:Fil} {t:Spl} {o:Ord} {n:Nat} {G:Int} (h:Inv t.L/\t.L.n=n/\t.L.goods=G) (a:0<=f.own/\f.own<n):Inv (inF p f t o).L/\(inF p f t o).L.n=n/\(inF p f t o).L.goods=G:=by
 unfold inF
 repeat' split
 ·exact h
 ·have:=BK t.L f.own.toNat (-(o.pr-p)*f.am)
  exact⟨DS h.1 (by rw[h.2.1];omega) _,by rw[<-h.2.1];exact this.2,by rw[<-h.2.2];exact this.1⟩
 ·exact h
theorem mq {p:Int} {f:Fil} {t:Spl} {o:Ord} {n:Nat} (d:BH n [f]) (h:BH n t.bu/\BH n t.se):BH n (inF p f t o).bu/\BH n (inF p f t o).se:=by
 have e:=d f (by simp)
 have b:∀l,BH n l->BH n (l ++ [f]):=λl c x a=>by
  rcases List.mem_append.1 a with a | a
  ·exact c x a
  ·simp at a;rw[a];exact e
 unfold inF
 repeat' split
 ·exact h
 ·exact⟨b _ h.1,h.2⟩
 ·exact⟨h.1,b _ h.2⟩
section
variable {h g:PH} {R:RT} {x:Nat} {nm:Nm} {S:Hs} {C:PH->Prop}
abbrev OSf (s:Value) (l:List Fil):PH->Prop:=OS 218 3 s l.length (DR l)
theorem Wz {K:Value->PH->Prop} {s:Value} {l:List Fil} {f:Fil} (H:(OSf s l•C) h) (B:l.length<=100000) (y:∀g o,(OSf o (l ++ [f])•C) g->K o g) :
  (1*3<=2^24)/\Aj 218 3 1 #[.int .i64 0,.int .i64 0,.int .i64 0] [(0,f.v)] h λt56 n=>
   (0<3)/\(0<24)/\(Array.size #[(.int .i64 0:Value),(.int .i64 0:Value),(.int .i64 0:Value)]=3)/\Ab false 218 3 24 s t56 n K:=by
 obtain⟨h0,z,p⟩:=Iw H;refine⟨by omega,_,Om f,λd q=>⟨by omega,by omega,rfl,?_⟩⟩;have i:=p.up (AT (.cells f.a 218) q)
 refine Db (m:=1) (news:=f.a.toList) i (by simp only[roomBytes];omega) (by omega) rfl
  (λJ k=>.inr (.inr ⟨rfl,d,0,1,1,_,_,_,rfl,AD _ _ _,by show 0+1*3<=3;omega,?_,k⟩)) (λI off l F u D cap c=>?_) λA t j=>?_
 ·intro v w
  have:v∈DR [f]:=w;exact Jn v this
 ·cases u
  intro e
  rcases p.buf with⟨a,_⟩ | ⟨E,G,r,a,b,_⟩
  ·rw[a]at c;cases c
  ·rw[a]at c;cases c;rw[<-e,q]at b;cases b
 ·refine y A t ?_
  have:=D0 z j;unfold OSf;rw[List.length_append,<-Kb];exact this
theorem dJ {was:List Ord} {sw X ss:Value} {t:Spl} {f:Fil} {c:Nat} {p:Int} {F:Value×Value×Value×Value×Value×Value×Value×Value×Value×Value} {x2:V9->PH->Prop}
  (H:(HsN x nm (S.setL t.L)•OSf X t.bu•OSf ss t.se•C) h) (P:C3 C) (hCw:∀g,C g->Df g sw was) (T:∀g,C g->g c=some (.cells f.a 218 (0,0)))
  (hI:Inv t.L/\t.L.n=S.L.n/\t.L.goods=S.L.goods) (hz:was.length<=64) (hl:t.bu.length+was.length<=90000/\t.se.length+was.length<=90000) (hf:BH S.L.n [f]) (hr:∀o∈was,B0 o=true) (hp:0<=p/\p<=1099511627776)
  (e1:F.1=ptr x) (e2:F.2.2.2.1 = .int .i64 p) (e3:F.2.2.2.2.1=ptr c) (e4:F.2.2.2.2.2.2.2.2.1=sw) (e5:F.2.2.2.2.2.2.2.2.2 = .int .i64 was.length)
  (hX:∀g q j,(HsN x nm (S.setL (Cu p was t f).L)•OSf q (Cu p was t f).bu•OSf j (Cu p was t f).se•C) g->x2 (F.1,F.2.1,F.2.2.1,F.2.2.2.1,q,j,F.2.2.2.2.2.1,F.2.2.2.2.2.2.1,F.2.2.2.2.2.2.2.1) g) :
  lf (Mi (λc h=>R (.pan c) h) x2) F (X,ss,.int .i64 0) h:=by
 have N:=hf f (by simp)
 refine AL (λm s' g=>∃(i:Nat) (q j:Value),s'=(q,j,.int .i64 i)/\m=was.length-i/\i<=was.length/\(HsN x nm (S.setL ((was.take i).foldl (inF p f) t).L)•OSf q ((was.take i).foldl (inF p f) t).bu•OSf j ((was.take i).foldl (inF p f) t).se•C) g /\
   (Inv ((was.take i).foldl (inF p f) t).L/\((was.take i).foldl (inF p f) t).L.n=S.L.n/\((was.take i).foldl (inF p f) t).L.goods=S.L.goods)/\((was.take i).foldl (inF p f) t).bu.length<=t.bu.length+i/\((was.take i).foldl (inF p f) t).se.length<=t.se.length+i) was.length
  ⟨0,X,ss,rfl,rfl,by omega,H,hI,by simp,by simp⟩ ?_
 rintro m s' g ⟨i,q,j,rfl,rfl,hi,Hg,hIi,hbl,hsl⟩
 by_cases hin:i<was.length
 ·obtain⟨o,Z⟩:=Bp (l:=was) (k:=i) hin
  have s:(was.take (i+1)).foldl (inF p f) t=inF p f ((was.take i).foldl (inF p f) t) o:=by
   rw[List.take_add_one,Z,List.foldl_append];rfl
  generalize hti:(was.take i).foldl (inF p f) t=ti at *
  have key:∀(Y:(Value×Value×Value×Value×Value×Value×Value×Value×Value×Value)->V3->PH->Prop),(∀g2 y v,(HsN x nm (S.setL (inF p f ti o).L)•OSf y (inF p f ti o).bu•OSf v (inF p f ti o).se•C) g2->Y F (y,v,.int .i64 ((i:Int)+1)) g2) ->
    Mi (λc h=>R (.pan c) h) x2 F Y (q,j,.int .i64 i) g:=by
   intro Y r;unfold Mi CO Iy Pk ivW;rw[e1,e2,e3,e4,e5];have hlt:(i:Int)<(was.length:Int):=by omega
   simp only[AC,hlt,B6,AB];refine nT ?_;have Q:C g:=AF P (AF (A8 _ _) (AF (A8 _ _) Hg));refine IH (hCw g Q) Z λd hd=>?_;have U:=EF Hg (AT (.cells o.a 78 (0,0)) hd);have z:ins g d (.cells o.a 78 (0,0)) d=some (.cells o.a 78 (0,0)):=AD _ _ _;have u:ins g d (.cells o.a 78 (0,0)) c=some (.cells f.a 218 (0,0)):=(AT _ hd) _ _ (T g Q);have D:(pt d (.cells o.a 78 (0,0))•HsN x nm (S.setL ti.L)•OSf q ti.bu•OSf j ti.se•C) (ins g d (.cells o.a 78 (0,0))):=Ar hd Hg;revert U z u D;generalize ins g d (.cells o.a 78 (0,0))=G;intro U z u D;have o0:=λK=>A5 (K:=K) z (show o.a[0]?=some (.int .i64 o.id)from rfl);have o5:=λK=>A5 (K:=K) z (show o.a[5]?=some (.bool o.buys)from rfl);have f0:=λK=>A5 (K:=K) u (show f.a[0]?=some (.int .i64 f.id)from rfl)
   have f3:∀K,A0 (some 3) (.pointer (some ⟨c,0,none⟩)) G K↔K f.v:=λK=>by
    rw[AI u (off:=0) (n:=3) (by show 0+3<=3;omega),show f.a.extract 0 (0+3)=f.a from rfl]
   have J:IntKind.i64.wrap ((i:Int)+1)=(i:Int)+1:=w64 (by omega) (by omega);unfold inF at r;simp only[AH,Ad,o0,f0,BB,AB]
   by_cases W:o.id=f.id
   ·rw[if_neg (by simp[W])]at r
    simp only[W,B6,Bool.not_true];refine nF ?_;rw[o5,AB];cases hb:o.buys with
    | true=>
     rw[hb]at r;simp only[if_true]at r;refine nT ?_;rw[f3];have e6:(pt d (.cells o.a 78 (0,0))•HsN x nm (S.setL ti.L)•OSf q ti.bu•OSf j ti.se•C)=OSf q ti.bu•(HsN x nm (S.setL ti.L)•pt d (.cells o.a 78 (0,0))•OSf j ti.se•C):=by ac_rfl
     rw[e6]at D;refine Wz D (by omega) λV I E=>?_;have e7:OSf I (ti.bu ++ [f])•(HsN x nm (S.setL ti.L)•pt d (.cells o.a 78 (0,0))•OSf j ti.se•C)=HsN x nm (S.setL ti.L)•(pt d (.cells o.a 78 (0,0))•(OSf I (ti.bu ++ [f])•OSf j ti.se•C)):=by ac_rfl
     rw[e7]at E;have hd3:V d=some (.cells o.a 78 (0,0)):=AM (AF (A8 _ _) E);have hC3:C V:=AF P (AF (A8 _ _) (AF (A8 _ _) (AF (A8 _ _) E)));have O:=T V hC3;rw[A5 O (show f.a[1]?=some (.int .i64 f.own)from rfl),A5 hd3 (show o.a[2]?=some (.int .i64 o.pr)from rfl)];have hro:=Am.1 (hr o (List.mem_of_getElem? Z));simp only[Ao,Vp];rw[w64 (x:=o.pr-p) (by omega) (by omega),w64 (by omega) (by omega),A5 O (show f.a[2]?=some (.int .i64 f.am)from rfl)];simp only[CG]
     have hmb:-(1099511627776*1048576)<=(0-(o.pr-p))*f.am/\(0-(o.pr-p))*f.am<=1099511627776*1048576:=by
      rcases Int.le_total 0 (0-(o.pr-p))with hh | hh
      ·have:=Dc (a:=0-(o.pr-p)) (b:=f.am) (A:=1099511627776) (B:=1048576) ⟨hh,by omega⟩ ⟨by omega,by omega⟩
       omega
      ·have:=Dc (a:=o.pr-p) (b:=f.am) (A:=1099511627776) (B:=1048576) ⟨by omega,by omega⟩ ⟨by omega,by omega⟩
       have e:(0-(o.pr-p))*f.am = -((o.pr-p)*f.am):=by rw[Int.zero_sub,Int.neg_mul]
       omega
     rw[w64 (by omega) (by omega)];obtain⟨w,hw⟩:∃w:Nat,f.own=w:=⟨f.own.toNat,by omega⟩;rw[hw];rw[show (0-(o.pr-p))*f.am = -(o.pr-p)*f.am by rw[Int.zero_sub]]at hmb ⊢;refine Ka (L:=ti.L) ((AJ HsN.mono E).f).lx hIi.1 (by rw[hIi.2.1];omega) (by omega) ?_;simp only[AK.elim,AG,J];have M:=BK ti.L w (-(o.pr-p)*f.am);have H4:=HsN.led (L':=BN ti.L w (-(o.pr-p)*f.am)) E M.1 M.2;refine r _ I j ?_;have e8:f.own.toNat=w:=by omega
     rw[e8];exact AU H4 (λ_ h=>h) (λ_ h=>AF (A8 _ _) h)
    | false=>
     rw[hb]at r;simp only[Ba,if_false]at r;refine nF ?_;rw[f3];have e6:HsN x nm (S.setL ti.L)•OSf q ti.bu•OSf j ti.se•C=OSf j ti.se•(HsN x nm (S.setL ti.L)•OSf q ti.bu•C):=by ac_rfl
     rw[e6]at U;refine Wz U (by omega) λV I E=>?_;simp only[AG,J];have e7:OSf I (ti.se ++ [f])•(HsN x nm (S.setL ti.L)•OSf q ti.bu•C)=HsN x nm (S.setL ti.L)•OSf q ti.bu•OSf I (ti.se ++ [f])•C:=by ac_rfl
     rw[e7]at E;exact r _ q I E
   ·rw[if_pos W]at r
    simp only[W,BW,Bool.not_false];refine nT ?_;simp only[AG,J];exact r _ q j U
  have hil:=WU p f ti o;exact key _ λg2 y v H2=>⟨rfl,was.length-(i+1),by omega,i+1,y,v,rfl,rfl,by omega,by rw[s];exact H2,by rw[s];exact WV hIi ⟨N.1,N.2.1⟩,by rw[s];omega,by rw[s];omega⟩
 ·have e:i=was.length:=by omega
  unfold Mi CO Iy Pk ivW;rw[e5];have hge:¬(i:Int)<(was.length:Int):=by omega
  simp only[AC,hge,BW,AB];refine nF ?_;rw[e,List.take_length]at Hg;exact hX _ _ _ Hg
end
def I4 (S:Hs) (gd:Nat):Spl:=(AE (S.bk gd)).fs.foldl (Cu (AE (S.bk gd)).p (S.bk gd).l) ⟨S.L,[],[]⟩
def CU (S:Hs) (gd:Nat):Hs:=(S.setBk gd (AE (S.bk gd)).B).setL (CD gd (AE (S.bk gd)).p ((I4 S gd).bu.length+(I4 S gd).se.length) (I4 S gd).L (I4 S gd).bu (I4 S gd).se)
theorem T5 (p:Int) (f:Fil):∀(was:List Ord) (t:Spl),(was.foldl (inF p f) t).bu.length<=t.bu.length+was.length/\(was.foldl (inF p f) t).se.length<=t.se.length+was.length
 | [],t=>by simp
 | o::was,t=>by
  have b:=T5 p f was (inF p f t o);have a:=WU p f t o;simp only[List.foldl_cons,List.length_cons];omega
theorem OD {p:Int} {f:Fil} {n:Nat} {G:Int} (a:0<=f.own/\f.own<n):∀(was:List Ord) (t:Spl),(Inv t.L/\t.L.n=n/\t.L.goods=G)->(Inv (was.foldl (inF p f) t).L/\(was.foldl (inF p f) t).L.n=n/\(was.foldl (inF p f) t).L.goods=G)
 | [],t,h=>h
 | o::was,t,h=>OD a was _ (WV h a)
theorem RM {p:Int} {f:Fil} {n:Nat} (a:BH n [f]):∀(was:List Ord) (t:Spl),(BH n t.bu/\BH n t.se)->(BH n (was.foldl (inF p f) t).bu/\BH n (was.foldl (inF p f) t).se)
 | [],t,h=>h
 | o::was,t,h=>RM a was _ (mq a h)
section
variable {h g:PH} {R:RT} {x:Nat} {nm:Nm} {S:Hs} {C:PH->Prop}
theorem Zk (c:C h):(OSf (.slice none 0 0) []•C) h:=⟨λ_=>none,h,λb a=>absurd rfl a,(λb o a=>by simp at a),Sub.refl h,⟨rfl,.inl ⟨rfl,rfl,rfl⟩⟩,c⟩
theorem Lb {B:Bk} (a:B.ok):0<=(AE B).p/\(AE B).p<=1099511627776:=by
 have:=JJ (r:=Bj B.l) (Nat.le_trans (List.length_filter_le _ _) a.len) (Fm (l:=B.l));exact⟨this.2.2.1,this.2.2.2⟩
theorem fg {gd:Nat} (H:HsN x nm S h) (hn:nm.ok S) (hk:S.ok) (s:gd<S.G) (hR:∀g,HsN x nm (CU S gd) g->R (.ret (.tuple #[])) g) :
  A7 Tryz.prog 103 #[ptr x,.int .i64 gd] h R:=by
 refine jE ?_;unfold lU eXW ivW pnW;have k:=hk.bk gd s;have hp:=Lb k;have F:=H.f;simp only[BO,AH,Ad];refine F.book hn s ?_;refine Qo (F.bk gd s) k.len λg1 sw ob1=>?_;simp only[AK.elim];have H1:(OS 78 6 sw (S.bk gd).l.length (ordsC (S.bk gd).l)•HsN x nm S) g1:=D0 H ob1;have H1':=BX H1;have F1:=(AJ HsN.mono H1').f;refine F1.book hn s ?_;obtain⟨C',hb1,hb2⟩:=HsN.book s H1'
 have I:∀a∈(S.bk gd).l,∀b∈(S.bk gd).l,a.pl=b.pl->a=b:=λa ha b hb e=>by
  obtain⟨i,hi⟩:=List.mem_iff_getElem?.1 ha;obtain⟨j,hj⟩:=List.mem_iff_getElem?.1 hb;obtain⟨N,M⟩:=Bc.1 hi;obtain⟨L,K⟩:=Bc.1 hj;have E:=List.pairwise_iff_getElem.1 k.pls
  rcases Nat.lt_trichotomy i j with h | h | h
  ·have:=E i j N L h;rw[M,K]at this;omega
  ·subst h;rw[hi]at hj;cases hj;rfl
  ·have:=E j i L N h;rw[M,K]at this;omega
 refine cH hb1 k.len k.right I λO q H2=>?_;simp only[AK.elim,Ek,Ej,Ei];have e2:BkP (nm.ba gd) (AE (S.bk gd)).B•OS 218 3 q (AE (S.bk gd)).fs.length (DR (AE (S.bk gd)).fs)•(C'•OS 78 6 sw (S.bk gd).l.length (ordsC (S.bk gd).l))=BkP (nm.ba gd) (AE (S.bk gd)).B•C'•(OS 218 3 q (AE (S.bk gd)).fs.length (DR (AE (S.bk gd)).fs)•OS 78 6 sw (S.bk gd).l.length (ordsC (S.bk gd).l)):=by ac_rfl
 rw[e2]at H2;have H3:=hb2 _ _ _ H2
 have hfm:∀f∈(AE (S.bk gd)).fs,BH S.L.n [f]:=λf y x hx=>by
  obtain⟨o,ho,h1,h2,h3,h4,h5⟩:=Gx (l:=(S.bk gd).l) y;have h6:=Am.1 h1;have h7:=hk.own gd s o ho;simp at hx;rw[hx];omega
 have hfl:(AE (S.bk gd)).fs.length<=128:=by
  have h1:=Gy (S.bk gd).l (AE (S.bk gd)).p (AE (S.bk gd)).n;have h2:=k.len;show (DK (S.bk gd).l (AE (S.bk gd)).p (AE (S.bk gd)).n).length<=128;omega
 unfold CU I4 at hR;generalize hB:(AE (S.bk gd)).B=B' at *;generalize (AE (S.bk gd)).fs=fs at *;generalize (AE (S.bk gd)).p=p at *;obtain⟨pf,cf,B⟩:=(AJ OS.mono (AF (A8 _ _) H3)).lens;obtain⟨pw,cw,A⟩:=ob1.os.lens;rw[B];simp only[BQ];rw[<-B];have J:=k.len;have v:=k.right;generalize hwas:(S.bk gd).l=was at *
 -- through the fills
 refine AL (λm s' g=>∃(i:Nat) (z ss:Value),s'=(z,ss,.int .i64 i)/\m=fs.length-i/\i<=fs.length /\
   (HsN x nm ((S.setBk gd B').setL ((fs.take i).foldl (Cu p was) ⟨S.L,[],[]⟩).L)•OSf z ((fs.take i).foldl (Cu p was) ⟨S.L,[],[]⟩).bu•OSf ss ((fs.take i).foldl (Cu p was) ⟨S.L,[],[]⟩).se•OSf q fs•OS 78 6 sw was.length (ordsC was)) g /\
   (Inv ((fs.take i).foldl (Cu p was) ⟨S.L,[],[]⟩).L/\((fs.take i).foldl (Cu p was) ⟨S.L,[],[]⟩).L.n=S.L.n/\((fs.take i).foldl (Cu p was) ⟨S.L,[],[]⟩).L.goods=S.L.goods) /\
   (BH S.L.n ((fs.take i).foldl (Cu p was) ⟨S.L,[],[]⟩).bu/\BH S.L.n ((fs.take i).foldl (Cu p was) ⟨S.L,[],[]⟩).se) /\
   ((fs.take i).foldl (Cu p was) ⟨S.L,[],[]⟩).bu.length<=i*64/\((fs.take i).foldl (Cu p was) ⟨S.L,[],[]⟩).se.length<=i*64) fs.length
  ⟨0,.slice none 0 0,.slice none 0 0,rfl,rfl,by omega,?_,⟨hk.led,rfl,rfl⟩,⟨(by intro f y;cases y),(by intro f y;cases y)⟩,by simp,by simp⟩ ?_
 ·have h4:(OSf (.slice none 0 0) []•OSf (.slice none 0 0) []•HsN x nm (S.setBk gd B')•OSf q fs•OS 78 6 sw was.length (ordsC was)) O:=Zk (Zk H3)
  have e4:OSf (.slice none 0 0) []•OSf (.slice none 0 0) []•HsN x nm (S.setBk gd B')•OSf q fs•OS 78 6 sw was.length (ordsC was)=HsN x nm (S.setBk gd B')•OSf (.slice none 0 0) []•OSf (.slice none 0 0) []•OSf q fs•OS 78 6 sw was.length (ordsC was):=by ac_rfl
  rw[e4]at h4;exact h4
 rintro m s' g ⟨i,z,ss,rfl,rfl,hi,Hg,hI,hO,hlb,hls⟩
 by_cases hin:i<fs.length
 ·obtain⟨f,y⟩:∃f,fs[i]?=some f:=⟨_,Bu hin⟩
  have d:(fs.take (i+1)).foldl (Cu p was) ⟨S.L,[],[]⟩=Cu p was ((fs.take i).foldl (Cu p was) ⟨S.L,[],[]⟩) f:=by
   rw[List.take_add_one,y,List.foldl_append];rfl
  generalize hti:(fs.take i).foldl (Cu p was) ⟨S.L,[],[]⟩=ti at *;have w:=hfm f (List.mem_of_getElem? y)
  have key:∀(kn:V6->V3->PH->Prop) x0,
    (∀O u t,(HsN x nm ((S.setBk gd B').setL (Cu p was ti f).L)•OSf u (Cu p was ti f).bu•OSf t (Cu p was ti f).se•OSf q fs•OS 78 6 sw was.length (ordsC was)) O->kn (ptr x,.int .i64 gd,sw,.int .i64 p,q,.int .i64 fs.length) (u,t,.int .i64 ((i:Int)+1)) O) ->
    Ph (λc h=>R (.pan c) h) x0 (ptr x,.int .i64 gd,sw,.int .i64 p,q,.int .i64 fs.length) kn (z,ss,.int .i64 i) g:=by
   intro kn x0 hkn;unfold Ph Iy eXW ivW;have hlt:(i:Int)<(fs.length:Int):=by omega
   simp only[AC,hlt,B6,AB];refine nT ?_;have hFl:Vm g q fs:=AJ OS.mono (AF (A8 _ _) (AF (A8 _ _) (AF (A8 _ _) Hg)));refine Ta hFl y λc hc=>?_;have P:(pt c (.cells f.a 218 (0,0))•HsN x nm ((S.setBk gd B').setL ti.L)•OSf z ti.bu•OSf ss ti.se•OSf q fs•OS 78 6 sw was.length (ordsC was)) (ins g c (.cells f.a 218 (0,0))):=Ar hc Hg;revert P;generalize ins g c (.cells f.a 218 (0,0))=G;intro P;have e5:pt c (.cells f.a 218 (0,0))•HsN x nm ((S.setBk gd B').setL ti.L)•OSf z ti.bu•OSf ss ti.se•OSf q fs•OS 78 6 sw was.length (ordsC was)=HsN x nm ((S.setBk gd B').setL ti.L)•OSf z ti.bu•OSf ss ti.se•(pt c (.cells f.a 218 (0,0))•OSf q fs•OS 78 6 sw was.length (ordsC was)):=by ac_rfl
   rw[e5]at P;rw[A];simp only[BQ];rw[<-A];refine dJ (S:=S.setBk gd B') (was:=was) (sw:=sw) (f:=f) (c:=c) (p:=p) P (A8 _ _) (λg hg=>AF OS.mono (AF (A8 _ _) hg)) (λg hg=>AM hg) hI J ⟨by omega,by omega⟩ w v hp rfl rfl rfl rfl rfl λg3 T Q H6=>?_;intro r D;simp only[Prod.mk.injEq]at D;obtain⟨r0,r1,r4,W,V,U,Z,Y,X⟩:=D;simp only[r0,r1,r4,W,V,U,Z,Y,X,AG];rw[w64 (by omega) (by omega)];refine hkn g3 T Q ?_;exact AU H6 (λ_ h=>h) λ_ h=>AU h (λ_ h=>h) λ_ h=>AU h (λ_ h=>h) λ_ h=>AF (A8 _ _) h
  have hol:=T5 p f was ti;have hoi:=OD (p:=p) (f:=f) (n:=S.L.n) (G:=S.L.goods) ⟨(w f (by simp)).1,(w f (by simp)).2.1⟩ was ti hI;have hoo:=RM (p:=p) w was ti hO;exact key _ _ λO u t H7=>⟨rfl,fs.length-(i+1),by omega,i+1,u,t,rfl,rfl,by omega,by rw[d];exact H7,by rw[d];exact hoi,by rw[d];exact hoo,by rw[d];show (was.foldl (inF p f) ti).bu.length<=_;omega,by rw[d];show (was.foldl (inF p f) ti).se.length<=_;omega⟩
 ·have e:i=fs.length:=by omega
  unfold Ph Iy eXW ivW;have hge:¬(i:Int)<(fs.length:Int):=by omega
  simp only[AC,hge,BW,AB];refine nF ?_;rw[e,List.take_length]at Hg hI hO;intro r D;simp only[Prod.mk.injEq]at D;obtain⟨r0,r1,W,V,U⟩:=D;simp only[r0,r1,W,V,U]
  have Hm:(HsN x nm ((S.setBk gd B').setL (fs.foldl (Cu p was) ⟨S.L,[],[]⟩).L)•FO z (fs.foldl (Cu p was) ⟨S.L,[],[]⟩).bu•FO ss (fs.foldl (Cu p was) ⟨S.L,[],[]⟩).se•OSf q fs•OS 78 6 sw was.length (ordsC was)) g:=
   AU Hg (λ_ h=>h) λ_ h=>AU h (λ_ h=>FO.of h) λ_ h=>AU h (λ_ h=>FO.of h) λ_ h=>h
  refine Zy (R:=R) (S:=(S.setBk gd B').setL (fs.foldl (Cu p was) ⟨S.L,[],[]⟩).L) Hm hI.1 hp (by show BH (fs.foldl (Cu p was) ⟨S.L,[],[]⟩).L.n _;rw[hI.2.1];exact hO.1) (by show BH (fs.foldl (Cu p was) ⟨S.L,[],[]⟩).L.n _;rw[hI.2.1];exact hO.2) λg3 H8=>?_;intro r2 hr2;exact hR _ H8
end
def E9 (held:Nat->Int) (t:Led×Auc) (i:Nat):Led×Auc:=
 let a:=(DZ t.2 i (min (B4 t.2 i).1 ((t.1.f i 0-t.1.f i 1+held i).tdiv t.2.price))).2
 (BN t.1 i (Ae a i-held i),a)
def BT (held:Nat->Int) (t:Led×Auc):Nat->Led×Auc
 | 0=>t
 | k+1=>E9 held (BT held t k) k
def Gj (gd:Int) (w:Nat) (p:Int) (held got:Nat->Int) (t:Led×Int) (i:Nat):Led×Int:=
 (BN (BJ t.1 w i gd p (got i)) i (p*got i-held i),t.2-got i)
def Be (gd:Int) (w:Nat) (p:Int) (held got:Nat->Int) (t:Led×Int):Nat->Led×Int
 | 0=>t
 | k+1=>Gj gd w p held got (Be gd w p held got t k) k
def CW (S:Hs) (gd:Nat):Hs:=match S.au gd with
 | none=>S
 | some (A,w)=>
  let held:=λi:Nat=>Ae A i
  if (AV A).1=false then
   let r:=BT held (S.L,(AV A).2.2) S.L.n
   (S.setAu gd (some (r.2,w))).setL r.1
  else
   let a:=BD (AV A).2.2
   let r:=Be gd w.toNat a.1 held a.2 (S.L,A.sup) S.L.n
   (S.setAu gd none).setL (BY r.1 w.toNat gd (-r.2))
def Bd (S:Hs):Nat->Hs
 | 0=>S
 | k+1=>CW (CU (Bd S k) k) k
def Da (S:Hs):Int×Int×Hs:=if S.now=9007199254740992 then (0,2,S)else
 let S2:=Bd {S with now:=S.now+1} S.G
 (S2.now,0,S2)
section
variable {h g:PH} {R:RT} {x:Nat} {nm:Nm} {S:Hs} {C:PH->Prop}
theorem fV {gd d a n:Nat} {A:Auc} {w:Int} {F:V5} {b:V4->PH->Prop} (p:gd<S.G) (r:S.au gd=some (A,w)) (v:A.ok) (G:n<=16)
  (H:(pt a (Dm (λ_=>0) n)•HsN x nm S•pt d (.cells #[ptr (nm.aa gd),.int .i64 w] 98 (0,0))) h)
  (B:F.2.2.1=ptr d) (z:F.2.2.2.1 = .slice (some ⟨a,0,none⟩) n n) (u:F.2.2.2.2 = .int .i64 n)
  (y:∀g,(pt a (Dm (λi=>Ae A i) n)•HsN x nm S•pt d (.cells #[ptr (nm.aa gd),.int .i64 w] 98 (0,0))) g->b (F.1,F.2.1,F.2.2.1,F.2.2.2.1) g) :
  lf (Mh (λc h=>R (.pan c) h) b) F (.int .i64 0) h:=by
 refine AL (λm t g=>∃i:Nat,t = .int .i64 i/\m=n-i/\i<=n/\(pt a (Dm (Dy (λi=>Ae A i) (λ_=>0) i) n)•HsN x nm S•pt d (.cells #[ptr (nm.aa gd),.int .i64 w] 98 (0,0))) g) n
  ⟨0,rfl,rfl,by omega,by rw[J2];exact H⟩ ?_
 rintro m t g ⟨i,rfl,rfl,hi,Hg⟩
 by_cases l:i<n
 ·have key:∀(f:V5->Value->PH->Prop),(∀s,(pt a (Dm (Dy (λi=>Ae A i) (λ_=>0) (i+1)) n)•HsN x nm S•pt d (.cells #[ptr (nm.aa gd),.int .i64 w] 98 (0,0))) s->f F (.int .i64 ((i:Int)+1)) s) ->
    Mh (λc h=>R (.pan c) h) b F f (.int .i64 i) g:=by
   intro f k;unfold Mh ivW;rw[B,z,u];have j:(i:Int)<(n:Int):=by omega
   simp only[AC,j,B6,AB];refine nT ?_;have q:=AM (BX (AF (A8 _ _) Hg));have o:=AM Hg;have D:=AJ HsN.mono (AF (A8 _ _) Hg);rw[AI q (off:=0) (n:=2) (by show 0+2<=2;omega),show (#[ptr (nm.aa gd),.int .i64 w]:Array Value).extract 0 (0+2)=#[ptr (nm.aa gd),.int .i64 w]from rfl];refine VK (D.f.au gd (A,w) p r) v ?_;simp only[AK.elim,B9];refine⟨by omega,by omega,?_⟩;rw[show 0+(i:Int).toNat*1=i by omega,ME o l,Fz (λi:Nat=>Ae A i) (λ_=>0) i];simp only[AG];rw[w64 (by omega) (by omega)];exact k _ (Bb Hg)
  exact key _ λs E=>⟨rfl,n-(i+1),by omega,i+1,rfl,rfl,by omega,E⟩
 ·have e:i=n:=by omega
  subst e;unfold Mh ivW;rw[u];simp only[AC,AB];refine nF ?_;unfold Dm at Hg;rw[Hz]at Hg;exact y _ Hg
end
theorem Lh {A:Auc} (a:A.ok) (who n:Int):(DZ A who n).2.ok:=by
 unfold DZ
 split
 ·exact a
 ·split
  ·exact a
  ·split
   ·exact a
   ·rename_i h0 f c
    have d:who.toNat<A.n:=by omega
    refine⟨a.sup,a.sta,a.stp,a.rnd,a.top,a.ste,a.n,a.was,λi hi=>?_,a.one,λb i hi=>?_,a.more⟩
    ·show 0<=(if i=who.toNat then n else A.now i)/\(if i=who.toNat then n else A.now i)<=1048576
     split
     ·omega
     ·exact a.now i hi
    ·show (if i=who.toNat then n else A.now i)<=A.was i
     split
     ·rename_i e
      subst e;have:¬(1<A.rnd/\A.was who.toNat<n):=c;have hr':1<A.rnd:=b;omega
     ·exact a.fall b i hi
theorem Mc (A:Auc) (who n:Int):(DZ A who n).2.ste=A.ste/\(DZ A who n).2.rnd=A.rnd/\(DZ A who n).2.n=A.n/\(DZ A who n).2.price=A.price:=by
 unfold DZ
 repeat' split
 all_goals exact⟨rfl,rfl,rfl,rfl⟩
section
variable {h g:PH} {R:RT} {x:Nat} {nm:Nm} {S:Hs} {C:PH->Prop}
theorem fj {gd d l:Nat} {A:Auc} {w:Int} {held:Nat->Int} {F:V4} {x2:Unit->PH->Prop} (s:gd<S.G) (hk:A.ok) (V:A.n=S.L.n) (hr:1<A.rnd) (hv:Inv S.L) (r:∀i,0<=held i/\held i<=1152921504606846976)
  (H:(HsN x nm (S.setAu gd (some (A,w)))•pt l (Dm held S.L.n)•pt d (.cells #[ptr (nm.aa gd),.int .i64 w] 98 (0,0))) h)
  (e1:F.1=ptr x) (e2:F.2.1=ptr d) (e3:F.2.2.1 = .slice (some ⟨l,0,none⟩) S.L.n S.L.n) (e4:F.2.2.2 = .int .i64 S.L.n)
  (hX:∀g,HsN x nm ((S.setAu gd (some ((BT held (S.L,A) S.L.n).2,w))).setL (BT held (S.L,A) S.L.n).1) g->x2 () g) :
  lf (K4 (λc h=>R (.pan c) h) x2) F (.int .i64 0) h:=by
 have hcl:=hv.cl
 refine AL (λm Z g=>∃i:Nat,Z = .int .i64 i/\m=S.L.n-i/\i<=S.L.n/\(HsN x nm ((S.setAu gd (some ((BT held (S.L,A) i).2,w))).setL (BT held (S.L,A) i).1)•pt l (Dm held S.L.n)•pt d (.cells #[ptr (nm.aa gd),.int .i64 w] 98 (0,0))) g /\
   Inv (BT held (S.L,A) i).1/\(BT held (S.L,A) i).1.n=S.L.n/\(BT held (S.L,A) i).1.goods=S.L.goods/\(BT held (S.L,A) i).2.ok/\(BT held (S.L,A) i).2.rnd=A.rnd/\(BT held (S.L,A) i).2.n=S.L.n) S.L.n
  ⟨0,rfl,rfl,by omega,H,hv,rfl,rfl,hk,rfl,V⟩ ?_
 rintro m Z g ⟨i,rfl,rfl,hi,Hg,hI,hIn,hIg,hAk,hAr,hAn2⟩
 by_cases a:i<S.L.n
 ·have b:BT held (S.L,A) (i+1)=E9 held (BT held (S.L,A) i) i:=rfl
  generalize BT held (S.L,A) i=t at *;obtain⟨L,B⟩:=t;simp only at Hg hI hIn hIg hAk hAr hAn2
  have hpos:1<=B.price:=by
   have h1:=hAk.sta;have h2:=hAk.stp;have h3:1*1<=(B.rnd-1)*B.stp:=Int.mul_le_mul (by omega) (by omega) (by omega) (by omega);unfold Auc.price;omega
  have u:((S.setAu gd (some (B,w))).setL L).G=S.G:=by unfold Hs.G Hs.setL;rw[hIg]
  have M:((S.setAu gd (some (B,w))).setL L).au gd=some (B,w):=by simp[Hs.setAu,Hs.setL]
  have key:∀(N:V4->Value->PH->Prop),(∀y,(HsN x nm ((S.setAu gd (some ((E9 held (L,B) i).2,w))).setL (E9 held (L,B) i).1)•pt l (Dm held S.L.n)•pt d (.cells #[ptr (nm.aa gd),.int .i64 w] 98 (0,0))) y->N F (.int .i64 ((i:Int)+1)) y) ->
    K4 (λc h=>R (.pan c) h) x2 F N (.int .i64 i) g:=by
   intro N P;unfold K4 ivW;rw[e1,e2,e3,e4];have O:(i:Int)<(S.L.n:Int):=by omega
   simp only[AC,O,B6,AB];refine nT ?_
   have j:∀{g':PH} {S':Hs},(HsN x nm S'•pt l (Dm held S.L.n)•pt d (.cells #[ptr (nm.aa gd),.int .i64 w] 98 (0,0))) g'->g' d=some (.cells #[ptr (nm.aa gd),.int .i64 w] 98 (0,0))/\E6 g' l held S.L.n/\HF g' x nm S':=λY=>
    ⟨AM (BX (AF (A8 _ _) Y)),AM (AF (A8 _ _) Y),(AJ HsN.mono Y).f⟩
   obtain⟨T,z,Fg⟩:=j Hg;have d0:=λK=>A5 (K:=K) T (show (#[ptr (nm.aa gd),.int .i64 w]:Array Value)[0]?=some (ptr (nm.aa gd))from rfl);have X:Cm g (nm.aa gd) (nm.ab gd) B:=Fg.au gd (B,w) (by rw[u];exact s) M;simp only[AH,Ad,d0];refine JL X ?_;simp only[AK.elim,Av,Au,d0,B9];refine⟨by omega,by omega,?_⟩
   have q:∀K,A0 none (.pointer (some ⟨l,0+(i:Int).toNat*1,none⟩)) g K↔K (.int .i64 (held i)):=λK=>by
    rw[show 0+(i:Int).toNat*1=i by omega];exact GM z a
   rw[q];refine ah (L:=L) Fg.lx hI (by rw[hIn];exact a) ?_;have b0:=hI.small.num i 0 (by rw[hIn];exact a) (by omega);have b1:=hI.small.num i 1 (by rw[hIn];exact a) (by omega);have hh:=r i;simp only[AK.elim,d0,q,true_and,AG];rw[w64 (x:=L.f i 0-L.f i 1+held i) (by omega) (by omega)];refine EN X hAk ?_;simp only[AK.elim,d0,q,true_and];have hpb:=hAk.priceB
   have htd:-4611686018427387904<=(L.f i 0-L.f i 1+held i).tdiv B.price/\(L.f i 0-L.f i 1+held i).tdiv B.price<=4611686018427387904:=by
    have h1:=Int.natAbs_tdiv_le_natAbs (L.f i 0-L.f i 1+held i) B.price;omega
   rw[Fx _ _ _ _ (by omega),w64 (by omega) (by omega)];simp only[E7,Ba,if_false];have E:(if (L.f i 0-L.f i 1+held i).tdiv B.price<(B4 B i).1 then (L.f i 0-L.f i 1+held i).tdiv B.price else (B4 B i).1)=min (B4 B i).1 ((L.f i 0-L.f i 1+held i).tdiv B.price):=by split <;> omega
   rw[E];refine Qj X ?_;simp only[AK.elim];have v:=HsN.auc (S:=(S.setAu gd (some (B,w))).setL L) (B:=(DZ B i (min (B4 B i).1 ((L.f i 0-L.f i 1+held i).tdiv B.price))).2) (by rw[u];exact s) M Hg;have o:=Lh hAk (i:Int) (min (B4 B i).1 ((L.f i 0-L.f i 1+held i).tdiv B.price));generalize U:(DZ B i (min (B4 B i).1 ((L.f i 0-L.f i 1+held i).tdiv B.price))).2=B2 at *;revert v;generalize Ci g (nm.aa gd) (nm.ab gd) B2=y;intro v
   have eS:((S.setAu gd (some (B,w))).setL L).setAu gd (some (B2,w))=(S.setAu gd (some (B2,w))).setL L:=by
    unfold Hs.setAu Hs.setL;simp only[Hs.mk.injEq,true_and]
    funext k
    split <;> simp_all
   rw[eS]at v;obtain⟨G,p,F2⟩:=j v;have J:((S.setAu gd (some (B2,w))).setL L).au gd=some (B2,w):=by simp[Hs.setAu,Hs.setL]
   have W:Cm y (nm.aa gd) (nm.ab gd) B2:=F2.au gd (B2,w) (by show gd<((S.setAu gd (some (B,w))).setL L).G;rw[u];exact s) J
   have D:∀K,A0 none (.pointer (some ⟨l,0+(i:Int).toNat*1,none⟩)) y K↔K (.int .i64 (held i)):=λK=>by
    rw[show 0+(i:Int).toNat*1=i by omega];exact GM p a
   rw[AI G (off:=0) (n:=2) (by show 0+2<=2;omega),show (#[ptr (nm.aa gd),.int .i64 w]:Array Value).extract 0 (0+2)=#[ptr (nm.aa gd),.int .i64 w]from rfl]
   try simp only[B9]
   refine⟨by omega,by omega,?_⟩;rw[D];refine VK W o ?_;have hnb:=Dr o i;simp only[AK.elim,D,true_and,Ao];rw[w64 (by omega) (by omega)];refine Ka (L:=L) F2.lx hI (by rw[hIn];exact a) (by omega) ?_;simp only[AK.elim,AG];rw[w64 (by omega) (by omega)];have f:=BK L i (Ae B2 i-held i);have H3:=HsN.led (L':=BN L i (Ae B2 i-held i)) v f.1 f.2;refine P _ ?_;unfold E9;simp only;rw[U];exact H3
  have I:=Mc B (i:Int) (min (B4 B i).1 ((L.f i 0-L.f i 1+held i).tdiv B.price));refine key _ λy v=>⟨rfl,S.L.n-(i+1),by omega,i+1,rfl,rfl,by omega,by rw[b];exact v,?_⟩;rw[b];unfold E9;simp only;have f:=BK L i (Ae (DZ B i (min (B4 B i).1 ((L.f i 0-L.f i 1+held i).tdiv B.price))).2 i-held i);exact⟨DS hI (by rw[hIn];exact a) _,by rw[f.2,hIn],by rw[f.1,hIg],Lh hAk _ _,by rw[I.2.1,hAr],by rw[I.2.2.1,hAn2]⟩
 ·have e:i=S.L.n:=by omega
  unfold K4 ivW;rw[e4];have Q:¬(i:Int)<(S.L.n:Int):=by omega
  simp only[AC,Q,BW,AB];refine nF ?_;rw[e]at Hg;exact hX _ (AJ HsN.mono Hg)
end
section
variable {h g:PH} {R:RT} {x:Nat} {nm:Nm} {S:Hs} {C:PH->Prop}
theorem db {gd d r u w:Nat} {pa:Value} {p:Int} {held got:Nat->Int} {sup:Int} {F:V7} {z:V4->PH->Prop} (O:Inv S.L) (N:w<S.L.n) (Q:0<=p/\p<=1099511627776) (P:0<=sup/\sup<=1048576)
  (n:∀i,0<=held i/\held i<=1152921504606846976) (o:∀i,i<S.L.n->0<=got i/\got i<=1048576)
  (H:(HsN x nm S•pt r (Dm held S.L.n)•pt u (Dm got S.L.n)•pt d (.cells #[pa,.int .i64 w] 98 (0,0))) h)
  (W:F.1=ptr x) (V:F.2.1 = .int .i64 gd) (U:F.2.2.1=ptr d) (e4:F.2.2.2.1 = .slice (some ⟨r,0,none⟩) S.L.n S.L.n) (e5:F.2.2.2.2.1 = .int .i64 p) (e6:F.2.2.2.2.2.1 = .slice (some ⟨u,0,none⟩) S.L.n S.L.n) (T:F.2.2.2.2.2.2 = .int .i64 S.L.n)
  (Z:∀g,(HsN x nm (S.setL (Be gd w p held got (S.L,sup) S.L.n).1)•pt d (.cells #[pa,.int .i64 w] 98 (0,0))) g->Inv (Be gd w p held got (S.L,sup) S.L.n).1->(Be gd w p held got (S.L,sup) S.L.n).1.n=S.L.n->(Be gd w p held got (S.L,sup) S.L.n).1.goods=S.L.goods ->
   -20000000<=(Be gd w p held got (S.L,sup) S.L.n).2/\(Be gd w p held got (S.L,sup) S.L.n).2<=1048576->z (ptr x,.int .i64 gd,ptr d,.int .i64 (Be gd w p held got (S.L,sup) S.L.n).2) g) :
  lf (K3 (λc h=>R (.pan c) h) z) F (.int .i64 sup,.int .i64 0) h:=by
 have Y:=O.cl
 refine AL (λm M g=>∃i:Nat,M=(.int .i64 (Be gd w p held got (S.L,sup) i).2,.int .i64 i)/\m=S.L.n-i/\i<=S.L.n/\(HsN x nm (S.setL (Be gd w p held got (S.L,sup) i).1)•pt r (Dm held S.L.n)•pt u (Dm got S.L.n)•pt d (.cells #[pa,.int .i64 w] 98 (0,0))) g /\
   Inv (Be gd w p held got (S.L,sup) i).1/\(Be gd w p held got (S.L,sup) i).1.n=S.L.n/\(Be gd w p held got (S.L,sup) i).1.goods=S.L.goods/\sup-1048576*i<=(Be gd w p held got (S.L,sup) i).2/\(Be gd w p held got (S.L,sup) i).2<=sup) S.L.n
  ⟨0,rfl,rfl,by omega,H,O,rfl,rfl,by show sup-1048576*0<=sup;omega,Int.le_refl _⟩ ?_
 rintro m M g ⟨i,rfl,rfl,hi,Hg,hI,hIn,hIg,hl1,hl2⟩
 by_cases j:i<S.L.n
 ·have f:Be gd w p held got (S.L,sup) (i+1)=Gj gd w p held got (Be gd w p held got (S.L,sup) i) i:=rfl
  generalize Be gd w p held got (S.L,sup) i=t at *;obtain⟨L,left⟩:=t;simp only at Hg hI hIn hIg hl1 hl2;have q:=o i j;have X:=n i;have a:=EU L w i gd p (got i);have l:=Et hI (s:=w) (b:=i) (by rw[hIn];exact N) (by rw[hIn];exact j) gd p (got i);have k:=BK (BJ L w i gd p (got i)) i (p*got i-held i)
  have key:∀(A:V7->V2->PH->Prop),(∀K,(HsN x nm (S.setL (BN (BJ L w i gd p (got i)) i (p*got i-held i)))•pt r (Dm held S.L.n)•pt u (Dm got S.L.n)•pt d (.cells #[pa,.int .i64 w] 98 (0,0))) K->A F (.int .i64 (left-got i),.int .i64 ((i:Int)+1)) K) ->
    K3 (λc h=>R (.pan c) h) z F A (.int .i64 left,.int .i64 i) g:=by
   intro A D;unfold K3 ivW;rw[W,V,U,e4,e5,e6,T];have B:(i:Int)<(S.L.n:Int):=by omega
   simp only[AC,B,B6,AB,B9];refine⟨λ_=>⟨by omega,by omega,?_⟩,λe=>absurd e (by simp)⟩;have I:E6 g u got S.L.n:=AM (AF (A8 _ _) (AF (A8 _ _) Hg));have J:g d=some (.cells #[pa,.int .i64 w] 98 (0,0)):=AM (BX (AF (A8 _ _) (AF (A8 _ _) Hg)));rw[show 0+(i:Int).toNat*1=i by omega,GM I j];simp only[AH];rw[A5 J (v:=.int .i64 w) rfl];refine Wb (L:=L) ((AJ HsN.mono Hg).f).lx hI (by rw[hIn];exact N) (by rw[hIn];exact j) Q q.2 ?_;have y:=HsN.led (L':=BJ L w i gd p (got i)) Hg a.1 a.2;have E:E6 (CQ g nm.lb (BJ L w i gd p (got i))) r held S.L.n:=AM (AF (A8 _ _) y);have hm:=Dc Q q;simp only[AK.elim,CG]
   try simp only[B9]
   rw[w64 (x:=p*got i) (by omega) (by omega)];refine⟨by omega,by omega,?_⟩;rw[GM E j];simp only[Ao];rw[w64 (x:=p*got i-held i) (by omega) (by omega)];refine Ka (L:=BJ L w i gd p (got i)) ((AJ HsN.mono y).f).lx l (by rw[a.2,hIn];exact j) (by omega) ?_;have H3:=HsN.led (L':=BN (BJ L w i gd p (got i)) i (p*got i-held i)) y k.1 k.2;simp only[AK.elim,AG];rw[w64 (x:=left-got i) (by omega) (by omega),w64 (by omega) (by omega)];exact D _ H3
  refine key _ λK y=>⟨rfl,S.L.n-(i+1),by omega,i+1,by rw[f];rfl,rfl,by omega,by rw[f];exact y,?_⟩;rw[f];unfold Gj;simp only;exact⟨DS l (by rw[a.2,hIn];exact j) _,by rw[k.2,a.2,hIn],by rw[k.1,a.1,hIg],by omega,by omega⟩
 ·have e:i=S.L.n:=by omega
  unfold K3 ivW;rw[W,V,U,T];have G:¬(i:Int)<(S.L.n:Int):=by omega
  simp only[AC,G,BW,AB];refine nF ?_;rw[e]at Hg hI hIn hIg hl1 hl2 ⊢;refine Z g (AU Hg (λ_ h=>h) λ_ h=>AF (Ij _ _) (AF (A8 _ _) h)) hI hIn hIg ⟨by omega,by omega⟩
end
theorem jJ {g:Nat->Int} {n sum:Int} {i:Nat} (d:0<=n) (a:0<=g i) (b:n<=sum):base g n sum i<=g i:=by
 unfold base
 split
 ·rename_i c
  rw[Int.tdiv_eq_ediv_of_nonneg (Int.mul_nonneg d a)];have e:n*g i<=sum*g i:=Int.mul_le_mul_of_nonneg_right b a;have h:sum*g i/sum=g i:=Int.mul_ediv_cancel_left _ (by omega);have f:=Int.ediv_le_ediv c e;omega
 ·exact a
theorem Q9 {g:Nat->Int} {m:Int} {n i:Nat} (b:0<=m) (c:∀i,i<n->0<=g i) (a:m<=AS g n) (hi:i<n):Ce g m n i<=g i:=by
 have:=jJ (sum:=AS g n) b (c i hi) a;unfold Ce;simp only
 split <;> omega
theorem Ii {A:Auc} (h0:A.ste=0) (h:(AV A).1=true):((AV A).2.2.ste=2\/(AV A).2.2.ste=1/\(AV A).2.2.demand<=(AV A).2.2.sup)/\(AV A).2.2.n=A.n/\(AV A).2.2.sup=A.sup:=by
 unfold AV at h ⊢;rw[if_neg (by simp[h0])]at h ⊢
 split at h
 ·rename_i a
  rw[if_pos a];exact⟨.inr ⟨rfl,a⟩,rfl,rfl⟩
 ·rename_i a
  split at h
  ·rename_i b
   rw[if_neg a,if_pos b];exact⟨.inl rfl,rfl,rfl⟩
  ·cases h
theorem JF {A:Auc} (h0:A.ste=0) (c:1<=A.rnd) (h:(AV A).1=false):(AV A).2.2.ste=0/\(AV A).2.2.n=A.n/\1<(AV A).2.2.rnd:=by
 unfold AV at h ⊢;rw[if_neg (by simp[h0])]at h ⊢
 split at h
 ·cases h
 ·rename_i b
  split at h
  ·cases h
  ·rename_i a
   rw[if_neg b,if_neg a];exact⟨h0,rfl,by simp only;omega⟩
theorem IJ {A:Auc} (a:A.ok):(AV A).2.2.ok:=by
 unfold AV
 split
 ·exact a
 ·split
  ·exact⟨a.sup,a.sta,a.stp,a.rnd,a.top,⟨by simp,by simp⟩,a.n,a.was,a.now,a.one,a.fall,a.more⟩
  ·rename_i c
   split
   ·exact⟨a.sup,a.sta,a.stp,a.rnd,a.top,⟨by simp,by simp⟩,a.n,a.was,a.now,a.one,a.fall,a.more⟩
   ·rename_i b
    have d:=a.rnd;refine⟨a.sup,a.sta,a.stp,by simp only;omega,?_,a.ste,a.n,λi hi=>?_,a.now,λh=>by simp only at h;omega,λ_ i hi=>?_,λ_=>?_⟩
    ·have e:A.rnd*A.stp=(A.rnd-1)*A.stp+A.stp:=by rw[Int.sub_mul];omega
     unfold Auc.price at b ⊢;simp only;rw[show A.rnd+1-1=A.rnd by omega,e];omega
    ·simp only;rw[if_pos hi];exact a.now i hi
    ·simp only;rw[if_pos hi];exact Int.le_refl _
    ·simp only
     rw[DF (g':=A.now) A.n (λi hi=>if_pos hi)];unfold Auc.demand at c;omega
section
variable {h g:PH} {R:RT} {x:Nat} {nm:Nm} {S:Hs} {C:PH->Prop}
theorem eI {b:Nat} {o:Obj} (f:h b=none) (c:Sub h g) (d:g b=some o) (i:C h):(pt b o•C) g:=
 ⟨one b o,h,λx a=>by
  by_cases e:x=b
  ·rw[e];exact f
  ·exact absurd (by unfold one;rw[Aq _ _ e]) a,Ja d,c,AD _ _ _,i⟩
end
theorem L8 {A:Auc} (a:A.ok) (q:A.ste=2\/A.ste=1/\A.demand<=A.sup):(0<=(BD A).1/\(BD A).1<=1099511627776)/\∀i,i<A.n->0<=(BD A).2 i/\(BD A).2 i<=1048576:=by
 have h:=a.priceB;have c:=Jf a;unfold BD
 split
 ·exact⟨by simp,λi _=>by simp⟩
 ·rename_i v
  split
  ·exact⟨h,a.now⟩
  ·rename_i p
   have f:¬A.rnd=1:=λe=>p (.inl e);have b:1<A.rnd:=by have:=a.rnd;omega
   have o:A.demand<=A.sup:=by omega
   unfold Auc.last at c;rw[if_neg f]at c;refine⟨c,λi hi=>?_⟩;have w:=a.now i hi;have u:=a.was i hi;have j:=a.fall b;have r:=a.more b;have d:∀i,i<A.n->0<=A.was i-A.now i:=λi hi=>by have:=j i hi;omega
   have l:=a.sumB a.now (Nat.le_refl _);unfold Auc.demand at o ⊢;have t:=Q9 (g:=λk=>A.was k-A.now k) (m:=A.sup-AS A.now A.n) (n:=A.n) (by omega) d (by rw[J8];omega) hi;have s:=MB (g:=λk=>A.was k-A.now k) (m:=A.sup-AS A.now A.n) (n:=A.n) (i:=i) ⟨by omega,by have:=a.sup;omega⟩ (λi hi=>by have:=d i hi;have:=a.was i hi;have:=a.now i hi;omega) hi;show 0<=A.now i+Ce (λk=>A.was k-A.now k) (A.sup-AS A.now A.n) A.n i/\A.now i+Ce (λk=>A.was k-A.now k) (A.sup-AS A.now A.n) A.n i<=1048576;omega
section
variable {h g:PH} {R:RT} {x:Nat} {nm:Nm} {S:Hs} {C:PH->Prop}
theorem fZ {gd:Nat} (H:HsN x nm S h) (hn:nm.ok S) (m:S.ok) (b:gd<S.G) (j:∀g,HsN x nm (CW S gd) g->R (.ret (.tuple #[])) g) :
  A7 Tryz.prog 104 #[ptr x,.int .i64 gd] h R:=by
 refine jD ?_;unfold lT eXW ivW pnW;have hcl:=m.cl;have hn1:=m.n1;simp only[BO,AH,Ad];refine H.f.sale b λd hd=>?_;have J:(HsN x nm S•pt d (.cells #[Bg nm S gd,.int .i64 (CV S gd)] 98 (0,0))) (ins h d (.cells #[Bg nm S gd,.int .i64 (CV S gd)] 98 (0,0))):=BX (Ar hd H);revert J;generalize ins h d (.cells #[Bg nm S gd,.int .i64 (CV S gd)] 98 (0,0))=G;intro J;have E:=AM (BX J);simp only[AH,Ad];unfold CW at j;cases c:S.au gd with
 | none=>
  rw[c]at j;have hP:Bg nm S gd = .pointer none:=by unfold Bg;rw[c]
  rw[A5 E (v:=.pointer none) (by rw[hP];rfl),M4 Tryz.underlying96,AB];exact⟨λ_=>j _ (AJ HsN.mono J),λe=>absurd e (by simp)⟩
 | some q=>
  obtain⟨A,w⟩:=q;rw[c]at j;simp only at j;obtain⟨f,I,hAn,hw0,hwn⟩:=m.au gd A w b c;have hP:Bg nm S gd=ptr (nm.aa gd):=by unfold Bg;rw[c]
  have hW:CV S gd=w:=by unfold CV;rw[c]
  rw[hP,hW]at J E;rw[A5 E (v:=ptr (nm.aa gd)) rfl,As Tryz.underlying96,AB];refine nF ?_;have F1:=(AJ HsN.mono J).f;rw[A5 F1.hx (show (GD nm S)[1]?=some (.int .i64 S.L.n)from rfl)];refine⟨_,_,_,_,rfl,rfl,by omega,by omega,by omega,by omega,λK hhb=>?_⟩;simp only[BR,LD,BQ];have H2:(pt K (Dm (λ_=>0) S.L.n)•HsN x nm S•pt d (.cells #[ptr (nm.aa gd),.int .i64 w] 98 (0,0))) (ins G K (Dm (λ_=>0) S.L.n)):=Ar hhb J;refine fV (F:=(_,_,_,_,_)) b c f hcl H2 rfl rfl rfl λg3 H3=>?_;intro r hr;simp only[Prod.mk.injEq]at hr;obtain⟨r0,r1,r4,r5⟩:=hr;simp only[r0,r1,r4,r5,AH,Ad];have hdd3:=AM (BX (AF (A8 _ _) H3));rw[A5 hdd3 (v:=ptr (nm.aa gd)) rfl];have F3:=(AJ HsN.mono (AF (A8 _ _) H3)).f;refine VT (F3.au gd (A,w) b c) f I ?_;simp only[AK.elim,Av,Au,Bm,AB];have z:=IJ f;have e3:pt K (Dm (λi=>Ae A i) S.L.n)•HsN x nm S•pt d (.cells #[ptr (nm.aa gd),.int .i64 w] 98 (0,0))=HsN x nm S•pt K (Dm (λi=>Ae A i) S.L.n)•pt d (.cells #[ptr (nm.aa gd),.int .i64 w] 98 (0,0)):=by ac_rfl
  rw[e3]at H3;have O:=HsN.auc (B:=(AV A).2.2) b c H3;have V:∀i:Nat,0<=Ae A i/\Ae A i<=1152921504606846976:=λi=>Dr f i;cases l:(AV A).1 with
  | false=>
   rw[l]at j;simp only[if_true]at j;obtain⟨k0,k1,k2⟩:=JF I f.rnd l;refine nT ?_;simp only[BQ];refine fj (F:=(_,_,_,_)) (A:=(AV A).2.2) (w:=w) (held:=λi=>Ae A i) b z (by rw[k1,hAn]) k2 m.led V O rfl rfl rfl rfl λg5 M=>?_;intro r2 y;exact j _ M
  | true=>
   rw[l]at j;simp only[Bool.true_eq_false,if_false]at j;obtain⟨k0,k1,k2⟩:=Ii I l;refine nF ?_;revert O;generalize Ci g3 (nm.aa gd) (nm.ab gd) (AV A).2.2=g4;intro O;generalize hN:(AV A).2.2=N at *;have F4:=(AJ HsN.mono O).f;have s:=AM (BX (AF (A8 _ _) O));rw[A5 s (v:=ptr (nm.aa gd)) rfl];have u:(S.setAu gd (some (N,w))).au gd=some (N,w):=by simp[Hs.setAu]
   have hNn:N.n=S.L.n:=by rw[k1,hAn]
   have Q:=L8 z k0;refine VS (F4.au gd (N,w) b u) z k0 λgb g5 hgb T U=>?_;have M:=eI hgb T U O;simp only[AK.elim,Ek,Ej,Ei];have F5:=(AJ HsN.mono (AF (A8 _ _) M)).f;have Z:=T _ _ s;rw[A5 Z (v:=ptr (nm.aa gd)) rfl];refine Rw (F5.au gd (N,w) b u) ?_;simp only[AK.elim,BQ];rw[hNn]at M ⊢
   have e5:pt gb (.cells (row (BD N).2 S.L.n) 3 (0,0))•HsN x nm (S.setAu gd (some (N,w)))•pt K (Dm (λi=>Ae A i) S.L.n)•pt d (.cells #[ptr (nm.aa gd),.int .i64 w] 98 (0,0)) =
     HsN x nm (S.setAu gd (some (N,w)))•pt K (Dm (λi=>Ae A i) S.L.n)•pt gb (Dm (BD N).2 S.L.n)•pt d (.cells #[ptr (nm.aa gd),.int .i64 w] 98 (0,0)):=by ac_rfl
   rw[e5]at M;obtain⟨a,P⟩:∃a:Nat,w=a:=⟨w.toNat,by omega⟩;subst P;have hsup:=f.sup;refine db (S:=S.setAu gd (some (N,(a:Int)))) (F:=(_,_,_,_,_,_,_)) (w:=a) (pa:=ptr (nm.aa gd)) (held:=λi=>Ae A i) (got:=(BD N).2) (sup:=N.sup) (p:=(BD N).1) m.led (by show a<S.L.n;omega) Q.1 (by rw[k2];omega) V (λi hi=>Q.2 i (by rw[hNn];exact hi)) M rfl rfl rfl rfl rfl rfl rfl λg6 H6 hI6 W X hl6=>?_;intro r2 y;simp only[Prod.mk.injEq]at y;obtain⟨q0,q1,q4,q15⟩:=y;simp only[q0,q1,q4,q15,AH,Ad];rw[BR]at j;have hRS:(Be (gd:Int) a (BD N).1 (λi=>Ae A i) (BD N).2 ((S.setAu gd (some (N,(a:Int)))).L,N.sup) (S.setAu gd (some (N,(a:Int)))).L.n)=Be (gd:Int) a (BD N).1 (λi=>Ae A i) (BD N).2 (S.L,A.sup) S.L.n:=by rw[k2];rfl
   rw[hRS]at H6 hI6 W X hl6 ⊢;generalize Be (gd:Int) a (BD N).1 (λi=>Ae A i) (BD N).2 (S.L,A.sup) S.L.n=t at *;have Y:=AM (BX H6);rw[A5 Y (v:=.int .i64 a) rfl];simp only[Vp];rw[w64 (by omega) (by omega),show (0:Int)-t.2 = -t.2 by omega];refine Ri (L:=t.1) ((AJ HsN.mono H6).f).lx hI6 (by rw[W];show a<S.L.n;omega) (by omega) ?_;simp only[AK.elim,BO,AH,Ad];have D:=Cw t.1 a gd (-t.2);have H7:=HsN.led (L':=BY t.1 a gd (-t.2)) H6 D.1 D.2;have F7:=(AJ HsN.mono H7).f
   have eG:(((S.setAu gd (some (N,(a:Int)))).setL t.1).setL (BY t.1 a gd (-t.2))).G=S.G:=by
    unfold Hs.G Hs.setL;simp only;rw[D.1,X];rfl
   rw[A5 F7.hx (v:=.slice (some ⟨nm.ss,0,none⟩) (((S.setAu gd (some (N,(a:Int)))).setL t.1).setL (BY t.1 a gd (-t.2))).G (((S.setAu gd (some (N,(a:Int)))).setL t.1).setL (BY t.1 a gd (-t.2))).G) rfl];refine⟨#[.pointer none,.int .i64 0],rfl,?_⟩;refine (B9 _ _ _ _ _ _ _).2 ⟨by omega,by rw[eG];omega,?_⟩;rw[show 0+(gd:Int).toNat*2=gd*2 by omega];rw[Hx (n:=2) (v:=.agg #[.pointer none,.int .i64 0]) F7.hs rfl (by rw[Dz,eG];omega) (by rfl)];have H8:=HsN.close (i:=gd) (by rw[eG];exact b) H7
   have o:=QB (nm:=nm) (nm':=nm) (S:=((S.setAu gd (some (N,(a:Int)))).setL t.1).setL (BY t.1 a gd (-t.2))) (S':=(((S.setAu gd (some (N,(a:Int)))).setL t.1).setL (BY t.1 a gd (-t.2))).setAu gd none) (i:=gd) (by rw[eG];exact b) rfl
    (λk m=>by unfold Bg Hs.setAu Hs.setL;simp[m]) (λk m=>by unfold CV Hs.setAu Hs.setL;simp[m])
   have hP8:Bg nm ((((S.setAu gd (some (N,(a:Int)))).setL t.1).setL (BY t.1 a gd (-t.2))).setAu gd none) gd = .pointer none:=by unfold Bg Hs.setAu;simp
   have hW8:CV ((((S.setAu gd (some (N,(a:Int)))).setL t.1).setL (BY t.1 a gd (-t.2))).setAu gd none) gd=0:=by unfold CV Hs.setAu;simp
   rw[hP8,hW8]at o;rw[show (Value.agg #[.pointer none,.int .i64 0]).cells.toList = [.pointer none,.int .i64 0]from rfl,o]
   have eS:(((S.setAu gd (some (N,(a:Int)))).setL t.1).setL (BY t.1 a gd (-t.2))).setAu gd none=(S.setAu gd none).setL (BY t.1 a gd (-t.2)):=by
    unfold Hs.setAu Hs.setL;simp only[Hs.mk.injEq,true_and]
    funext k
    split <;> simp_all
   rw[eS]at H8 ⊢;exact j _ (AJ HsN.mono H8)
end
def B1:List Fil->Int->Int
 | [],_=>0
 | f::fs,id=>(if f.id=id then f.am else 0)+B1 fs id
theorem Eu (id:Int):∀(a b:List Fil),B1 (a++b) id=B1 a id+B1 b id
 | [],b=>by simp[B1]
 | f::a,b=>by simp only[List.cons_append,B1,Eu id a b];omega
theorem MV {id:Int}:∀{fs:List Fil},(∀f∈fs,0<=f.am)->0<=B1 fs id
 | [],_=>by simp[B1]
 | f::fs,h=>by
  have c:=MV (id:=id) λx a=>h x (List.mem_cons_of_mem f a);have b:=h f (by simp);simp only[B1]
  split <;> omega
def Du (fs:List Fil) (o:Ord):Ord:={o with am:=o.am-B1 fs o.id}
abbrev Ids (l:List Ord):Prop:=l.Pairwise λx y=>x.id≠y.id
theorem Rg {l:List Ord} (h:Ids l) {j k:Nat} {p o:Ord} (m:l[j]?=some p) (i:l[k]?=some o) (g:j≠k):p.id≠o.id:=by
 obtain⟨d,c⟩:=Bc.1 m;obtain⟨b,a⟩:=Bc.1 i;have f:=List.pairwise_iff_getElem.1 h
 rcases Nat.lt_or_gt_of_ne g with hl | hl
 ·have:=f j k d b hl;rw[c,a]at this;exact this
 ·have:=f k j b d hl;rw[c,a]at this;exact λe=>this e.symm
theorem Oe {l:List Ord} (h:Ids l) {p o:Ord} (c:p∈l) (d:o∈l) (e:p.id=o.id):p=o:=by
 obtain⟨j,b⟩:=List.mem_iff_getElem?.1 c;obtain⟨k,a⟩:=List.mem_iff_getElem?.1 d
 rcases Nat.decEq j k with ne | rfl
 ·exact absurd e (Rg h b a ne)
 ·rw[b]at a;cases a;rfl
theorem Z2 {l:List Ord} (h:Ids l) (f:Fil):GK l f=l.map (Du [f]):=by
 unfold GK;cases hi:idx l f.id with
 | none=>
  have d:=LQ hi
  have:l.map (Du [f])=l.map id:=List.map_congr_left λo b=>by
   have:=d o b;simp[Du,B1,Ne.symm this]
  rw[this,List.map_id]
 | some k=>
  obtain⟨g,⟨o,b,a⟩,_⟩:=Dt hi;simp only[b];apply List.ext_getElem?;intro j;rw[List.getElem?_map]
  by_cases e:j=k
  ·subst e;rw[List.getElem?_set_self g,b];simp[Du,B1,a]
  ·rw[List.getElem?_set_ne (Ne.symm e)]
   cases i:l[j]? with
   | none=>rfl
   | some p=>
    have c:p.id≠f.id:=by rw[<-a];exact Rg h i b e
    simp[Du,B1,Ne.symm c]
theorem WY {l:List Ord} (h:Ids l) (fs:List Fil):Ids (l.map (Du fs)):=List.Pairwise.map _ (λ_ _ h=>h) h
theorem Qa:∀(fs:List Fil) {l:List Ord},Ids l->fs.foldl GK l=l.map (Du fs)
 | [],l,h=>by
  have:l.map (Du [])=l.map id:=List.map_congr_left λo _=>by simp[Du,B1]
  rw[this,List.map_id];rfl
 | f::fs,l,h=>by
  rw[List.foldl_cons,Z2 h f,Qa fs (WY h [f]),List.map_map];refine List.map_congr_left λo _=>?_;simp only[Function.comp,Du,B1,Int.add_zero]
  congr 1
  omega
theorem Vy {s:Int×List Fil} {o:Ord} {id:Int} (h:o.id≠id):B1 (stF s o).2 id=B1 s.2 id:=by
 unfold stF
 split
 ·simp[Eu,B1,h]
 ·rfl
theorem mC {s:Int×List Fil} {o:Ord} (h:0<=o.am):B1 (stF s o).2 o.id<=B1 s.2 o.id+o.am:=by
 unfold stF
 split
 ·simp only[Eu,B1,if_true];omega
 ·omega
theorem IT {id:Int}:∀(l:List Ord) (s:Int×List Fil),(∀o∈l,o.id≠id)->B1 (l.foldl stF s).2 id=B1 s.2 id
 | [],s,_=>rfl
 | o::l,s,h=>by rw[List.foldl_cons,IT l _ λx a=>h x (by simp[a]),Vy (h o (by simp))]
theorem TU {o:Ord} (b:0<=o.am):∀(l:List Ord) (s:Int×List Fil),Ids l->o∈l->B1 (l.foldl stF s).2 o.id<=B1 s.2 o.id+o.am
 | [],s,_,h=>by cases h
 | x::l,s,hI,h=>by
  have a:=List.pairwise_cons.1 hI;rw[List.foldl_cons]
  rcases List.mem_cons.1 h with rfl | h
  ·rw[IT l _ λy c=>(a.1 y c).symm]
   exact mC b
  ·have:=TU b l (stF s x) a.2 h
   rw[Vy (a.1 o h)]at this;exact this
theorem aT {l:List Ord} (h:Ids l) (b:Bool) (p:Int):Ids (CT (CZ l b p)):=by
 have a:Ids (CZ l b p):=List.Pairwise.filter _ (List.Pairwise.filter _ h);exact ((Cj _).pairwise_iff (λh=>Ne.symm h)).2 a
theorem I5 {l:List Ord} {b:Bool} {p:Int} {o:Ord} (e:o∈CT (CZ l b p)):o∈l/\B0 o=true/\o.buys=b:=by
 have f:=(Cj _).mem_iff.1 e;have d:=List.mem_filter.1 f;have c:=List.mem_filter.1 d.1;have a:=d.2;unfold BP at a;simp only[CF]at a;exact⟨c.1,c.2,a.1⟩
theorem Gd {l:List Ord} (h:Ids l) (q:∀o∈l,B0 o=true) {p n:Int} {o:Ord} (j:o∈l):0<=B1 (DK l p n) o.id/\B1 (DK l p n) o.id<=o.am:=by
 refine⟨MV λf r=>by obtain⟨_,_,_,_,_,t,_⟩:=Gx r;omega,?_⟩;have m:=Am.1 (q o j)
 have a:∀b,b≠o.buys->∀x∈CT (CZ l b p),x.id≠o.id:=λb g x d e=>by
  obtain⟨c,_,s⟩:=I5 d;have:=Oe h c j e;subst this;exact g s.symm
 have own:∀b (out:List Fil),B1 (Ed (CT (CZ l b p)) n out) o.id<=B1 out o.id+o.am:=λb out=>by
  unfold Ed
  by_cases k:o∈CT (CZ l b p)
  ·exact TU (by omega) _ _ (aT h b p) k
  ·rw[IT _ _ λx d e=>k (by
    have c:=I5 d;have:=Oe h c.1 j e;subst this;exact d)]
   simp only;omega
 unfold DK;cases g:o.buys with
 | true=>
  have c:B1 (Ed (CT (CZ l false p)) n (Ed (CT (CZ l true p)) n [])) o.id=B1 (Ed (CT (CZ l true p)) n []) o.id:=IT _ _ (a false (by rw[g];decide));have i:=own true [];rw[c]
  simpa [B1]using i
 | false=>
  have c:B1 (Ed (CT (CZ l true p)) n []) o.id=B1 [] o.id:=IT _ _ (a true (by rw[g];decide));have i:=own false (Ed (CT (CZ l true p)) n []);rw[c]at i
  simpa [B1]using i
def QX (B:Bk):List Ord:=(B.l.map (Du (AE B).fs)).filter λo=>!decide (o.am=0)
theorem JM {B:Bk} (a:B.ok):(AE B).B = {next:=B.next,l:=QX B}:=by
 show ({B with l:=((AE B).fs.foldl GK B.l).filter λo=>!decide (o.am=0)}:Bk)=_;rw[Qa _ a.ids];rfl
theorem Je {B:Bk} (c:B.ok) {o:Ord} (d:o∈QX B):∃x∈B.l,o=Du (AE B).fs x/\1<=o.am/\o.am<=x.am:=by
 obtain⟨f,a⟩:=List.mem_filter.1 d;obtain⟨x,b,rfl⟩:=List.mem_map.1 f;have g:=Gd c.ids c.right (p:=(AE B).p) (n:=(AE B).n) b;have e:(AE B).fs=DK B.l (AE B).p (AE B).n:=rfl;refine⟨x,b,rfl,?_⟩;simp only[Bool.not_eq_true',D9]at a;unfold Du at a ⊢;rw[e]at a ⊢;simp only at a ⊢;omega
theorem YL {B:Bk} (a:B.ok):(AE B).B.ok:=by
 rw[JM a];refine⟨λo c=>?_,?_,?_,λo c=>?_,?_,a.nx⟩
 ·obtain⟨x,b,rfl,d,e⟩:=Je a c
  have:=Am.1 (a.right x b);refine Am.2 ⟨this.1,this.2.1,this.2.2.1,this.2.2.2.1,this.2.2.2.2.1,this.2.2.2.2.2.1,d,by omega⟩
 ·exact List.Pairwise.filter _ (WY a.ids _)
 ·exact List.Pairwise.filter _ (List.Pairwise.map _ (λ_ _ h=>h) a.pls)
 ·obtain⟨x,b,rfl,_⟩:=Je a c
  exact a.pl x b
 ·have d:=List.length_filter_le (λo=>!decide (o.am=0)) (B.l.map (Du (AE B).fs))
  rw[List.length_map]at d;have e:=a.len;show (QX B).length<=64;unfold QX;omega
theorem OT {gd p:Int} {n:Nat} {G:Int}:∀(k:Nat) (L:Led) (bu a:List Fil),Inv L/\L.n=n/\L.goods=G->BH n bu->BH n a->Inv (CD gd p k L bu a)/\(CD gd p k L bu a).n=n/\(CD gd p k L bu a).goods=G
 | 0,L,bu,a,h,_,_=>by cases bu <;> cases a <;> exact h
 | k+1,L,[],a,h,_,_=>by rw[Ff];exact h
 | k+1,L,b::bs,[],h,_,_=>by rw[HR];exact h
 | k+1,L,b::bs,s::ss,h,hb,hs=>by
  have g:=hb b (by simp);have f:=hs s (by simp);have e:0<min b.am s.am/\min b.am s.am<=b.am:=by omega
  have d:0<min b.am s.am/\min b.am s.am<=s.am:=by omega
  have c:=EU L s.own.toNat b.own.toNat gd p (min b.am s.am);show Inv (CD gd p k _ _ _)/\_;exact OT k _ _ _ ⟨Et h.1 (by rw[h.2.1];omega) (by rw[h.2.1];omega) _ _ _,by rw[c.2];exact h.2.1,by rw[c.1];exact h.2.2⟩ (hb.next e) (hs.next d)
theorem Ma {S:Hs} (d:S.ok) {gd:Nat} (a:gd<S.G):∀f∈(AE (S.bk gd)).fs,BH S.L.n [f]:=λf e x b=>by
 obtain⟨o,c,g,n,m,k,j⟩:=Gx (l:=(S.bk gd).l) e;have i:=Am.1 g;have h:=d.own gd a o c;simp at b;rw[b];omega
theorem Sc {S:Hs} (c:S.ok) {gd:Nat} (b:gd<S.G):(Inv (I4 S gd).L/\(I4 S gd).L.n=S.L.n/\(I4 S gd).L.goods=S.L.goods)/\BH S.L.n (I4 S gd).bu/\BH S.L.n (I4 S gd).se:=by
 have g:∀(fs:List Fil) (t:Spl),(∀f∈fs,BH S.L.n [f])->((Inv t.L/\t.L.n=S.L.n/\t.L.goods=S.L.goods)/\BH S.L.n t.bu/\BH S.L.n t.se) ->
   ((Inv (fs.foldl (Cu (AE (S.bk gd)).p (S.bk gd).l) t).L/\(fs.foldl (Cu (AE (S.bk gd)).p (S.bk gd).l) t).L.n=S.L.n/\(fs.foldl (Cu (AE (S.bk gd)).p (S.bk gd).l) t).L.goods=S.L.goods) /\
    BH S.L.n (fs.foldl (Cu (AE (S.bk gd)).p (S.bk gd).l) t).bu/\BH S.L.n (fs.foldl (Cu (AE (S.bk gd)).p (S.bk gd).l) t).se):=λfs=>by
  induction fs with
  | nil=>intro t _ h;exact h
  | cons f fs ih=>
   intro t a h;have d:=a f (by simp);have f1:=d f (by simp);exact ih _ (λx e=>a x (by simp[e])) ⟨OD ⟨f1.1,f1.2.1⟩ _ _ h.1,RM d _ _ h.2⟩
 exact g _ _ (Ma c b) ⟨⟨c.led,rfl,rfl⟩,λf a=>(by cases a),λf a=>(by cases a)⟩
theorem F0 {S:Hs} (b:S.ok) {gd:Nat} (a:gd<S.G):Inv (CU S gd).L/\(CU S gd).L.n=S.L.n/\(CU S gd).L.goods=S.L.goods:=by
 have h:=Sc b a;exact OT _ _ _ _ h.1 h.2.1 h.2.2
theorem IW {S:Hs} (b:S.ok) {gd:Nat} (a:gd<S.G):(CU S gd).ok:=by
 obtain⟨k,d,j⟩:=F0 b a;have e:(CU S gd).G=S.G:=by unfold Hs.G;rw[j]
 have f:∀i,(CU S gd).bk i=if i=gd then (AE (S.bk gd)).B else S.bk i:=λi=>rfl
 refine⟨k,by rw[d];exact b.n1,λi hi=>?_,λi hi o c=>?_,λi A w hi h=>?_,b.now⟩
 ·rw[e]at hi
  rw[f]
  split
  ·exact YL (b.bk gd a)
  ·exact b.bk i hi
 ·rw[e]at hi
  rw[d];rw[f]at c
  split at c
  ·rw[JM (b.bk gd a)]at c
   obtain⟨x,g,rfl,_⟩:=Je (b.bk gd a) c;exact b.own gd a x g
  ·exact b.own i hi o c
 ·rw[e]at hi
  rw[d];exact b.au i A w hi h
theorem JC {L:Led} {A:Auc} (c:Inv L) (d:A.ok) (held:Nat->Int):∀k,k<=L.n->Inv (BT held (L,A) k).1/\(BT held (L,A) k).1.n=L.n/\(BT held (L,A) k).1.goods=L.goods/\(BT held (L,A) k).2.ok/\(BT held (L,A) k).2.ste=A.ste/\(BT held (L,A) k).2.n=A.n
 | 0,_=>⟨c,rfl,rfl,d,rfl,rfl⟩
 | k+1,hle=>by
  obtain⟨j,e,i,h,g,f⟩:=JC c d held k (by omega);show Inv (E9 held (BT held (L,A) k) k).1/\(E9 held (BT held (L,A) k) k).1.n=L.n/\(E9 held (BT held (L,A) k) k).1.goods=L.goods/\(E9 held (BT held (L,A) k) k).2.ok/\(E9 held (BT held (L,A) k) k).2.ste=A.ste/\(E9 held (BT held (L,A) k) k).2.n=A.n;generalize BT held (L,A) k=t at *;unfold E9;simp only;have a:=λn=>BK t.1 k n;have b:=λn=>Mc t.2 (k:Int) n;exact⟨DS j (by rw[e];omega) _,by rw[(a _).2,e],by rw[(a _).1,i],Lh h _ _,by rw[(b _).1,g],by rw[(b _).2.2.1,f]⟩
theorem Gk {L:Led} (d:Inv L) (gd:Int) {w:Nat} (c:w<L.n) (p:Int) (held got:Nat->Int) (sup:Int):∀k,k<=L.n->Inv (Be gd w p held got (L,sup) k).1/\(Be gd w p held got (L,sup) k).1.n=L.n/\(Be gd w p held got (L,sup) k).1.goods=L.goods
 | 0,_=>⟨d,rfl,rfl⟩
 | k+1,hle=>by
  obtain⟨g,a,f⟩:=Gk d gd c p held got sup k (by omega);show Inv (Gj gd w p held got (Be gd w p held got (L,sup) k) k).1/\(Gj gd w p held got (Be gd w p held got (L,sup) k) k).1.n=L.n/\(Gj gd w p held got (Be gd w p held got (L,sup) k) k).1.goods=L.goods;generalize Be gd w p held got (L,sup) k=t at *;unfold Gj;simp only;have b:=EU t.1 w k gd p (got k);have e:=BK (BJ t.1 w k gd p (got k)) k (p*got k-held k);exact⟨DS (Et g (by rw[a];exact c) (by rw[a];omega) _ _ _) (by rw[b.2,a];omega) _,by rw[e.2,b.2,a],by rw[e.1,b.1,f]⟩
theorem XV {S:Hs} (b:S.ok) {gd:Nat} (r:gd<S.G):(CW S gd).ok/\(CW S gd).L.n=S.L.n/\(CW S gd).L.goods=S.L.goods/\(CW S gd).now=S.now:=by
 unfold CW;cases s:S.au gd with
 | none=>exact⟨b,rfl,rfl,rfl⟩
 | some q=>
  obtain⟨A,w⟩:=q;simp only;obtain⟨h,x,v,l,k⟩:=b.au gd A w r s;have n:=IJ h;cases m:(AV A).1 with
  | false=>
   obtain⟨D,C,E⟩:=JF x h.rnd m;simp only[if_true];obtain⟨j,c,g,B,z,y⟩:=JC b.led n (λi=>Ae A i) S.L.n (Nat.le_refl _);generalize BT (λi=>Ae A i) (S.L,(AV A).2.2) S.L.n=t at *;have e:((S.setAu gd (some (t.2,w))).setL t.1).G=S.G:=by unfold Hs.G Hs.setL;simp only;rw[g]
   refine⟨⟨j,by show 1<=t.1.n;rw[c];exact b.n1,λi hi=>b.bk i (by rw[e]at hi;exact hi),λi hi o p=>?_,λi A' d hi u=>?_,b.now⟩,c,g,rfl⟩
   ·show o.own<t.1.n;rw[c];exact b.own i (by rw[e]at hi;exact hi) o p
   ·rw[e]at hi
    have a:(if i=gd then some (t.2,w)else S.au i)=some (A',d):=u;show A'.ok/\A'.ste=0/\A'.n=t.1.n/\0<=d/\d<t.1.n;rw[c]
    split at a
    ·cases a
     exact⟨B,by rw[z,D],by rw[y,C,v],l,k⟩
    ·exact b.au i A' d hi a
  | true=>
   simp only[Bool.true_eq_false,if_false];obtain⟨j,c,g⟩:=Gk b.led gd (w:=w.toNat) (by omega) (BD (AV A).2.2).1 (λi=>Ae A i) (BD (AV A).2.2).2 A.sup S.L.n (Nat.le_refl _);generalize Be (gd:Int) w.toNat (BD (AV A).2.2).1 (λi=>Ae A i) (BD (AV A).2.2).2 (S.L,A.sup) S.L.n=t at *;have f:=Cw t.1 w.toNat gd (-t.2);have e:((S.setAu gd none).setL (BY t.1 w.toNat gd (-t.2))).G=S.G:=by unfold Hs.G Hs.setL;simp only;rw[f.1,g]
   refine⟨⟨Jh j (by rw[c];omega) _ _,by show 1<=(BY t.1 w.toNat gd (-t.2)).n;rw[f.2,c];exact b.n1,λi hi=>b.bk i (by rw[e]at hi;exact hi),λi hi o p=>?_,λi A' d hi u=>?_,b.now⟩,by show (BY t.1 w.toNat gd (-t.2)).n=_;rw[f.2,c],by show (BY t.1 w.toNat gd (-t.2)).goods=_;rw[f.1,g],rfl⟩
   ·show o.own<(BY t.1 w.toNat gd (-t.2)).n;rw[f.2,c];exact b.own i (by rw[e]at hi;exact hi) o p
   ·rw[e]at hi
    have a:(if i=gd then none else S.au i)=some (A',d):=u;show A'.ok/\A'.ste=0/\A'.n=(BY t.1 w.toNat gd (-t.2)).n/\0<=d/\d<(BY t.1 w.toNat gd (-t.2)).n;rw[f.2,c]
    split at a
    ·cases a
    ·exact b.au i A' d hi a
theorem FW {S:Hs} (c:S.ok):∀k,k<=S.G->(Bd S k).ok/\(Bd S k).L.n=S.L.n/\(Bd S k).L.goods=S.L.goods/\(Bd S k).now=S.now
 | 0,_=>⟨c,rfl,rfl,rfl⟩
 | k+1,hle=>by
  obtain⟨d,m,a,l⟩:=FW c k (by omega);have e:(Bd S k).G=S.G:=by unfold Hs.G;rw[a]
  obtain⟨p,o,f⟩:=F0 d (gd:=k) (by rw[e];omega);have n:=IW d (gd:=k) (by rw[e];omega);have b:(CU (Bd S k) k).G=S.G:=by unfold Hs.G;rw[f,a]
  obtain⟨j,i,h,g⟩:=XV n (gd:=k) (by rw[b];omega);exact⟨j,by rw[<-m,<-o];exact i,by rw[<-a,<-f];exact h,by rw[<-l];exact g⟩
def Hs.setNow (S:Hs) (v:Int):Hs:={S with now:=v}
theorem I6 {S:Hs} (a:S.ok) {v:Int} (b:0<=v/\v<=9007199254740992):(S.setNow v).ok:=⟨a.led,a.n1,a.bk,a.own,a.au,b⟩
theorem Kr {S:Hs} (f:S.ok):(Da S).2.2.ok/\(Da S).2.2.L.n=S.L.n/\(Da S).2.2.L.goods=S.L.goods/\0<=(Da S).1/\(Da S).1<=9007199254740992/\((Da S).2.1=0\/(Da S).2.1=2):=by
 unfold Da;have h:=f.now
 split
 ·exact⟨f,rfl,rfl,by simp,by simp,by simp⟩
 ·have g:=FW (S:=S.setNow (S.now+1)) (I6 f (by omega)) S.G (Nat.le_refl _)
  obtain⟨a,b,c,d⟩:=g;have e:(S.setNow (S.now+1)).now=S.now+1:=rfl;rw[e]at d;have d2:(Bd {S with now:=S.now+1} S.G).now=S.now+1:=d;refine⟨a,b,c,?_,?_,.inl rfl⟩
  ·show 0<=(Bd {S with now:=S.now+1} S.G).now;rw[d2];omega
  ·show (Bd {S with now:=S.now+1} S.G).now<=_;rw[d2];omega
section
variable {h g:PH} {R:RT} {x:Nat} {nm:Nm} {S:Hs} {C:PH->Prop}
theorem HsN.now (H:(HsN x nm S•C) h) (v:Int):(HsN x nm (S.setNow v)•C) (ins h x (hsO nm (S.setNow v))):=by
 unfold HsN at H ⊢;rw[Bf]at H ⊢;have e:saO nm (S.setNow v)=saO nm S:=rfl;have d:bkP nm (S.setNow v)=bkP nm S:=rfl;have c:auP nm (S.setNow v)=auP nm S:=rfl;have b:(S.setNow v).G=S.G:=rfl;have a:(S.setNow v).L=S.L:=rfl;rw[e,d,c,b,a];exact Bb H
theorem Nm.ok.to {S':Hs} (a:nm.ok S) (e:S'.L.goods=S.L.goods):nm.ok S':=by
 have b:S'.G=S.G:=by unfold Hs.G;rw[e]
 exact⟨λi hi=>a.cb i (by rw[b]at hi;exact hi),by rw[b];exact a.cap⟩
theorem mw {who:Value} {o:OpV} (H:HsN x nm S h) (O:nm.ok S) (w:S.ok) (d:∀g,HsN x nm (Da S).2.2 g->R (.ret (.tuple #[.int .i64 (Da S).1,.int .i64 (Da S).2.1])) g) :
  A7 Tryz.prog 63 #[ptr x,who,o.v] h R:=by
 refine nu ?_;unfold py eXW ivW pnW;rw[show Value.cells o.v=o.a from rfl];refine AX λc Q=>?_;have p:(HsN x nm S•pt c (.cells o.a 25 (0,0))) (ins h c (.cells o.a 25 (0,0))):=BX (Ar Q H);revert p;generalize ins h c (.cells o.a 25 (0,0))=G;intro p;have L:=AJ HsN.mono p;have F:=L.f;have P:=w.g;unfold Da at d;simp only[BO,AH,Ad];rw[A5 F.hx (show (GD nm S)[3]?=some (.int .i64 S.now)from rfl),BC,AB]
 by_cases k:S.now=9007199254740992
 ·rw[if_pos k]at d
  simp only[k,B6];exact⟨λ_=>d _ L,λe=>absurd e (by simp)⟩
 ·rw[if_neg k]at d
  simp only[k,BW];refine nF ?_;have J:=w.now;rw[A5 F.hx (show (GD nm S)[3]?=some (.int .i64 S.now)from rfl),AG,w64 (by omega) (by omega)];rw[Aw F.hx (by show 3<6;omega) rfl];have M:=HsN.now p (S.now+1);have V:(Obj.cells ((GD nm S).setIfInBounds 3 (.int .i64 (S.now+1))) 85 (0,0))=hsO nm (S.setNow (S.now+1)):=rfl;rw[V];have A:=I6 w (v:=S.now+1) (by omega);have s:nm.ok (S.setNow (S.now+1)):=O.to rfl;have z:Bd {S with now:=S.now+1} S.G=Bd (S.setNow (S.now+1)) S.G:=rfl;simp only[z]at d;have y:(S.setNow (S.now+1)).L.goods=S.L.goods:=rfl;have j:(S.setNow (S.now+1)).G=S.G:=rfl;generalize S.setNow (S.now+1)=T at *;have X:=(AJ HsN.mono M).f;rw[A5 X.hx (show (GD nm T)[2]?=some (.int .i64 T.L.goods)from rfl)];rw[y,P.1];refine AL (λm I g=>∃i:Nat,I = .int .i64 i/\m=S.G-i/\i<=S.G/\HsN x nm (Bd T i) g) S.G ⟨0,rfl,rfl,by omega,AJ HsN.mono M⟩ ?_;rintro m I g ⟨i,rfl,rfl,hi,Hg⟩
  by_cases a:i<S.G
  ·obtain⟨t1,t2,t3,t4⟩:=FW A i (by rw[j];omega)
   have n:(Bd T i).G=S.G:=by rw[<-j];unfold Hs.G;rw[t3]
   have b:Bd T (i+1)=CW (CU (Bd T i) i) i:=rfl;have f:nm.ok (Bd T i):=s.to t3;generalize Bd T i=U at *
   have key:∀(q:V2->Value->PH->Prop) E,(∀l,HsN x nm (CW (CU U i) i) l->q (ptr x,.int .i64 S.G) (.int .i64 ((i:Int)+1)) l) ->
     U2 (λc h=>R (.pan c) h) E (ptr x,.int .i64 S.G) q (.int .i64 i) g:=by
    intro q E u;unfold U2 ivW;have t:(i:Int)<(S.G:Int):=by omega
    simp only[AC,t,B6,AB];refine nT ?_;refine fg Hg f t1 (by rw[n];exact a) λl D=>?_;simp only[AK.elim];have K:=F0 t1 (gd:=i) (by rw[n];exact a);refine fZ D (f.to K.2.2) (IW t1 (by rw[n];exact a)) (by unfold Hs.G;rw[K.2.2];show i<U.G;rw[n];exact a) λY B=>?_;simp only[AK.elim,AG];rw[w64 (by omega) (by omega)];exact u _ B
   exact key _ _ λl W=>⟨rfl,S.G-(i+1),by omega,i+1,rfl,rfl,by omega,by rw[b];exact W⟩
  ·have e:i=S.G:=by omega
   subst e;unfold U2 ivW;simp only[AC,AB];refine nF ?_;intro r N;simp only[N,BO,AH,Ad];rw[A5 Hg.f.hx (show (GD nm (Bd T S.G))[3]?=some (.int .i64 (Bd T S.G).now)from rfl)];exact d _ Hg
end
def UK (k:Int):Option Nat:=
 if k=1 then some 63 else if k=2 then some 64 else if k=3 then some 66 else if k=4 then some 68 else if k=5 then some 70 else
 if k=6 then some 72 else if k=7 then some 73 else if k=8 then some 74 else if k=9 then some 75 else if k=10 then some 76 else none
def fnV:Option Nat->Value
 | some f=>.func (.func f) #[] #[]
 | none=>.nilFunc
def N7 (k:Int) (f born:Nat):MapEntry:={key:=.int .i64 k,val:=.func (.func f) #[] #[],born:=born}
def ly:List MapEntry:=[N7 1 63 0,N7 2 64 1,N7 3 66 2,N7 4 68 3,N7 5 70 4,N7 6 72 5,N7 7 73 6,N7 8 74 7,N7 9 75 8,N7 10 76 9]
theorem Rn (k n:Int) (f b i:Nat) (a:List MapEntry):Instr.findNow (.int .i64) (.int .i64 k) (N7 n f b::a) i=if k=n then some (some (i,.func (.func f) #[] #[]))else Instr.findNow (.int .i64) (.int .i64 k) a (i+1):=by
 unfold N7
 by_cases e:k=n
 ·subst e
  simp[Instr.findNow,Instr.sameNow]
 ·have c:(k==n)=false:=by simpa using e
  simp[Instr.findNow,Instr.sameNow,e,c]
theorem Ya (k:Int):∃r,Instr.findNow (.int .i64) (.int .i64 k) ly 0=some r/\(match r with | some (_,v)=>v | none=>.nilFunc)=fnV (UK k):=by
 by_cases j:k=1
 ·subst j;exact⟨_,rfl,rfl⟩
 by_cases i:k=2
 ·subst i;exact⟨_,rfl,rfl⟩
 by_cases h:k=3
 ·subst h;exact⟨_,rfl,rfl⟩
 by_cases g:k=4
 ·subst g;exact⟨_,rfl,rfl⟩
 by_cases f:k=5
 ·subst f;exact⟨_,rfl,rfl⟩
 by_cases e:k=6
 ·subst e;exact⟨_,rfl,rfl⟩
 by_cases d:k=7
 ·subst d;exact⟨_,rfl,rfl⟩
 by_cases c:k=8
 ·subst c;exact⟨_,rfl,rfl⟩
 by_cases b:k=9
 ·subst b;exact⟨_,rfl,rfl⟩
 by_cases a:k=10
 ·subst a;exact⟨_,rfl,rfl⟩
 unfold ly UK;simp only[Rn,j,i,h,g,f,e,d,c,b,a,if_false];exact⟨none,rfl,rfl⟩
section
variable {h g:PH} {R:RT} {x:Nat} {nm:Nm} {S:Hs} {C:PH->Prop}
theorem n7 {k:Int} (a:R (.ret (fnV (UK k))) h):A7 Tryz.prog 33 #[.int .i64 k] h R:=by
 refine A7.drop (oV ?_);unfold qT ivW;intro b c;refine⟨b,#[],0,rfl,AD _ _ _,rfl,by rfl,?_⟩;refine⟨b,_,_,rfl,AD _ _ _,rfl,by rfl,?_⟩;refine⟨b,_,_,rfl,AD _ _ _,rfl,by rfl,?_⟩;refine⟨b,_,_,rfl,AD _ _ _,rfl,by rfl,?_⟩;refine⟨b,_,_,rfl,AD _ _ _,rfl,by rfl,?_⟩;refine⟨b,_,_,rfl,AD _ _ _,rfl,by rfl,?_⟩;refine⟨b,_,_,rfl,AD _ _ _,rfl,by rfl,?_⟩;refine⟨b,_,_,rfl,AD _ _ _,rfl,by rfl,?_⟩;refine⟨b,_,_,rfl,AD _ _ _,rfl,by rfl,?_⟩;refine⟨b,_,_,rfl,AD _ _ _,rfl,by rfl,?_⟩;simp only[An];obtain⟨r,e,d⟩:=Ya k;refine⟨b,_,_,r,rfl,AD _ _ _,rfl,e,?_⟩;rw[<-d]at a;refine⟨h,AT _ c,?_⟩;cases r with
 | none=>exact a
 | some p=>exact a
theorem nB {K:Value->Prop} (f:Nat):A6 Tryz.prog .neq 87 (.func (.func f) #[] #[]) .nilFunc K↔K (.bool true):=Bi λx y=>by kernel_rfl
theorem Zv {K:Value->Prop}:A6 Tryz.prog .neq 87 .nilFunc .nilFunc K↔K (.bool false):=Bi λx y=>by kernel_rfl
theorem NS (L:Led) (i:Nat) (n:Int):(GW L i n).2.goods=L.goods/\(GW L i n).2.n=L.n:=by unfold GW;(repeat' split) <;> exact⟨rfl,rfl⟩
theorem Ks (L:Led) (i:Nat) (n:Int):(EE L i n).2.goods=L.goods/\(EE L i n).2.n=L.n:=by unfold EE;(repeat' split) <;> exact⟨rfl,rfl⟩
theorem JW (L:Led) (i:Nat) (g n:Int):(DG L i g n).2.goods=L.goods/\(DG L i g n).2.n=L.n:=by unfold DG;(repeat' split) <;> exact⟨rfl,rfl⟩
theorem Jq (L:Led) (i:Nat) (g n:Int):(DL L i g n).2.goods=L.goods/\(DL L i g n).2.n=L.n:=by unfold DL;(repeat' split) <;> exact⟨rfl,rfl⟩
variable {who:Nat} {o:OpV}
theorem rC (H:HsN x nm S h) (f:S.ok) (e:who<S.L.n) (j:∀g,HsN x nm (S.setL (GW S.L who o.am).2) g->R (.ret (.tuple #[.int .i64 0,.int .i64 (GW S.L who o.am).1])) g) :
  A7 Tryz.prog 64 #[ptr x,.int .i64 who,o.v] h R:=by
 refine nt ?_;unfold pu ivW pnW;rw[show Value.cells o.v=o.a from rfl];refine AX λc i=>?_;have b:(HsN x nm S•pt c (.cells o.a 25 (0,0))) (ins h c (.cells o.a 25 (0,0))):=BX (Ar i H);revert b;generalize ins h c (.cells o.a 25 (0,0))=G;intro b;have F:=(AJ HsN.mono b).f;have d:=AM (BX b);simp only[BO,AH,Ad,F.lx.ld];rw[A5 d (show o.a[2]?=some (.int .i64 o.am)from rfl)];refine mT F.hl f.led.small e ?_;simp only[AK.elim];have a:=NS S.L who o.am;exact j _ (AJ HsN.mono (HsN.led b a.1 a.2))
theorem my (H:HsN x nm S h) (f:S.ok) (e:who<S.L.n) (j:∀g,HsN x nm (S.setL (EE S.L who o.am).2) g->R (.ret (.tuple #[.int .i64 0,.int .i64 (EE S.L who o.am).1])) g) :
  A7 Tryz.prog 66 #[ptr x,.int .i64 who,o.v] h R:=by
 refine nq ?_;unfold po ivW pnW;rw[show Value.cells o.v=o.a from rfl];refine AX λc i=>?_;have b:(HsN x nm S•pt c (.cells o.a 25 (0,0))) (ins h c (.cells o.a 25 (0,0))):=BX (Ar i H);revert b;generalize ins h c (.cells o.a 25 (0,0))=G;intro b;have F:=(AJ HsN.mono b).f;have d:=AM (BX b);simp only[BO,AH,Ad,F.lx.ld];rw[A5 d (show o.a[2]?=some (.int .i64 o.am)from rfl)];refine dO F.hl f.led.small e ?_;simp only[AK.elim];have a:=Ks S.L who o.am;exact j _ (AJ HsN.mono (HsN.led b a.1 a.2))
theorem fY (H:HsN x nm S h) (f:S.ok) (e:who<S.L.n) (j:∀g,HsN x nm (S.setL (DG S.L who o.good o.am).2) g->R (.ret (.tuple #[.int .i64 0,.int .i64 (DG S.L who o.good o.am).1])) g) :
  A7 Tryz.prog 68 #[ptr x,.int .i64 who,o.v] h R:=by
 refine nl ?_;unfold pm ivW pnW;rw[show Value.cells o.v=o.a from rfl];refine AX λc i=>?_;have d:(HsN x nm S•pt c (.cells o.a 25 (0,0))) (ins h c (.cells o.a 25 (0,0))):=BX (Ar i H);revert d;generalize ins h c (.cells o.a 25 (0,0))=G;intro d;have F:=(AJ HsN.mono d).f;have b:=AM (BX d);simp only[BO,AH,Ad,F.lx.ld];rw[A5 b (show o.a[1]?=some (.int .i64 o.good)from rfl),A5 b (show o.a[2]?=some (.int .i64 o.am)from rfl)];refine Z5 F.hl f.led.small e ?_;simp only[AK.elim];have a:=JW S.L who o.good o.am;exact j _ (AJ HsN.mono (HsN.led d a.1 a.2))
theorem fd (H:HsN x nm S h) (f:S.ok) (e:who<S.L.n) (j:∀g,HsN x nm (S.setL (DL S.L who o.good o.am).2) g->R (.ret (.tuple #[.int .i64 0,.int .i64 (DL S.L who o.good o.am).1])) g) :
  A7 Tryz.prog 70 #[ptr x,.int .i64 who,o.v] h R:=by
 refine nj ?_;unfold pj ivW pnW;rw[show Value.cells o.v=o.a from rfl];refine AX λc i=>?_;have d:(HsN x nm S•pt c (.cells o.a 25 (0,0))) (ins h c (.cells o.a 25 (0,0))):=BX (Ar i H);revert d;generalize ins h c (.cells o.a 25 (0,0))=G;intro d;have F:=(AJ HsN.mono d).f;have b:=AM (BX d);simp only[BO,AH,Ad,F.lx.ld];rw[A5 b (show o.a[1]?=some (.int .i64 o.good)from rfl),A5 b (show o.a[2]?=some (.int .i64 o.am)from rfl)];refine bE F.hl f.led.small e ?_;simp only[AK.elim];have a:=Jq S.L who o.good o.am;exact j _ (AJ HsN.mono (HsN.led d a.1 a.2))
end
structure Did where
 n:Int
 e:Int
 S:Hs
def DA (S:Hs) (who:Nat) (o:OpV):Did:=
 if o.kind=1 then ⟨(Da S).1,(Da S).2.1,(Da S).2.2⟩else
 if o.kind=2 then ⟨0,(GW S.L who o.am).1,S.setL (GW S.L who o.am).2⟩else
 if o.kind=3 then ⟨0,(EE S.L who o.am).1,S.setL (EE S.L who o.am).2⟩else
 if o.kind=4 then ⟨0,(DG S.L who o.good o.am).1,S.setL (DG S.L who o.good o.am).2⟩else
 if o.kind=5 then ⟨0,(DL S.L who o.good o.am).1,S.setL (DL S.L who o.good o.am).2⟩else
 if o.kind=6 then ⟨0,(Dq S who o).1,(Dq S who o).2⟩else
 if o.kind=7 then ⟨0,(FC S who o).1,(FC S who o).2⟩else
 if o.kind=8 then ⟨0,(Hj S who o).1,(Hj S who o).2⟩else
 if o.kind=9 then ⟨0,(De S who o).1,(De S who o).2⟩else
 if o.kind=10 then ⟨0,(DO S who o).1,(DO S who o).2⟩else ⟨0,90,S⟩
theorem eE (S:Hs) (who:Nat) (o:OpV):(Hj S who o).2.L.goods=S.L.goods/\(Hj S who o).2.L.n=S.L.n:=by
 unfold Hj;simp only
 repeat' split
 all_goals first | exact⟨rfl,rfl⟩ | skip
 have b:=BK S.L who (Cz (decide (o.side=0)) (Bn S who o).p o.am);have a:=Cw (BN S.L who (Cz (decide (o.side=0)) (Bn S who o).p o.am)) who o.good (Dd (decide (o.side=0)) (Bn S who o).p o.am);exact⟨a.1.trans b.1,a.2.trans b.2⟩
theorem YZ (S:Hs) (who:Nat) (o:OpV):(De S who o).2.L.goods=S.L.goods/\(De S who o).2.L.n=S.L.n:=by
 unfold De;simp only
 repeat' split
 all_goals first | exact⟨rfl,rfl⟩ | skip
 exact⟨(Cw _ _ _ _).1.trans (BK _ _ _).1,(Cw _ _ _ _).2.trans (BK _ _ _).2⟩
theorem VY (S:Hs) (who:Nat) (o:OpV):(DO S who o).2.L.goods=S.L.goods/\(DO S who o).2.L.n=S.L.n:=by
 unfold DO;simp only
 repeat' split
 all_goals first | exact⟨rfl,rfl⟩ | exact BK _ _ _ | exact Cw _ _ _ _
theorem Yl (S:Hs) (who:Nat) (o:OpV):(FC S who o).2.L.goods=S.L.goods/\(FC S who o).2.L.n=S.L.n:=by
 unfold FC;simp only
 repeat' split
 all_goals first | exact⟨rfl,rfl⟩ | exact BK _ _ _ | (simp only;repeat' split)
 all_goals first | exact⟨rfl,rfl⟩ | exact BK _ _ _
theorem Xo (S:Hs) (who:Nat) (o:OpV):(Dq S who o).2.L.goods=S.L.goods/\(Dq S who o).2.L.n=S.L.n:=by
 unfold Dq
 repeat' split
 all_goals first | exact⟨rfl,rfl⟩ | exact LM _ _ _ _
end Go.Pw
