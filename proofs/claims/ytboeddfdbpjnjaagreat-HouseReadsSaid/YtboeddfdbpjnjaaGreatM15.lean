/- Texts of this claim, one behind the other. -/
import Derived.Test.YtboeddfdbpjnjaaGreatM9
import Derived.Test.YtboeddfdbpjnjaaGreatM11
import Derived.Test.YtboeddfdbpjnjaaGreatM13
import Derived.Test.YtboeddfdbpjnjaaGreatM14
import Derived.Laws.FloatBits
set_option linter.unusedSimpArgs false
set_option linter.unusedVariables false
namespace Go.Pw
open Go Go.Proofs
def C64:Nat:=FloatKind.f64.nearest 64
def C40:Nat:=4787326403894837248
def maxF:Nat:=9218868437227405311
theorem dat_64:dat C64 = .number false 4503599627370496 (-46):=by decide +kernel
theorem dat_40:dat C40 = .number false 4503599627370496 (-12):=by decide +kernel
theorem dat_max:dat maxF = .number false 9007199254740991 971:=by decide +kernel
theorem dat_0:dat 0 = .number false 0 (-1074):=by decide +kernel
def mulF (b:Nat):Nat:=(Ieee.double.mul b C64).getD 0
def ticksO (b:Nat):Int×Int:=
 if (dat b).isNaN then (0,50)else if (dat b).isInfinity then (0,51)else if ordF b 0==some .lt then (0,52)else if ordF (mulF b) C40==some .gt then (0,54)
 else if ordF (mulF b) (truncF (mulF b)) != some .eq then (0,53)else (((dat (mulF b)).toInt .zero).getD 0,0)
theorem cmp_gt {a b:Int}:compare a b = .gt↔b<a:=by
 simp only[compare,compareOfLessAndEq]
 split
 ·simp;omega
 ·split
  ·simp;omega
  ·simp;omega
theorem cmp_lt {a b:Int}:compare a b = .lt↔a<b:=by
 simp only[compare,compareOfLessAndEq]
 split
 ·simp;omega
 ·split
  ·simp;omega
  ·simp;omega
theorem ordF_dat (x y:Nat):ordF x y=(dat x).order (dat y):=rfl
theorem ordF_self (b:Nat):ordF b b=if (dat b).isNaN then none else some .eq:=by
 rw[ordF_dat]
 cases h:dat b with
 | nan s t=>rfl
 | infinity s=>cases s <;> rfl
 | number s m i=>
  simp only[Ieee.Datum.order,Ieee.Datum.isNaN]
  simp[compare,compareOfLessAndEq]
theorem dat_rung {r:Nat} (hr:r<9223372036854775808):dat r=if r<4503599627370496 then .number false r (-1074)else if r<9218868437227405312 then .number false (4503599627370496+r%4503599627370496) (-1074+(r/4503599627370496-1:Nat))else if r=9218868437227405312 then .infinity false else .nan false (r-9218868437227405312):=by
 have e1:r/9223372036854775808%2=0:=by omega
 have e2:r%9223372036854775808=r:=by omega
 have c1:Ieee.double.signWeight=9223372036854775808:=by decide +kernel
 have c2:Ieee.double.binade=4503599627370496:=by decide +kernel
 have c3:Ieee.double.infRung=9218868437227405312:=by decide +kernel
 have c4:Ieee.double.leastPlace = -1074:=by decide +kernel
 show Ieee.Format.read Ieee.double r=_
 unfold Ieee.Format.read
 simp only[c1,c2,c3,c4,e1,e2]
 simp
theorem dat_neg {r:Nat} (hr:r<9223372036854775808):dat (9223372036854775808+r)=if r<4503599627370496 then .number true r (-1074)else if r<9218868437227405312 then .number true (4503599627370496+r%4503599627370496) (-1074+(r/4503599627370496-1:Nat))else if r=9218868437227405312 then .infinity true else .nan true (r-9218868437227405312):=by
 have e1:(9223372036854775808+r)/9223372036854775808%2=1:=by omega
 have e2:(9223372036854775808+r)%9223372036854775808=r:=by omega
 have c1:Ieee.double.signWeight=9223372036854775808:=by decide +kernel
 have c2:Ieee.double.binade=4503599627370496:=by decide +kernel
 have c3:Ieee.double.infRung=9218868437227405312:=by decide +kernel
 have c4:Ieee.double.leastPlace = -1074:=by decide +kernel
 show Ieee.Format.read Ieee.double _=_
 unfold Ieee.Format.read
 simp only[c1,c2,c3,c4,e1,e2]
 simp
theorem two_words {b:Nat} (hb:b<18446744073709551616):b<9223372036854775808\/∃r,r<9223372036854775808/\b=9223372036854775808+r:=by
 rcases Nat.lt_or_ge b 9223372036854775808 with h | h
 ·exact .inl h
 ·exact .inr ⟨b-9223372036854775808,by omega,by omega⟩
theorem abs_inf {r:Nat} (hr:r<9223372036854775808) (hn:(dat r).isNaN=false):(ordF r maxF==some .gt)=(dat r).isInfinity:=by
 rw[ordF_dat,dat_max]
 rw[dat_rung hr]at hn ⊢
 have le:∀(m:Nat) (i:Int),m<=9007199254740991->i<=971->((Ieee.Datum.number false m i).order (.number false 9007199254740991 971)==some .gt)=false:=λm i hm hi=>by
  simp only[Ieee.Datum.order,Ieee.signed]
  have hb:min i 971=i:=by omega
  rw[hb]
  have h1:¬(compare (((m <<< (i-i).toNat:Nat)):Int) ((9007199254740991 <<< (971-i).toNat:Nat):Int) = .gt):=by
   rw[cmp_gt,Nat.shiftLeft_eq,Nat.shiftLeft_eq]
   have:(i-i).toNat=0:=by omega
   rw[this]
   have h2:1<=2^(971-i).toNat:=Nat.one_le_two_pow
   have h3:9007199254740991*1<=9007199254740991*2^(971-i).toNat:=Nat.mul_le_mul_left _ h2
   omega
  simp only[Bool.false_eq_true,if_false]
  simpa using h1
 split
 ·rw[le _ _ (by omega) (by omega)];rfl
 ·split
  ·rw[le _ _ (by omega) (by omega)];rfl
  ·split
   ·rfl
   ·rename_i h1 h2 h3
    rw[if_neg h1,if_neg h2,if_neg h3]at hn;cases hn
end Go.Pw
set_option linter.unusedSimpArgs false
set_option linter.unusedVariables false
namespace Go.Pw
open Go Go.Proofs
theorem nearest_word (s:Bool) (m:Nat) (i:Int):∃r,r<=9218868437227405312/\(m=0->r=0)/\Ieee.double.nearest s m i=if s then 9223372036854775808+r else r:=by
 have c1:Ieee.double.signWeight=9223372036854775808:=by decide +kernel
 have c3:Ieee.double.infRung=9218868437227405312:=by decide +kernel
 unfold Ieee.Format.nearest
 by_cases hm:m=0
 ·rw[if_pos hm]
  refine⟨0,by omega,λ_=>rfl,?_⟩
  unfold Ieee.Format.word;rw[c1]
 ·rw[if_neg hm]
  simp only
  have key:∀x:Nat,∃r,r<=9218868437227405312/\(m=0->r=0)/\Ieee.double.word s (min x Ieee.double.infRung)=if s then 9223372036854775808+r else r:=λx=>
   ⟨min x Ieee.double.infRung,by rw[c3];exact Nat.min_le_right _ _,λh=>absurd h hm,by unfold Ieee.Format.word;rw[c1]⟩
  exact key _
theorem dat_word {s:Bool} {r:Nat} (hr:r<=9218868437227405312):(∃m i,dat (if s then 9223372036854775808+r else r) = .number s m i/\(r=0->m=0))\/dat (if s then 9223372036854775808+r else r) = .infinity s:=by
 cases s with
 | true=>
  simp only[if_true]
  rw[dat_neg (by omega)]
  split
  ·exact .inl ⟨_,_,rfl,id⟩
  ·split
   ·exact .inl ⟨_,_,rfl,by omega⟩
   ·exact .inr (by rw[if_pos (by omega)])
 | false=>
  simp only[Bool.false_eq_true,if_false]
  rw[dat_rung (by omega)]
  split
  ·exact .inl ⟨_,_,rfl,id⟩
  ·split
   ·exact .inl ⟨_,_,rfl,by omega⟩
   ·exact .inr (by rw[if_pos (by omega)])
theorem mulF_num {b:Nat} {s:Bool} {m:Nat} {i:Int} (hd:dat b = .number s m i):∃r,r<=9218868437227405312/\(m=0->r=0)/\Ieee.double.mul b C64=some (if s then 9223372036854775808+r else r)/\mulF b=if s then 9223372036854775808+r else r:=by
 have e:Ieee.double.mul b C64=some (Ieee.double.nearest s (m*4503599627370496) (i + -46)):=by
  show ((dat b).product (dat C64)).map Ieee.double.write=_
  rw[hd,dat_64]
  show some (Ieee.double.nearest (s ^^ false) _ _)=_
  simp
 obtain⟨r,h1,h2,h3⟩:=nearest_word s (m*4503599627370496) (i + -46)
 refine⟨r,h1,λhm=>h2 (by rw[hm,Nat.zero_mul]),by rw[e,h3],?_⟩
 unfold mulF
 rw[e,h3];rfl
theorem cut_bd {m:Nat} {i:Int} (ho:((Ieee.Datum.number false m i).order (.number false 4503599627370496 (-12))==some .gt)=false) :
  ∃n:Int,(Ieee.Datum.number false m i).toInt .zero=some n/\0<=n/\n<=1099511627776:=by
 refine⟨((Ieee.Toward.zero.cut false (m <<< i.toNat) (-i).toNat:Nat):Int),?_,Int.natCast_nonneg _,?_⟩
 ·show some (Ieee.signed false _ 0)=_
  unfold Ieee.signed
  simp
 simp only[Ieee.Datum.order,Ieee.signed,Bool.false_eq_true,if_false]at ho
 have h1:¬(compare (((m <<< (i-min i (-12)).toNat:Nat)):Int) ((4503599627370496 <<< (-12-min i (-12)).toNat:Nat):Int) = .gt):=by
  intro h;rw[h]at ho;cases ho
 rw[cmp_gt,Nat.shiftLeft_eq,Nat.shiftLeft_eq]at h1
 have h2:m*2^(i-min i (-12)).toNat<=4503599627370496*2^(-12-min i (-12)).toNat:=by omega
 -- m*2^u is at most 2^40*2^d
 have h3:m*2^i.toNat<=1099511627776*2^(-i).toNat:=by
  rcases Int.lt_or_le i (-12)with c | c
  ·rw[show (i-min i (-12)).toNat=0 by omega]at h2
   have e1:i.toNat=0:=by omega
   have e2:(-i).toNat=(-12-min i (-12)).toNat+12:=by omega
   rw[e1,e2,Nat.pow_add]
   have:(2:Nat)^12=4096:=rfl
   omega
  ·have e1:(-12-min i (-12)).toNat=0:=by omega
   rw[e1]at h2
   have e2:(i-min i (-12)).toNat=(i+12).toNat:=by omega
   rw[e2]at h2
   have e3:i.toNat+12=(i+12).toNat+(-i).toNat:=by omega
   have e4:m*2^(i.toNat+12)=m*2^(i+12).toNat*2^(-i).toNat:=by rw[e3,Nat.pow_add,Nat.mul_assoc]
   have e5:m*2^(i+12).toNat*2^(-i).toNat<=4503599627370496*2^(-i).toNat:=Nat.mul_le_mul_right _ (by omega)
   rw[<-e4,Nat.pow_add,<-Nat.mul_assoc]at e5
   have:(2:Nat)^12=4096:=rfl
   omega
 unfold Ieee.Toward.cut
 simp only[Nat.one_shiftLeft,Bool.toNat_false,Nat.add_zero]
 rw[Nat.shiftLeft_eq]
 generalize hM:m*2^i.toNat=M at *
 rcases Nat.le_total (-i).toNat (M.log2+2)with c | c
 ·rw[Nat.min_eq_left c]
  have:M/2^(-i).toNat<=1099511627776:=Nat.div_le_of_le_mul (by rw[Nat.mul_comm];exact h3)
  omega
 ·rw[Nat.min_eq_right c]
  have h4:M<2^(M.log2+2):=by
   have:=Nat.lt_log2_self (n:=M)
   rw[Nat.pow_succ]
   have h5:2^(M.log2+1)>=0:=Nat.zero_le _
   omega
  rw[Nat.div_eq_of_lt h4]
  omega
theorem ticks_num {b:Nat} {s:Bool} {m:Nat} {i:Int} (hd:dat b = .number s m i) (h0:(ordF b 0==some .lt)=false) (h1:(ordF (mulF b) C40==some .gt)=false) :
  ∃n:Int,(dat (mulF b)).toInt .zero=some n/\0<=n/\n<=1099511627776:=by
 obtain⟨r,hr,hm,_,e⟩:=mulF_num hd
 rw[ordF_dat,dat_40]at h1
 rw[e]at h1 ⊢
 cases s with
 | true=>
  have hm0:m=0:=by
   rw[ordF_dat,hd,dat_0]at h0
   simp only[Ieee.Datum.order,Ieee.signed]at h0
   rcases Nat.eq_zero_or_pos m with h | h
   ·exact h
   ·exfalso
    have:compare (-(m <<< (i-min i (-1074)).toNat:Nat):Int) ((0 <<< (-1074-min i (-1074)).toNat:Nat):Int) = .lt:=by
     rw[cmp_lt,Nat.shiftLeft_eq,Nat.shiftLeft_eq,Nat.zero_mul]
     have:0<m*2^(i-min i (-1074)).toNat:=Nat.mul_pos h (Nat.two_pow_pos _)
     omega
    simp only[if_true,Bool.false_eq_true,if_false]at h0
    rw[this]at h0
    cases h0
  have hr0:=hm hm0
  subst hr0
  refine⟨0,by decide +kernel,by omega,by omega⟩
 | false=>
  rcases dat_word (s:=false) hr with⟨m',i',e2,_⟩ | e2
  ·rw[e2]at h1 ⊢
   exact cut_bd h1
  ·rw[e2]at h1
   cases h1
section
variable {P:Program} {K:Value->Prop}
theorem vBin_clear (t:TypeId) {n:Nat} (h1:n<18446744073709551616):vBin P .andNot t (.int .u64 n) (.int .u64 9223372036854775808) K↔K (.int .u64 (n%9223372036854775808:Nat)):=by
 have key:(BitVec.ofInt 64 (n:Int) &&& ~~~ BitVec.ofInt 64 9223372036854775808).toNat=n%9223372036854775808:=by
  rw[BitVec.toNat_and,BitVec.toNat_not,ofInt_toNat (by omega) (by omega),ofInt_toNat (by omega) (by omega)]
  show n &&& 9223372036854775807=_
  exact Nat.and_two_pow_sub_one_eq_mod n 63
 refine vBin_of λ_ _=>?_
 show some (Value.int .u64 (IntKind.u64.wrap ((BitVec.ofInt 64 (n:Int) &&& ~~~ BitVec.ofInt 64 9223372036854775808).toNat)))=_
 rw[key,wrap_u64 (by omega) (by omega)]
end
theorem dat_abs {b:Nat} (hb:b<18446744073709551616):(dat (b%9223372036854775808)).isNaN=(dat b).isNaN/\(dat (b%9223372036854775808)).isInfinity=(dat b).isInfinity:=by
 rcases two_words hb with h | ⟨r,hr,rfl⟩
 ·rw[Nat.mod_eq_of_lt h];exact⟨rfl,rfl⟩
 ·rw[show (9223372036854775808+r)%9223372036854775808=r by omega,dat_rung hr,dat_neg hr]
  repeat' split
  all_goals exact⟨rfl,rfl⟩
section
variable {h:PH} {R:AEnd->PH->Prop} {b:Nat}
theorem abs_ok (hb:b<18446744073709551616) (hR:R (.ret (.float .f64 (b%9223372036854775808))) h):ACalls Tryz.prog 177 #[.float .f64 b] h R:=by
 refine call177 ?_
 unfold sh177
 refine f2b_ok ?_
 rw[vBin_clear _ hb]
 refine b2f_ok ?_
 rw[Int.toNat_natCast]
 exact hR
theorem isInf_ok (hb:b<18446744073709551616) (hn:(dat b).isNaN=false) (hR:R (.ret (.bool (dat b).isInfinity)) h):ACalls Tryz.prog 150 #[.float .f64 b,.int .i64 0] h R:=by
 refine call150 ?_
 unfold sh150
 simp only[vBin_eql,decide_true,dIf_b]
 refine⟨λ_=>?_,λe=>absurd e (by simp)⟩
 refine abs_ok hb ?_
 simp only[AEnd.elim]
 rw[vBin_fgtr]
 have h1:=dat_abs hb
 have:=abs_inf (r:=b%9223372036854775808) (Nat.mod_lt _ (by omega)) (by rw[h1.1];exact hn)
 rw[show (9218868437227405311:Nat)=maxF from rfl,this,h1.2]
 exact hR
theorem trunc_ok (hn:(dat b).isNaN=false) (hR:R (.ret (.float .f64 (truncF b))) h):ACalls Tryz.prog 151 #[.float .f64 b] h R:=by
 refine call151 ?_
 unfold sh151
 rw[dIf_b]
 refine⟨λ_=>?_,λe=>absurd e (by simp)⟩
 exact trunc_lib hn hR
theorem ticks_ok (hb:b<18446744073709551616) (hR:R (.ret (.tuple #[.int .i64 (ticksO b).1,.int .i64 (ticksO b).2])) h):ACalls Tryz.prog 106 #[.float .f64 b,.int .i64 6] h R:=by
 refine call106 ?_
 unfold sh106
 simp
 rw[vBin_shl (by omega) (by omega) (by omega) (by omega)]
 refine⟨_,_,rfl,?_⟩
 have e64:FloatKind.f64.nearest ((1:Int)*2^(6:Int).toNat)=C64:=rfl
 rw[e64]
 unfold ticksO at hR
 -- what comes of a product x
 have main:∀x,((dat b).isNaN=false->(dat b).isInfinity=false->x=mulF b)->(vBin Tryz.prog .neq 23 (.float .f64 b) (.float .f64 b) λt21=>
   dIf t21 (R (.ret (.tuple #[(.int .i64 0),(.int .i64 50)])) h)
   (vCall Tryz.prog 150 #[.float .f64 b,(.int .i64 0)] h (λt24 h_4=>
   dIf t24 (R (.ret (.tuple #[(.int .i64 0),(.int .i64 51)])) h_4)
   (vBin Tryz.prog .lss 23 (.float .f64 b) (.float .f64 0) λt27=>
   dIf t27 (R (.ret (.tuple #[(.int .i64 0),(.int .i64 52)])) h_4)
   (vBin Tryz.prog .gtr 23 (.float .f64 x) (.float .f64 4787326403894837248) λt30=>
   dIf t30 (R (.ret (.tuple #[(.int .i64 0),(.int .i64 54)])) h_4)
   (vCall Tryz.prog 151 #[.float .f64 x] h_4 (λt34 h_5=>
   vBin Tryz.prog .neq 23 (.float .f64 x) t34 λt35=>
   dIf t35 (R (.ret (.tuple #[(.int .i64 0),(.int .i64 53)])) h_5)
   (vConvFI .i64 (.float .f64 x) λt37=>
   R (.ret (.tuple #[t37,(.int .i64 0)])) h_5))
   (λc h=>R (.pan c) h)))))
   (λc h=>R (.pan c) h))):=by
  intro x hx
  rw[vBin_fneq,ordF_self]
  cases hn:(dat b).isNaN with
  | true=>
   rw[hn]at hR
   simp only[if_true]at hR ⊢
   rw[dIf_b]
   exact⟨λ_=>hR,λe=>absurd e (by simp)⟩
  | false=>
   rw[hn]at hR
   simp only[Bool.false_eq_true,if_false]at hR ⊢
   rw[dIf_b]
   refine⟨λe=>absurd e (by simp),λ_=>?_⟩
   refine isInf_ok hb hn ?_
   simp only[AEnd.elim,dIf_b]
   cases hi:(dat b).isInfinity with
   | true=>
    rw[hi]at hR
    simp only[if_true]at hR
    exact⟨λ_=>hR,λe=>absurd e (by simp)⟩
   | false=>
    rw[hi]at hR
    simp only[Bool.false_eq_true,if_false]at hR
    refine⟨λe=>absurd e (by simp),λ_=>?_⟩
    rw[hx hn hi,vBin_flss,dIf_b]
    cases h0:(ordF b 0==some .lt)with
    | true=>
     rw[h0]at hR
     exact⟨λ_=>hR,λe=>absurd e (by simp)⟩
    | false=>
     rw[h0]at hR
     simp only[Bool.false_eq_true,if_false]at hR
     refine⟨λe=>absurd e (by simp),λ_=>?_⟩
     rw[vBin_fgtr,dIf_b,show (4787326403894837248:Nat)=C40 from rfl]
     cases h1:(ordF (mulF b) C40==some .gt)with
     | true=>
      rw[h1]at hR
      exact⟨λ_=>hR,λe=>absurd e (by simp)⟩
     | false=>
      rw[h1]at hR
      simp only[Bool.false_eq_true,if_false]at hR
      refine⟨λe=>absurd e (by simp),λ_=>?_⟩
      obtain⟨s,m,i,hd⟩:∃s m i,dat b = .number s m i:=by
       cases hd:dat b with
       | nan s t=>rw[hd]at hn;cases hn
       | infinity s=>rw[hd]at hi;cases hi
       | number s m i=>exact⟨s,m,i,rfl⟩
      obtain⟨n,hn1,hn2,hn3⟩:=ticks_num hd h0 h1
      have hnn:(dat (mulF b)).isNaN=false:=by
       cases hh:dat (mulF b)with
       | nan s t=>rw[hh]at hn1;cases hn1
       | infinity s=>rfl
       | number s m i=>rfl
      refine trunc_ok hnn ?_
      simp only[AEnd.elim]
      rw[vBin_fneq,dIf_b]
      cases h2:(ordF (mulF b) (truncF (mulF b)) != some .eq)with
      | true=>
       rw[h2]at hR
       exact⟨λ_=>hR,λe=>absurd e (by simp)⟩
      | false=>
       rw[h2]at hR
       simp only[Bool.false_eq_true,if_false]at hR
       refine⟨λe=>absurd e (by simp),λ_=>?_⟩
       rw[hn1]at hR
       refine⟨_,_,n,rfl,hn1,?_,?_,hR⟩
       ·show (-9223372036854775808:Int)<=n
        omega
       ·show n<=(9223372036854775807:Int)
        omega
 refine⟨_,_,_,_,rfl,rfl,rfl,λr hr=>?_,λhr r=>?_⟩
 ·refine main r λhn hi=>?_
  have:Ieee.double.mul b C64=some r:=hr
  unfold mulF
  rw[this];rfl
 ·refine main r λhn hi=>?_
  exfalso
  obtain⟨s,m,i,hd⟩:∃s m i,dat b = .number s m i:=by
   cases hd:dat b with
   | nan s t=>rw[hd]at hn;cases hn
   | infinity s=>rw[hd]at hi;cases hi
   | number s m i=>exact⟨s,m,i,rfl⟩
  obtain⟨q,_,_,hq,_⟩:=mulF_num hd
  have:Ieee.double.mul b C64=none:=hr
  rw[this]at hq
  cases hq
end
theorem ticksO_bd {b:Nat} (h:(ticksO b).2=0):0<=(ticksO b).1/\(ticksO b).1<=1099511627776:=by
 unfold ticksO at h ⊢
 by_cases c1:(dat b).isNaN=true
 ·rw[if_pos c1]at h;cases h
 rw[if_neg c1]at h ⊢
 by_cases c2:(dat b).isInfinity=true
 ·rw[if_pos c2]at h;cases h
 rw[if_neg c2]at h ⊢
 by_cases c3:(ordF b 0==some .lt)=true
 ·rw[if_pos c3]at h;cases h
 rw[if_neg c3]at h ⊢
 by_cases c4:(ordF (mulF b) C40==some .gt)=true
 ·rw[if_pos c4]at h;cases h
 rw[if_neg c4]at h ⊢
 by_cases c5:(ordF (mulF b) (truncF (mulF b)) != some .eq)=true
 ·rw[if_pos c5]at h;cases h
 rw[if_neg c5]
 obtain⟨s,m,i,hd⟩:∃s m i,dat b = .number s m i:=by
  cases hd:dat b with
  | nan s t=>rw[hd]at c1;exact absurd rfl c1
  | infinity s=>rw[hd]at c2;exact absurd rfl c2
  | number s m i=>exact⟨s,m,i,rfl⟩
 obtain⟨n,h1,h2,h3⟩:=ticks_num hd (by simpa using c3) (by simpa using c4)
 rw[h1]
 exact⟨h2,h3⟩
theorem ticksO_err (b:Nat):(ticksO b).2=0\/(ticksO b).2=50\/(ticksO b).2=51\/(ticksO b).2=52\/(ticksO b).2=53\/(ticksO b).2=54:=by
 unfold ticksO
 repeat' split
 all_goals simp
end Go.Pw
set_option linter.unusedSimpArgs false
set_option linter.unusedVariables false
namespace Go.Pw
open Go Go.Proofs
structure OpV where
 kind:Int
 good:Int
 am:Int
 side:Int
 id:Int
 price:Nat
def OpV.a (o:OpV):Array Value:=#[.int .i64 o.kind,.int .i64 o.good,.int .i64 o.am,.int .i64 o.side,.int .i64 o.id,.float .f64 o.price]
abbrev OpV.v (o:OpV):Value:=.agg o.a
def OpV.nums (o:OpV):List Int:=[o.kind,o.good,o.am,o.side,o.id]
def le8 (x:Nat):Nat->List UInt8
 | 0=>[]
 | k+1=>UInt8.ofNat (x%256)::le8 (x/256) k
def opB (o:OpV):ByteArray:=if ∃n∈o.nums,n<0\/9007199254740992<n then ⟨#[]⟩else ⟨(encL o.nums++le8 o.price 8).toArray⟩
def opE (o:OpV):Int:=if ∃n∈o.nums,n<0\/9007199254740992<n then 14 else 0
theorem fill_5i (a b c d e:Value) (ha:a.cells=#[a]) (hb:b.cells=#[b]) (hc:c.cells=#[c]) (hd:d.cells=#[d]) (he:e.cells=#[e]) :
  Instr.fill (λi=>some (i*1,1)) (rep #[Value.int .i64 0] (5*1)) [(0,a),(1,b),(2,c),(3,d),(4,e)]=some #[a,b,c,d,e]:=by
 have e0:Array.range 5=#[0,1,2,3,4]:=by decide
 simp[Instr.fill,rep,ha,hb,hc,hd,he,e0]
section
variable {h:PH} {R:AEnd->PH->Prop}
theorem vBin_rem256 {P:Program} {K:Value->Prop} (t:TypeId) (n:Nat):vBin P .rem t (.int .u64 n) (.int .u64 256) K↔K (.int .u64 (n%256:Nat)):=by
 rw[vBin_rem _ _ _ _ (by omega)]
 rw[show Int.tmod (n:Int) 256=((n%256:Nat):Int)from rfl]
theorem vBin_quo256 {P:Program} {K:Value->Prop} (t:TypeId) {n:Nat} (hn:n<18446744073709551616):vBin P .quo t (.int .u64 n) (.int .u64 256) K↔K (.int .u64 (n/256:Nat)):=by
 rw[vBin_quo _ _ _ _ (by omega)]
 rw[show Int.tdiv (n:Int) 256=((n/256:Nat):Int)from rfl,wrap_u64 (by omega) (by omega)]
theorem opText_ok {o:OpV} (hp:o.price<18446744073709551616) (hR:R (.ret (.tuple #[.string (opB o),.int .i64 (opE o)])) h):ACalls Tryz.prog 36 #[o.v] h R:=by
 refine ACalls.drop (call36 ?_)
 unfold sh36
 rw[show Value.cells o.v=o.a from rfl]
 refine vNew_gen λc G hc hs hcc=>?_
 have l0:=λK=>vLoad_1 (K:=K) hcc (show o.a[0]?=some (.int .i64 o.kind)from rfl)
 have l1:=λK=>vLoad_1 (K:=K) hcc (show o.a[1]?=some (.int .i64 o.good)from rfl)
 have l2:=λK=>vLoad_1 (K:=K) hcc (show o.a[2]?=some (.int .i64 o.am)from rfl)
 have l3:=λK=>vLoad_1 (K:=K) hcc (show o.a[3]?=some (.int .i64 o.side)from rfl)
 have l4:=λK=>vLoad_1 (K:=K) hcc (show o.a[4]?=some (.int .i64 o.id)from rfl)
 simp only[vFA_p,Nat.zero_add,l0,l1,l2,l3,l4]
 refine⟨by omega,_,fill_5i _ _ _ _ _ rfl rfl rfl rfl rfl,λq hq=>?_⟩
 have hqq:ins G q (.cells #[.int .i64 o.kind,.int .i64 o.good,.int .i64 o.am,.int .i64 o.side,.int .i64 o.id] 3) q=some (.cells #[.int .i64 o.kind,.int .i64 o.good,.int .i64 o.am,.int .i64 o.side,.int .i64 o.id] 3 (0,0)):=ins_eq _ _ _
 have hsq:Sub G (ins G q (.cells #[.int .i64 o.kind,.int .i64 o.good,.int .i64 o.am,.int .i64 o.side,.int .i64 o.id] 3)):=sub_ins _ hq
 revert hqq hsq
 generalize ins G q (.cells #[.int .i64 o.kind,.int .i64 o.good,.int .i64 o.am,.int .i64 o.side,.int .i64 o.id] 3)=H
 intro hqq hsq
 have hld:∀(i:Nat) (n:Int),o.nums[i]?=some n->∀K,vLoad none (.pointer (some ⟨q,i,none⟩)) H K↔K (.int .i64 n):=λi n hn K=>by
  refine vLoad_1 hqq ?_
  have:(#[.int .i64 o.kind,.int .i64 o.good,.int .i64 o.am,.int .i64 o.side,.int .i64 o.id]:Array Value)=(o.nums.map iv).toArray:=rfl
  rw[this,List.getElem?_toArray,List.getElem?_map,hn];rfl
 refine lf_intro (λm s' g=>∃i:Nat,s'=(.string ⟨#[]⟩,.int .i64 0,.string ⟨(encL (o.nums.take i)).toArray⟩,.int .i64 i)/\m=5-i/\i<=5/\g=H/\∀n∈o.nums.take i,0<=n/\n<=9007199254740992) 5 ⟨0,rfl,rfl,by omega,rfl,by simp⟩ ?_
 rintro m s' g ⟨i,rfl,rfl,hi,rfl,hgood⟩
 have hbd:(encL (o.nums.take i)).length<=50:=by
  have:=encL_len2 hgood
  rw[List.length_take]at this
  omega
 by_cases hin:i<5
 ·obtain⟨n,hn⟩:∃n,o.nums[i]?=some n:=⟨_,List.getElem?_eq_getElem (show i<o.nums.length from hin)⟩
  have key:∀(kn:(Value×Value)->(Value×Value×Value×Value)->PH->Prop) Kp x0 xr,((n<0\/9007199254740992<n)->xr (ptr c,.string ⟨#[]⟩,.int .i64 14,.string ⟨(encL (o.nums.take i)).toArray⟩) g) ->
    (0<=n/\n<=9007199254740992->kn (ptr c,.slice (some ⟨q,0,none⟩) 5 5) (.string ⟨#[]⟩,.int .i64 0,.string ⟨(encL (o.nums.take (i+1))).toArray⟩,.int .i64 ((i:Int)+1)) g) ->
    b36_4 Kp x0 xr (ptr c,.slice (some ⟨q,0,none⟩) 5 5) kn (.string ⟨#[]⟩,.int .i64 0,.string ⟨(encL (o.nums.take i)).toArray⟩,.int .i64 i) g:=by
   intro kn Kp x0 xr hB hG
   unfold b36_4
   have hlt:(i:Int)<5:=by omega
   by_cases c1:n<0
   ·simp[hlt,hld i n hn,c1]
    exact hB (.inl c1)
   ·by_cases c2:9007199254740992<n
    ·simp[hlt,hld i n hn,c1,c2]
     exact hB (.inr c2)
    ·simp[hlt,hld i n hn,c1,c2]
     refine rnumber_ok (by omega) (by omega) ?_
     simp only[AEnd.elim]
     have h10:=encN_10 (n:=n.toNat) (by omega)
     rw[vBin_sadd _ _ _ (by simp[ByteArray.size];omega)]
     rw[w64 (by omega) (by omega)]
     have e1:encL (o.nums.take (i+1))=encL (o.nums.take i)++encN n.toNat:=by
      rw[List.take_add_one,hn];simp[encL]
     have e2:(⟨(encL (o.nums.take i)).toArray⟩:ByteArray)++⟨(encN n.toNat).toArray⟩=⟨(encL (o.nums.take (i+1))).toArray⟩:=by
      apply ByteArray.ext
      rw[ByteArray.data_append,e1];simp
     rw[e2]
     exact hG ⟨by omega,by omega⟩
  refine key _ _ _ _ (λhbad=>?_) (λhg=>⟨rfl,5-(i+1),by omega,i+1,rfl,rfl,by omega,rfl,λx hx=>?_⟩)
  ·intro r hr
   simp only[Prod.mk.injEq]at hr
   obtain⟨r1,r2,r3,r5⟩:=hr
   rw[r2,r3]
   have hex:∃n∈o.nums,n<0\/9007199254740992<n:=⟨n,List.mem_of_getElem? hn,hbad⟩
   unfold opB opE at hR
   rw[if_pos hex,if_pos hex]at hR
   exact⟨h,hs.trans hsq,hR⟩
  ·rw[List.take_add_one,hn]at hx
   rcases List.mem_append.1 hx with hx | hx
   ·exact hgood x hx
   ·simp at hx;rw[hx];exact hg
 ·have e:i=5:=by omega
  subst e
  unfold b36_4
  simp only[vBin_lss,dIf_b]
  refine⟨λe=>absurd e (by simp),λ_=>?_⟩
  intro r hr
  simp only[Prod.mk.injEq]at hr
  obtain⟨r1,r2,r3,r5⟩:=hr
  simp only[r1,r2,r3,r5,vFA_p,Nat.zero_add]
  have htk:o.nums.take 5=o.nums:=rfl
  rw[htk]at hgood hbd ⊢
  have hno:¬∃n∈o.nums,n<0\/9007199254740992<n:=λ⟨n,hn,hb⟩=>by have:=hgood n hn;omega
  unfold opB opE at hR
  rw[if_neg hno,if_neg hno]at hR
  rw[vLoad_1 (hsq _ _ hcc) (show o.a[5]?=some (.float .f64 o.price)from rfl)]
  refine f2b_ok ?_
  refine lf_intro (λm s' g'=>∃(k x:Nat) (bs:List UInt8) (sv:Value),s'=(.int .u64 x,sv,.int .i64 k)/\m=8-k/\k<=8/\x<18446744073709551616/\bs++le8 x (8-k)=le8 o.price 8/\bs.length=k/\OB 5 1 g bs.length (byteCells bs) g' sv) 8
   ⟨0,o.price,[],.slice none 0 0,rfl,rfl,by omega,hp,rfl,rfl,Sub.refl g,rfl,.inl ⟨rfl,rfl,rfl⟩⟩ ?_
  rintro m s' g' ⟨k,x,bs,sv,rfl,rfl,hk,hx,hbs,hbl,ob⟩
  by_cases hkn:k<8
  ·have key:∀(kn:Value->(Value×Value×Value)->PH->Prop) Kp x2,(∀g2 s2,OB 5 1 g (bs ++ [UInt8.ofNat (x%256)]).length (byteCells (bs ++ [UInt8.ofNat (x%256)])) g2 s2->kn (.string ⟨(encL o.nums).toArray⟩) (.int .u64 (x/256:Nat),s2,.int .i64 ((k:Int)+1)) g2) ->
     b36_12 Kp x2 (.string ⟨(encL o.nums).toArray⟩) kn (.int .u64 x,sv,.int .i64 k) g':=by
    intro kn Kp x2 hkn2
    unfold b36_12
    have hlt:(k:Int)<8:=by omega
    simp only[vBin_lss,hlt,decide_true,dIf_b]
    refine⟨λ_=>?_,λe=>absurd e (by simp)⟩
    rw[vBin_rem256,vConvI_i,wrap_u8n (n:=x%256) (by omega) rfl]
    refine ob_byte ob (by omega) λh3 s3 ob3=>?_
    rw[vBin_quo256 _ hx]
    simp only[vBin_add]
    rw[w64 (by omega) (by omega)]
    exact hkn2 h3 s3 ob3
   refine key _ _ _ λg2 s2 ob2=>⟨rfl,8-(k+1),by omega,k+1,x/256,_,s2,rfl,rfl,by omega,by omega,?_,by simp[hbl],ob2⟩
   rw[<-hbs,show 8-k=(8-(k+1))+1 by omega,List.append_assoc]
   rfl
  ·have e:k=8:=by omega
   unfold b36_12
   have hge:¬(k:Int)<8:=by omega
   simp only[vBin_lss,hge,decide_false,dIf_b]
   refine⟨λe=>absurd e (by simp),λ_=>?_⟩
   intro r2 hr2
   simp only[Prod.mk.injEq]at hr2
   rw[hr2.1,hr2.2]
   refine ob_conv ob ?_
   have hb8:bs=le8 o.price 8:=by rw[<-hbs,e];simp[le8]
   rw[vBin_sadd _ _ _ (by simp[ByteArray.size];omega)]
   have e2:(⟨(encL o.nums).toArray⟩:ByteArray)++⟨bs.toArray⟩=⟨(encL o.nums++le8 o.price 8).toArray⟩:=by
    apply ByteArray.ext
    rw[ByteArray.data_append,hb8];simp
   rw[e2]
   exact⟨h,(hs.trans hsq).trans ob.sub,hR⟩
end
end Go.Pw
set_option linter.unusedSimpArgs false
set_option linter.unusedVariables false
namespace Go.Pw
open Go Go.Proofs
def op0:OpV:={kind:=0,good:=0,am:=0,side:=0,id:=0,price:=0}
def un8:List UInt8->Nat
 | []=>0
 | c::l=>c.toNat+256*un8 l
theorem un8_snoc:∀(l:List UInt8) (c:UInt8),un8 (l ++ [c])=un8 l+256^l.length*c.toNat
 | [],c=>by simp[un8]
 | a::l,c=>by
  simp only[List.cons_append,un8,un8_snoc l c,List.length_cons]
  rw[Nat.mul_add,Nat.pow_succ,<-Nat.mul_assoc,Nat.mul_comm (256^l.length) 256];omega
theorem un8_lt:∀l:List UInt8,un8 l<256^l.length
 | []=>by simp[un8]
 | a::l=>by
  have h1:=un8_lt l
  have h2:a.toNat<256:=a.toNat_lt
  simp only[un8,List.length_cons]
  rw[Nat.pow_succ];omega
def ofOpO (s:ByteArray):OpV×Int:=
 if 256<s.size then (op0,4)else
 match rdNum s.data.toList 0 with
 | .bad e=>(op0,e)
 | .ok k a1=>match rdNum s.data.toList a1 with
  | .bad e=>(op0,e)
  | .ok g a2=>match rdNum s.data.toList a2 with
   | .bad e=>(op0,e)
   | .ok m a3=>match rdNum s.data.toList a3 with
    | .bad e=>(op0,e)
    | .ok d a4=>match rdNum s.data.toList a4 with
     | .bad e=>(op0,e)
     | .ok i a5=>if s.size<a5+8 then (op0,10)else if a5+8<s.size then (op0,12)
      else ({kind:=k,good:=g,am:=m,side:=d,id:=i,price:=un8 (s.extract a5 (a5+8)).data.toList},0)
theorem rdN_num {s:List UInt8}:∀(fuel i n at_ m next:Nat),rdN s fuel i n at_ = .ok m next->m<=9007199254740992
 | 0,i,n,at_,m,next,h=>by simp[rdN]at h
 | fuel+1,i,n,at_,m,next,h=>by
  rw[rdN]at h
  split at h
  ·cases h
  ·split at h
   ·split at h
    ·cases h
    ·exact rdN_num fuel _ _ _ _ _ h
   ·split at h
    ·cases h
    ·rename_i hh
     cases h
     omega
theorem ofOpO_bd (s:ByteArray):0<=(ofOpO s).1.kind/\(ofOpO s).1.kind<=9007199254740992/\0<=(ofOpO s).1.good/\(ofOpO s).1.good<=9007199254740992/\0<=(ofOpO s).1.am/\(ofOpO s).1.am<=9007199254740992 /\
  0<=(ofOpO s).1.side/\(ofOpO s).1.side<=9007199254740992/\0<=(ofOpO s).1.id/\(ofOpO s).1.id<=9007199254740992/\(ofOpO s).1.price<18446744073709551616:=by
 have z:0<=op0.kind/\op0.kind<=9007199254740992/\0<=op0.good/\op0.good<=9007199254740992/\0<=op0.am/\op0.am<=9007199254740992/\0<=op0.side/\op0.side<=9007199254740992/\0<=op0.id/\op0.id<=9007199254740992/\op0.price<18446744073709551616:=by
  simp[op0]
 unfold ofOpO
 split
 ·exact z
 cases h1:rdNum s.data.toList 0 with
 | bad e=>exact z
 | ok k a1=>
  simp only
  cases h2:rdNum s.data.toList a1 with
  | bad e=>exact z
  | ok g a2=>
   simp only
   cases h3:rdNum s.data.toList a2 with
   | bad e=>exact z
   | ok m a3=>
    simp only
    cases h4:rdNum s.data.toList a3 with
    | bad e=>exact z
    | ok d a4=>
     simp only
     cases h5:rdNum s.data.toList a4 with
     | bad e=>exact z
     | ok i a5=>
      simp only
      split
      ·exact z
      ·split
       ·exact z
       ·have b1:=rdN_num _ _ _ _ _ _ h1
        have b2:=rdN_num _ _ _ _ _ _ h2
        have b3:=rdN_num _ _ _ _ _ _ h3
        have b4:=rdN_num _ _ _ _ _ _ h4
        have b5:=rdN_num _ _ _ _ _ _ h5
        have b6:=un8_lt (s.extract a5 (a5+8)).data.toList
        have b7:(s.extract a5 (a5+8)).data.toList.length<=8:=by
         rw[Array.length_toList]
         show (s.extract a5 (a5+8)).size<=8
         rw[ByteArray.size_extract];omega
        have b8:256^(s.extract a5 (a5+8)).data.toList.length<=256^8:=Nat.pow_le_pow_right (by omega) b7
        have b9:(256:Nat)^8=18446744073709551616:=rfl
        simp only
        omega
section
variable {h g:PH} {R:AEnd->PH->Prop} {a b:Nat} {va:Array Value} {vb:Value}
structure S2 (h g:PH) (a b:Nat) (va:Array Value) (vb:Value):Prop where
 sub:Sub h g
 a0:h a=none
 b0:h b=none
 ga:g a=some (.cells va 25 (0,0))
 gb:g b=some (.cells #[vb] 30 (0,0))
 ab:a≠b
 sz:va.size=6
theorem S2.other (s:S2 h g a b va vb) {p:Nat} {o:Obj} (hp:h p=none) (ha:a≠p) (hb:b≠p):S2 h (ins g p o) a b va vb:=
 ⟨Sub.put s.sub hp,s.a0,s.b0,by rw[ins_ne _ _ ha];exact s.ga,by rw[ins_ne _ _ hb];exact s.gb,s.ab,s.sz⟩
theorem S2.stA {K:PH->Prop} (s:S2 h g a b va vb) {wa:Array Value} (hw:wa.size=6) (ho:wa.toList.all Value.oneCell'=true) (hk:∀g,S2 h g a b wa vb->K g):vStore 6 (.pointer (some ⟨a,0,none⟩)) (.agg wa) g K:=
 vStore_to s.ga s.sz hw ho (hk _ ⟨Sub.put s.sub s.a0,s.a0,s.b0,ins_eq _ _ _,by rw[ins_ne _ _ s.ab.symm];exact s.gb,s.ab,hw⟩)
theorem S2.stB {K:PH->Prop} (s:S2 h g a b va vb) {v:Value} (ho:v.oneCell'=true) (hk:∀g,S2 h g a b va v->K g):vStore 1 (.pointer (some ⟨b,0,none⟩)) v g K:=
 (vStore_1 s.gb (by simp) ho).2 (hk _ ⟨Sub.put s.sub s.b0,s.a0,s.b0,by rw[ins_ne _ _ s.ab];exact s.ga,ins_eq _ _ _,s.ab,s.sz⟩)
theorem S2.ldA {K:Value->Prop} (s:S2 h g a b va vb):vLoad (some 6) (.pointer (some ⟨a,0,none⟩)) g K↔K (.agg va):=by
 rw[vLoad_n s.ga (off:=0) (n:=6) (by rw[s.sz];omega),show va.extract 0 (0+6)=va by have:=s.sz;simp[<-this]]
theorem S2.ldB {K:Value->Prop} (s:S2 h g a b va vb):vLoad none (.pointer (some ⟨b,0,none⟩)) g K↔K vb:=vLoad_1 s.gb rfl
theorem door_op (s:S2 h g a b va vb) (er:Int) (hR:R (.ret (.tuple #[op0.v,.int .i64 er])) h) :
  d32 (ptr a) (ptr b) (ptr a) (ptr b) (λe h'=>∃g,Sub g h'/\R e g) (.iface 178 (.int .i64 er)) g:=by
 unfold d32
 rw[any_neq]
 simp only[dIf_b]
 refine⟨λ_=>?_,λe=>absurd e (by simp)⟩
 refine⟨_,rfl,?_⟩
 refine caught_ok ?_
 simp only[AEnd.elim]
 refine s.stA (wa:=op0.a) rfl (by rfl) λg1 s1=>s1.stB rfl λg2 s2=>?_
 rw[s2.ldA,s2.ldB]
 exact⟨h,s2.sub,hR⟩
theorem door_op_nil (s:S2 h g a b va vb) (hR:R (.ret (.tuple #[.agg va,vb])) h) :
  d32 (ptr a) (ptr b) (ptr a) (ptr b) (λe h'=>∃g,Sub g h'/\R e g) .nilIface g:=by
 unfold d32
 rw[any_nil]
 simp only[dIf_b]
 refine⟨λe=>absurd e (by simp),λ_=>?_⟩
 rw[s.ldA,s.ldB]
 exact⟨h,s.sub,hR⟩
theorem rd_end {p:Nat} {s:ByteArray} {j:Nat} (hr:RdAt h p s j) (hz:s.size<4611686018427387904) (hok:¬j<s.size->R (.ret (.tuple #[])) h) (hbad:j<s.size->R (.pan (fault 12)) h):ACalls Tryz.prog 62 #[ptr p] h R:=by
 refine call62 ?_
 unfold sh62
 have q0:(#[Value.string s,.int .i64 j]:Array Value)[0+0]?=some (.string s):=rfl
 have q1:(#[Value.string s,.int .i64 j]:Array Value)[0+1]?=some (.int .i64 j):=rfl
 simp only[vNil_p,vFA_p,vLoad_1 hr q0,vLoad_1 hr q1,vLenStr_s,vBin_lss,dIf_b,decide_eq_true_eq,decide_eq_false_iff_not]
 exact⟨λhlt=>⟨_,_,rfl,hbad (by omega)⟩,λhge=>hok (by omega)⟩
theorem vBin_shl8 {P:Program} {K:Value->Prop} {t:TypeId} {c i:Nat} (hc:c<256) (hi:i<8):vBin P .shl t (.int .u64 c) (.int .i64 ((8:Int)*i)) K↔K (.int .u64 (c*256^i:Nat)):=by
 refine vBin_of λ_ _=>?_
 have e:min ((8:Int)*i).toNat 64=8*i:=by omega
 have hn:¬((8:Int)*(i:Int)<0):=by omega
 have hp:(2:Nat)^(8*i)=256^i:=by rw[Nat.pow_mul]
 have hp2:((c:Int)*2^(8*i))=((c*256^i:Nat):Int):=by
  rw[<-hp];simp
 have hb:256^i<=256^7:=Nat.pow_le_pow_right (by omega) (by omega)
 have hb2:c*256^i<=255*256^7:=Nat.mul_le_mul (by omega) hb
 have hb3:(255:Nat)*256^7<18446744073709551616:=by decide
 have hw:IntKind.u64.wrap ((c*256^i:Nat):Int)=((c*256^i:Nat):Int):=wrap_u64 (by omega) (by omega)
 simp only[eqGuard,binOp,Op.shift,hn,if_false,IntKind.bits,e,hp2,hw]
 rfl
theorem vBin_orU {P:Program} {K:Value->Prop} {t:TypeId} {n M:Nat} (he:n ||| M=n+M) (h2:n+M<18446744073709551616):vBin P .or t (.int .u64 n) (.int .u64 M) K↔K (.int .u64 (n+M:Nat)):=by
 have key:(BitVec.ofInt 64 (n:Int) ||| BitVec.ofInt 64 (M:Int)).toNat=n+M:=by
  rw[BitVec.toNat_or,ofInt_toNat (by omega) (by omega),ofInt_toNat (by omega) (by omega)]
  exact he
 refine vBin_of λ_ _=>?_
 show some (Value.int .u64 (IntKind.u64.wrap ((BitVec.ofInt 64 (n:Int) ||| BitVec.ofInt 64 (M:Int)).toNat)))=_
 rw[key,wrap_u64 (by omega) (by omega)]
end
end Go.Pw
set_option linter.unusedSimpArgs false
set_option linter.unusedVariables false
namespace Go.Pw
open Go Go.Proofs
section
variable {h g:PH} {R:AEnd->PH->Prop} {a b p j:Nat} {va:Array Value} {vb:Value} {s:ByteArray}
structure SR (h g:PH) (a b p:Nat) (s:ByteArray) (j:Nat) (va:Array Value) (vb:Value):Prop where
 s2:S2 h g a b va vb
 hp:RdAt g p s j
 p0:h p=none
 ap:a≠p
 bp:b≠p
theorem SR.at (r:SR h g a b p s j va vb) (k:Nat):SR h (putRd g p s k) a b p s k va vb:=
 ⟨r.s2.other r.p0 r.ap r.bp,ins_eq _ _ _,r.p0,r.ap,r.bp⟩
theorem SR.num {K:Value->PH->Prop} {Kp:List PanicEntry->PH->Prop} (r:SR h g a b p s j va vb) (hz:s.size<9223372036854775807)
  (hok:∀n next g',rdNum s.data.toList j = .ok n next->SR h g' a b p s next va vb->K (.int .i64 n) g') (hbad:∀e g',rdNum s.data.toList j = .bad e->S2 h g' a b va vb->Kp (fault e) g') :
  vCall Tryz.prog 60 #[ptr p] g K Kp:=
 rd_number r.hp hz (λn next hrd=>hok n next _ hrd (r.at next)) (λe k hrd=>hbad e _ hrd (r.at k).s2)
theorem SR.stF {K:PH->Prop} (r:SR h g a b p s j va vb) {i:Nat} (hi:i<6) {v:Value} (ho:v.oneCell'=true) (hk:∀g',SR h g' a b p s j (va.setIfInBounds i v) vb->K g'):vStore 1 (.pointer (some ⟨a,i,none⟩)) v g K:=
 (vStore_1 r.s2.ga (by rw[r.s2.sz];exact hi) ho).2 (hk _ ⟨⟨Sub.put r.s2.sub r.s2.a0,r.s2.a0,r.s2.b0,ins_eq _ _ _,by rw[ins_ne _ _ r.s2.ab.symm];exact r.s2.gb,r.s2.ab,by simp[r.s2.sz]⟩,by
  show ins _ _ _ _=_
  rw[ins_ne _ _ (λe=>r.ap e.symm)];exact r.hp,r.p0,r.ap,r.bp⟩)
theorem bytes8_ok {S:ByteArray} (h8:S.size=8) {F:Value×Value×Value×Value} {Kp:List PanicEntry->PH->Prop} {x0:(Value×Value×Value×Value)->PH->Prop} (hF:F.2.2.2 = .string S) (hX:x0 (F.1,F.2.1,F.2.2.1,.int .u64 (un8 S.data.toList)) g) :
  lf (b32_9 Kp x0) F (.int .u64 0,.int .i64 0) g:=by
 have hl:S.data.toList.length=8:=by rw[Array.length_toList];exact h8
 refine lf_intro (λm s' g'=>∃i:Nat,s'=(.int .u64 (un8 (S.data.toList.take i)),.int .i64 i)/\m=8-i/\i<=8/\g'=g) 8 ⟨0,rfl,rfl,by omega,rfl⟩ ?_
 rintro m s' g' ⟨i,rfl,rfl,hi,rfl⟩
 unfold b32_9
 rw[hF]
 simp only[vBin_lss,dIf_b,decide_eq_true_eq,decide_eq_false_iff_not]
 refine⟨λhlt=>?_,λhge=>?_⟩
 ·have hi8:i<8:=by omega
  obtain⟨c,hc⟩:∃c,S.data.toList[i]?=some c:=⟨_,List.getElem?_eq_getElem (by omega)⟩
  have hcl:c.toNat<256:=c.toNat_lt
  refine⟨S,_,_,c,rfl,rfl,by omega,by rw[Int.toNat_natCast,<-Array.getElem?_toList];exact hc,?_⟩
  simp only[vConvI_i,vBin_mul]
  rw[wrap_u64 (by omega) (by omega),w64 (by omega) (by omega),vBin_shl8 hcl hi8]
  have hul:un8 (S.data.toList.take i)<256^i:=by
   have:=un8_lt (S.data.toList.take i)
   rwa [List.length_take,Nat.min_eq_left (by omega)]at this
  have hpw:(256:Nat)^i=2^(8*i):=by rw[Nat.pow_mul]
  have hsum:un8 (S.data.toList.take (i+1))=un8 (S.data.toList.take i)+c.toNat*256^i:=by
   rw[List.take_add_one,hc,Option.toList,un8_snoc,List.length_take,Nat.min_eq_left (by omega),Nat.mul_comm]
  have hlt64:un8 (S.data.toList.take (i+1))<18446744073709551616:=by
   have h1:=un8_lt (S.data.toList.take (i+1))
   have h2:(S.data.toList.take (i+1)).length<=8:=by rw[List.length_take];omega
   have h3:256^(S.data.toList.take (i+1)).length<=256^8:=Nat.pow_le_pow_right (by omega) h2
   have h4:(256:Nat)^8=18446744073709551616:=rfl
   omega
  rw[vBin_orU (by rw[hpw];exact or_dis (by rw[<-hpw];exact hul)) (by rw[<-hsum];exact hlt64),<-hsum]
  simp only[vBin_add]
  rw[w64 (by omega) (by omega)]
  exact⟨by trivial,8-(i+1),by omega,i+1,rfl,by trivial,by omega,by trivial⟩
 ·have e:i=8:=by omega
  rw[e,show S.data.toList.take 8=S.data.toList by rw[List.take_of_length_le (by omega)]]
  exact hX
theorem ofOp_ok (hR:R (.ret (.tuple #[(ofOpO s).1.v,.int .i64 (ofOpO s).2])) h):ACalls Tryz.prog 32 #[.string s] h R:=by
 refine ACalls.drop (call32 ?_)
 unfold sh32
 refine vNew_i λa ha=>vNew_i λb hb=>?_
 obtain⟨hb1,hb2⟩:=fresh_of hb
 have s0:S2 h (ins (ins h a (.cells op0.a 25 (0,0))) b (.cells #[.int .i64 0] 30 (0,0))) a b op0.a (.int .i64 0):=
  ⟨Sub.put (Sub.put (Sub.refl h) ha) hb1,ha,hb1,by rw[ins_ne _ _ hb2.symm];exact ins_eq _ _ _,ins_eq _ _ _,hb2.symm,rfl⟩
 have e0:ins (ins h a (.cells #[.int .i64 0,.int .i64 0,.int .i64 0,.int .i64 0,.int .i64 0,.float .f64 0] 25 (0,0))) b (.cells #[.int .i64 0] 30 (0,0))=ins (ins h a (.cells op0.a 25 (0,0))) b (.cells #[.int .i64 0] 30 (0,0)):=rfl
 rw[e0]
 revert s0
 generalize ins (ins h a (.cells op0.a 25 (0,0))) b (.cells #[.int .i64 0] 30 (0,0))=g
 intro s0
 unfold ofOpO at hR
 simp only[vLenStr_s,vBin_gtr,dIf_b,decide_eq_true_eq,decide_eq_false_iff_not]
 refine⟨λhlong=>?_,λhshort=>?_⟩
 ·rw[if_pos (by omega)]at hR
  refine⟨_,rfl,?_⟩
  refine s0.stA (wa:=op0.a) rfl (by rfl) λg1 s1=>s1.stB rfl λg2 s2=>?_
  rw[s2.ldA,s2.ldB]
  exact⟨h,s2.sub,hR⟩
 rw[if_neg (by omega)]at hR
 have hz:s.size<4611686018427387000:=by omega
 refine⟨#[.string s,.int .i64 0],rfl,?_⟩
 refine vNew_i λp hp=>?_
 refine vStore_to (ins_eq _ _ _) (by rfl) (by rfl) (by rfl) ?_
 rw[ins_ins]
 have hph:h p=none:=s0.sub.fresh hp
 have hpa:a≠p:=λe=>by rw[<-e,s0.ga]at hp;cases hp
 have hpb:b≠p:=λe=>by rw[<-e,s0.gb]at hp;cases hp
 have r0:SR h (ins g p (.cells #[.string s,.int .i64 0] 135 (0,0))) a b p s 0 op0.a (.int .i64 0):=⟨s0.other hph hpa hpb,ins_eq _ _ _,hph,hpa,hpb⟩
 revert r0
 generalize ins g p (.cells #[.string s,.int .i64 0] 135 (0,0))=g0
 intro r0
 have bad:∀e g',S2 h g' a b op0.a (.int .i64 0)->R (.ret (.tuple #[op0.v,.int .i64 e])) h->∃v,fault e = [{v:=v,recovered:=false}]/\d32 (ptr a) (ptr b) (ptr a) (ptr b) (λe h'=>∃g,Sub g h'/\R e g) v g':=λe g' s' hr=>⟨_,rfl,door_op s' e hr⟩
 refine r0.num (by omega) (λk a1 g1 e1 r1=>?_) (λe g' h1 s'=>by rw[h1]at hR;exact bad e g' s' hR)
 rw[e1]at hR;simp only at hR
 refine r1.num (by omega) (λgd a2 g2 e2 r2=>?_) (λe g' h1 s'=>by rw[h1]at hR;exact bad e g' s' hR)
 rw[e2]at hR;simp only at hR
 refine r2.num (by omega) (λm a3 g3 e3 r3=>?_) (λe g' h1 s'=>by rw[h1]at hR;exact bad e g' s' hR)
 rw[e3]at hR;simp only at hR
 refine r3.num (by omega) (λd a4 g4 e4 r4=>?_) (λe g' h1 s'=>by rw[h1]at hR;exact bad e g' s' hR)
 rw[e4]at hR;simp only at hR
 refine r4.num (by omega) (λi a5 g5 e5 r5=>?_) (λe g' h1 s'=>by rw[h1]at hR;exact bad e g' s' hR)
 rw[e5]at hR;simp only at hR
 have ha5:a5<=s.size:=by
  have:=rdN_le _ _ _ _ _ _ e5
  rwa [Array.length_toList]at this
 simp only[vFA_p,Nat.zero_add]
 refine r5.stF (by omega) rfl λg6 r6=>r6.stF (by omega) rfl λg7 r7=>r7.stF (by omega) rfl λg8 r8=>r8.stF (by omega) rfl λg9 r9=>r9.stF (by omega) rfl λg10 r10=>?_
 have eva:(((((op0.a.setIfInBounds 0 (.int .i64 k)).setIfInBounds 1 (.int .i64 gd)).setIfInBounds 2 (.int .i64 m)).setIfInBounds 3 (.int .i64 d)).setIfInBounds 4 (.int .i64 i))=(OpV.a {kind:=k,good:=gd,am:=m,side:=d,id:=i,price:=0}):=rfl
 rw[eva]at r10
 have bad2:∀e g' va vb,S2 h g' a b va vb->R (.ret (.tuple #[op0.v,.int .i64 e])) h->∃v,fault e = [{v:=v,recovered:=false}]/\d32 (ptr a) (ptr b) (ptr a) (ptr b) (λe h'=>∃g,Sub g h'/\R e g) v g':=λe g' va vb s' hr=>⟨_,rfl,door_op s' e hr⟩
 refine rd_bytes (n:=8) r10.hp (by omega) (by omega) (by omega) (λhlong=>?_) (λhlack=>?_)
 ·rw[if_neg hlong]at hR
  simp only[AEnd.elim]
  have r11:=r10.at (a5+8)
  refine bytes8_ok (S:=s.extract a5 (a5+8)) (by rw[ByteArray.size_extract];omega) rfl ?_
  intro r hr
  simp only[Prod.mk.injEq]at hr
  obtain⟨q2,q3,q4,q6⟩:=hr
  simp only[q2,q3,q4,q6]
  refine rd_end r11.hp (by omega) (λhend=>?_) (λhtail=>?_)
  ·rw[if_neg hend]at hR
   simp only[AEnd.elim]
   refine b2f_ok ?_
   simp only[vFA_p,Nat.zero_add,Int.toNat_natCast]
   refine r11.stF (by omega) rfl λg12 r12=>?_
   rw[r12.s2.ldA]
   have ev:(OpV.a {kind:=k,good:=gd,am:=m,side:=d,id:=i,price:=0}).setIfInBounds 5 (.float .f64 (un8 (s.extract a5 (a5+8)).data.toList))=OpV.a {kind:=k,good:=gd,am:=m,side:=d,id:=i,price:=un8 (s.extract a5 (a5+8)).data.toList}:=rfl
   rw[ev]at r12 ⊢
   refine r12.s2.stA (wa:=OpV.a {kind:=k,good:=gd,am:=m,side:=d,id:=i,price:=un8 (s.extract a5 (a5+8)).data.toList}) rfl (by rfl) λg13 r13=>r13.stB rfl λg14 r14=>?_
   exact door_op_nil r14 hR
  ·rw[if_pos htail]at hR
   exact bad2 12 _ _ _ r11.s2 hR
 ·rw[if_pos hlack]at hR
  exact bad2 10 _ _ _ r10.s2 hR
end
end Go.Pw
set_option linter.unusedSimpArgs false
set_option linter.unusedVariables false
namespace Go.Pw
open Go Go.Proofs
instance:Std.Associative (HSMul.hSMul:(PH->Prop)->(PH->Prop)->(PH->Prop)):=⟨sep_assoc⟩
instance:Std.Commutative (HSMul.hSMul:(PH->Prop)->(PH->Prop)->(PH->Prop)):=⟨sep_comm⟩
theorem sep_upd {A A' C:PH->Prop} {h:PH} {b:Nat} {o:Obj} (H:(A•C) h) (hA:∀h1,A h1->(∃p,h1 b=some p)/\A' (ins h1 b o)):(A'•C) (ins h b o):=by
 obtain⟨h1,h2,d,s1,s2,a,c⟩:=H
 obtain⟨⟨p,hp⟩,a'⟩:=hA h1 a
 have hb:h2 b=none:=d b (by rw[hp];simp)
 refine⟨ins h1 b o,h2,λx hx=>?_,s1.both,λx q hq=>?_,a',c⟩
 ·by_cases e:x=b
  ·rw[e];exact hb
  ·rw[ins_ne _ _ e]at hx;exact d x hx
 ·rw[ins_ne _ _ (λe=>by rw[e,hb]at hq;cases hq)];exact s2 _ _ hq
structure Hs where
 L:Led
 now:Int
 bk:Nat->Bk
 au:Nat->Option (Auc×Int)
def Hs.G (S:Hs):Nat:=S.L.goods.toNat
def Hs.setL (S:Hs) (L:Led):Hs:={S with L:=L}
def Hs.setBk (S:Hs) (i:Nat) (B:Bk):Hs:={S with bk:=λk=>if k=i then B else S.bk k}
def Hs.setAu (S:Hs) (i:Nat) (A:Option (Auc×Int)):Hs:={S with au:=λk=>if k=i then A else S.au k}
structure Nm where
 l:Nat
 lb:Nat
 bs:Nat
 bcap:Nat
 cb:Array Value
 ss:Nat
 ba:Nat->Nat
 aa:Nat->Nat
 ab:Nat->Nat
def hsHd (nm:Nm) (S:Hs):Array Value:=#[ptr nm.l,.int .i64 S.L.n,.int .i64 S.L.goods,.int .i64 S.now,.slice (some ⟨nm.bs,0,none⟩) S.G nm.bcap,.slice (some ⟨nm.ss,0,none⟩) S.G S.G]
def saleP (nm:Nm) (S:Hs) (i:Nat):Value:=match S.au i with | some _=>ptr (nm.aa i) | none=>.pointer none
def saleW (S:Hs) (i:Nat):Int:=match S.au i with | some p=>p.2 | none=>0
def saleC (nm:Nm) (S:Hs):Array Value:=Array.ofFn (n:=S.G*2) λk=>if k.val%2=0 then saleP nm S (k.val/2)else .int .i64 (saleW S (k.val/2))
theorem saleC_size (nm:Nm) (S:Hs):(saleC nm S).size=S.G*2:=by simp[saleC]
theorem saleC_p {nm:Nm} {S:Hs} {i:Nat} (hi:i<S.G):(saleC nm S)[i*2]?=some (saleP nm S i):=by
 unfold saleC
 rw[Array.getElem?_ofFn,dif_pos (by omega)]
 simp only
 rw[if_pos (by omega),show i*2/2=i by omega]
theorem saleC_w {nm:Nm} {S:Hs} {i:Nat} (hi:i<S.G):(saleC nm S)[i*2+1]?=some (.int .i64 (saleW S i)):=by
 unfold saleC
 rw[Array.getElem?_ofFn,dif_pos (by omega)]
 simp only
 rw[if_neg (by omega),show (i*2+1)/2=i by omega]
abbrev hsO (nm:Nm) (S:Hs):Obj:=.cells (hsHd nm S) 85 (0,0)
abbrev saO (nm:Nm) (S:Hs):Obj:=.cells (saleC nm S) 98 (0,0)
abbrev boO (nm:Nm):Obj:=.cells nm.cb 93 (0,0)
def LedP (l lb:Nat) (L:Led):PH->Prop:=λh=>LedAt h l lb L
def AucP (a bb:Nat) (A:Auc):PH->Prop:=λh=>AucAt h a bb A
def auP (nm:Nm) (S:Hs) (i:Nat):PH->Prop:=match S.au i with | some p=>AucP (nm.aa i) (nm.ab i) p.1 | none=>emp
def bkP (nm:Nm) (S:Hs) (i:Nat):PH->Prop:=BkP (nm.ba i) (S.bk i)
def HsN (x:Nat) (nm:Nm) (S:Hs):PH->Prop:=pt x (hsO nm S)•LedP nm.l nm.lb S.L•pt nm.bs (boO nm)•pt nm.ss (saO nm S)•stars (bkP nm S) S.G•stars (auP nm S) S.G
structure Nm.ok (nm:Nm) (S:Hs):Prop where
 cb:∀i,i<S.G->nm.cb[i]?=some (ptr (nm.ba i))
 cap:S.G<=nm.bcap
section
variable {h g:PH} {x:Nat} {nm:Nm} {S:Hs} {C:PH->Prop} {l lb a bb:Nat} {L:Led} {A B:Auc}
theorem LedP.mono:Mono (LedP l lb L):=λh g hs hL=>LedAt.sub hL hs
theorem AucP.mono:Mono (AucP a bb A):=λh g hs hA=>AucAt.sub hA hs
theorem auP.mono (i:Nat):Mono (auP nm S i):=by
 unfold auP
 cases S.au i with
 | none=>exact mono_emp
 | some p=>exact AucP.mono
theorem HsN.mono:Mono (HsN x nm S):=mono_sep _ _
theorem led_put {L':Led} (H:(LedP l lb L•C) h) (hg:L'.goods=L.goods) (hn:L'.n=L.n):(LedP l lb L'•C) (putLed h lb L'):=
 sep_upd H λh1 a=>⟨⟨_,a.hb⟩,a.put hg hn⟩
theorem auc_put (H:(AucP a bb A•C) h):(AucP a bb B•C) (putAuc h a bb B):=by
 unfold putAuc
 refine sep_upd (A:=λh=>a≠bb/\(∃p,h a=some p)/\h bb=some (.cells (bidCells B) 157 (0,0))) (sep_upd H λh1 hA=>⟨⟨_,hA.hb⟩,hA.ne,⟨_,by rw[ins_ne _ _ hA.ne];exact hA.ha⟩,ins_eq _ _ _⟩) ?_
 rintro h1 ⟨hne,hp,hb⟩
 exact⟨hp,ins_eq _ _ _,by rw[ins_ne _ _ hne.symm];exact hb⟩
structure HF (h:PH) (x:Nat) (nm:Nm) (S:Hs):Prop where
 hx:h x=some (hsO nm S)
 hl:LedAt h nm.l nm.lb S.L
 hb:h nm.bs=some (boO nm)
 hs:h nm.ss=some (saO nm S)
 bk:∀i,i<S.G->BkP (nm.ba i) (S.bk i) h
 au:∀i p,i<S.G->S.au i=some p->AucAt h (nm.aa i) (nm.ab i) p.1
theorem HsN.f (H:HsN x nm S h):HF h x nm S:=by
 unfold HsN at H
 have e1:∀(P1 P2 P3 P4 P5 P6:PH->Prop),P1•P2•P3•P4•P5•P6=P5•(P1•P2•P3•P4•P6):=λ_ _ _ _ _ _=>by ac_rfl
 have e2:∀(P1 P2 P3 P4 P5 P6:PH->Prop),P1•P2•P3•P4•P5•P6=P6•(P1•P2•P3•P4•P5):=λ_ _ _ _ _ _=>by ac_rfl
 refine⟨pt_get H,sep_l LedP.mono (sep_r (mono_sep _ _) H),pt_get (sep_r (mono_sep _ _) (sep_r (mono_sep _ _) H)),pt_get (sep_r (mono_sep _ _) (sep_r (mono_sep _ _) (sep_r (mono_sep _ _) H))),λi hi=>?_,λi p hi hp=>?_⟩
 ·rw[e1]at H
  have h1:=sep_l (mono_stars _ _) H
  rw[stars_get hi BkP.mono]at h1
  exact sep_l BkP.mono h1
 ·rw[e2]at H
  have h1:=sep_l (mono_stars _ _) H
  rw[stars_get hi (auP.mono i)]at h1
  have h2:=sep_l (auP.mono i) h1
  unfold auP at h2
  rw[hp]at h2
  exact h2
theorem HsN.led {L':Led} (H:(HsN x nm S•C) h) (hg:L'.goods=S.L.goods) (hn:L'.n=S.L.n):(HsN x nm (S.setL L')•C) (putLed h nm.lb L'):=by
 have eG:(S.setL L').G=S.G:=by unfold Hs.G Hs.setL;rw[hg]
 have e:∀(P1 P2 P3 P4 P5 P6 C:PH->Prop),(P1•P2•P3•P4•P5•P6)•C=P2•((P1•P3•P4•P5•P6)•C):=λ_ _ _ _ _ _ _=>by ac_rfl
 unfold HsN at H ⊢
 rw[e]at H ⊢
 have h1:hsO nm (S.setL L')=hsO nm S:=by unfold hsO hsHd;rw[eG];simp only[Hs.setL,hg,hn]
 have h2:saO nm (S.setL L')=saO nm S:=by unfold saO saleC;rw[eG];rfl
 rw[h1,h2,eG]
 exact led_put H hg hn
theorem HsN.book {i:Nat} (hi:i<S.G) (H:(HsN x nm S•C) h):∃C':PH->Prop,(BkP (nm.ba i) (S.bk i)•C'•C) h/\∀(B':Bk) (D:PH->Prop) (g:PH),(BkP (nm.ba i) B'•C'•D) g->(HsN x nm (S.setBk i B')•D) g:=by
 have e:∀(P1 P2 P3 P4 P5 P6 C:PH->Prop),(P1•P2•P3•P4•P5•P6)•C=P5•((P1•P2•P3•P4•P6)•C):=λ_ _ _ _ _ _ _=>by ac_rfl
 refine⟨stars (upA (bkP nm S) i emp) S.G•(pt x (hsO nm S)•LedP nm.l nm.lb S.L•pt nm.bs (boO nm)•pt nm.ss (saO nm S)•stars (auP nm S) S.G),?_,λB' D g Hg=>?_⟩
 ·unfold HsN at H
  rw[e,stars_get hi BkP.mono,sep_assoc]at H
  rw[sep_assoc]
  exact H
 ·unfold HsN
  rw[e]
  have eG:(S.setBk i B').G=S.G:=rfl
  have hst:stars (bkP nm (S.setBk i B')) S.G=BkP (nm.ba i) B'•stars (upA (bkP nm S) i emp) S.G:=by
   rw[stars_get hi BkP.mono]
   have h1:bkP nm (S.setBk i B') i=BkP (nm.ba i) B':=by unfold bkP Hs.setBk;simp
   have h2:upA (bkP nm (S.setBk i B')) i emp=upA (bkP nm S) i emp:=by
    funext k
    unfold upA
    split
    ·rfl
    ·rename_i hne;unfold bkP Hs.setBk;simp[hne]
   rw[h1,h2]
  rw[eG,hst,sep_assoc]
  have h3:auP nm (S.setBk i B')=auP nm S:=rfl
  have h4:hsO nm (S.setBk i B')=hsO nm S:=rfl
  have h5:saO nm (S.setBk i B')=saO nm S:=rfl
  rw[h3,h4,h5]
  rw[sep_assoc]at Hg
  exact Hg
theorem HsN.auc {i:Nat} {w:Int} (hi:i<S.G) (ha:S.au i=some (A,w)) (H:(HsN x nm S•C) h):(HsN x nm (S.setAu i (some (B,w)))•C) (putAuc h (nm.aa i) (nm.ab i) B):=by
 have e:∀(P1 P2 P3 P4 P5 P6 C:PH->Prop),(P1•P2•P3•P4•P5•P6)•C=P6•((P1•P2•P3•P4•P5)•C):=λ_ _ _ _ _ _ _=>by ac_rfl
 unfold HsN at H ⊢
 rw[e]at H ⊢
 have hst:∀S':Hs,stars (auP nm S') S.G=auP nm S' i•stars (upA (auP nm S') i emp) S.G:=λS'=>stars_get hi (auP.mono i)
 have eG:(S.setAu i (some (B,w))).G=S.G:=rfl
 rw[hst,sep_assoc]at H
 rw[eG,hst,sep_assoc]
 have h1:auP nm S i=AucP (nm.aa i) (nm.ab i) A:=by unfold auP;rw[ha]
 have h2:auP nm (S.setAu i (some (B,w))) i=AucP (nm.aa i) (nm.ab i) B:=by unfold auP Hs.setAu;simp
 have h3:upA (auP nm (S.setAu i (some (B,w)))) i emp=upA (auP nm S) i emp:=by
  funext k
  unfold upA
  split
  ·rfl
  ·rename_i hne;unfold auP Hs.setAu;simp[hne]
 have h4:saleC nm (S.setAu i (some (B,w)))=saleC nm S:=by
  unfold saleC
  rw[eG]
  congr 1
  funext k
  have hp:∀j,saleP nm (S.setAu i (some (B,w))) j=saleP nm S j:=λj=>by
   unfold saleP Hs.setAu
   simp only
   by_cases hj:j=i
   ·subst hj;rw[if_pos rfl,ha]
   ·rw[if_neg hj]
  have hw:∀j,saleW (S.setAu i (some (B,w))) j=saleW S j:=λj=>by
   unfold saleW Hs.setAu
   simp only
   by_cases hj:j=i
   ·subst hj;rw[if_pos rfl,ha]
   ·rw[if_neg hj]
  rw[hp,hw]
 have h5:saO nm (S.setAu i (some (B,w)))=saO nm S:=by unfold saO;rw[h4]
 have h6:bkP nm (S.setAu i (some (B,w)))=bkP nm S:=rfl
 have h7:hsO nm (S.setAu i (some (B,w)))=hsO nm S:=rfl
 rw[h1]at H
 rw[h2,h3,h5,h6,h7]
 exact auc_put H
end
end Go.Pw
set_option linter.unusedSimpArgs false
set_option linter.unusedVariables false
namespace Go.Pw
open Go Go.Proofs
def holdH (L:Led) (i:Nat) (n:Int):Led:=if 0<n then (holdL L i n).2 else if n<0 then (freeL L i (-n)).2 else L
def lockH (L:Led) (i:Nat) (g n:Int):Led:=if 0<n then (lockL L i g n).2 else if n<0 then (unlockL L i g (-n)).2 else L
def tradeH (L:Led) (s b:Nat) (g p n:Int):Led:=if 0<n then (if 0<p then (moveL (handL L s b g n).2 b s (p*n)).2 else (handL L s b g n).2)else L
theorem inv_holdH {L:Led} (h:Inv L) {i:Nat} (hi:i<L.n) (n:Int):Inv (holdH L i n):=by
 unfold holdH
 split
 ·exact inv_hold h hi
 ·split
  ·exact inv_free h hi
  ·exact h
theorem inv_lockH {L:Led} (h:Inv L) {i:Nat} (hi:i<L.n) (g n:Int):Inv (lockH L i g n):=by
 unfold lockH
 split
 ·exact inv_lock h hi
 ·split
  ·exact inv_unlock h hi
  ·exact h
theorem holdH_gn (L:Led) (i:Nat) (n:Int):(holdH L i n).goods=L.goods/\(holdH L i n).n=L.n:=by
 unfold holdH holdL freeL
 repeat' split
 all_goals exact⟨rfl,rfl⟩
theorem lockH_gn (L:Led) (i:Nat) (g n:Int):(lockH L i g n).goods=L.goods/\(lockH L i g n).n=L.n:=by
 unfold lockH lockL unlockL
 repeat' split
 all_goals exact⟨rfl,rfl⟩
structure LX (h:PH) (x l lb:Nat) (L:Led):Prop where
 hx:∃c,h x=some (.cells c 85 (0,0))/\c[0]?=some (ptr l)
 hl:LedAt h l lb L
section
variable {h g:PH} {R:AEnd->PH->Prop} {x l lb:Nat} {L L':Led} {i:Nat} {n:Int}
theorem LX.ne (H:LX h x l lb L):x≠lb:=λe=>by
 obtain⟨c,h1,_⟩:=H.hx
 rw[e,H.hl.hb]at h1
 injection h1 with h2
 injection h2 with _ h3
 exact absurd h3 (by decide)
theorem LX.put (H:LX h x l lb L) (hg:L'.goods=L.goods) (hn:L'.n=L.n):LX (putLed h lb L') x l lb L':=
 ⟨by obtain⟨c,h1,h2⟩:=H.hx;exact⟨c,by unfold putLed;rw[ins_ne _ _ H.ne];exact h1,h2⟩,H.hl.put hg hn⟩
theorem LX.ld (H:LX h x l lb L) {K:Value->Prop}:vLoad none (.pointer (some ⟨x,0,none⟩)) h K↔K (ptr l):=by
 obtain⟨c,h1,h2⟩:=H.hx
 exact vLoad_1 h1 h2
theorem HF.lx {nm:Nm} {S:Hs} (H:HF h x nm S):LX h x nm.l nm.lb S.L:=⟨⟨_,H.hx,rfl⟩,H.hl⟩
theorem h_hold (H:LX h x l lb L) (hv:Inv L) (hi:i<L.n) (hb:-4611686018427387904<=n/\n<=4611686018427387904) (hR:R (.ret (.tuple #[])) (putLed h lb (holdH L i n))):ACalls Tryz.prog 113 #[ptr x,.int .i64 i,.int .i64 n] h R:=by
 refine call113 ?_
 unfold sh113
 unfold holdH at hR
 by_cases h1:0<n
 ·have h2:¬n<0:=by omega
  rw[if_pos h1]at hR
  simp[h1,H.ld]
  refine hold_ok H.hl hv.small hi ?_
  simp[AEnd.elim,h2]
  exact λ_=>hR
 ·rw[if_neg h1]at hR
  by_cases h2:n<0
  ·rw[if_pos h2]at hR
   simp[h1,h2,H.ld]
   rw[w64 (by omega) (by omega)]
   refine free_ok H.hl hv.small hi ?_
   simp only[AEnd.elim]
   exact hR
  ·rw[if_neg h2,putLed_self H.hl]at hR
   simp[h1,h2]
   exact hR
theorem h_lock {g:Int} (H:LX h x l lb L) (hv:Inv L) (hi:i<L.n) (hb:-4611686018427387904<=n/\n<=4611686018427387904) (hR:R (.ret (.tuple #[])) (putLed h lb (lockH L i g n))):ACalls Tryz.prog 117 #[ptr x,.int .i64 i,.int .i64 g,.int .i64 n] h R:=by
 refine call117 ?_
 unfold sh117
 unfold lockH at hR
 by_cases h1:0<n
 ·have h2:¬n<0:=by omega
  rw[if_pos h1]at hR
  simp[h1,H.ld]
  refine lock_ok H.hl hv.small hi ?_
  simp[AEnd.elim,h2]
  exact λ_=>hR
 ·rw[if_neg h1]at hR
  by_cases h2:n<0
  ·rw[if_pos h2]at hR
   simp[h1,h2,H.ld]
   rw[w64 (by omega) (by omega)]
   refine unlock_ok H.hl hv.small hi ?_
   simp only[AEnd.elim]
   exact hR
  ·rw[if_neg h2,putLed_self H.hl]at hR
   simp[h1,h2]
   exact hR
theorem h_free (H:LX h x l lb L) (hv:Inv L) (hi:i<L.n) (hR:R (.ret (.int .i64 (L.f i 0-L.f i 1))) h):ACalls Tryz.prog 111 #[ptr x,.int .i64 i] h R:=by
 refine ACalls.drop (call111 ?_)
 unfold sh111
 simp only[vNil_p,vFA_p,Nat.zero_add,H.ld]
 refine acct_ok H.hl hi ?_
 simp only[AEnd.elim,vExt_20,vExt_21]
 refine vNew_gen λc G hc hs hcc=>?_
 refine vStore_to hcc (by rfl) (by rfl) (by rfl) ?_
 have hq:=ins_eq G c (.cells (acctCells L i) 61 (0,0))
 simp only[vFA_p,Nat.zero_add]
 rw[vLoad_1 hq (show (acctCells L i)[0]?=some (.int .i64 (L.f i 0))from rfl),vLoad_1 hq (show (acctCells L i)[1]?=some (.int .i64 (L.f i 1))from rfl),vBin_sub]
 have b0:=hv.small.num i 0 hi (by omega)
 have b1:=hv.small.num i 1 hi (by omega)
 rw[w64 (by omega) (by omega)]
 exact⟨h,Sub.put hs hc,hR⟩
theorem h_trade {s b:Nat} {gd p n:Int} (H:LX h x l lb L) (hv:Inv L) (hs:s<L.n) (hb:b<L.n) (hp:0<=p/\p<=1099511627776) (hn:n<=1048576) (hR:R (.ret (.tuple #[])) (putLed h lb (tradeH L s b gd p n))) :
  ACalls Tryz.prog 146 #[ptr x,.int .i64 s,.int .i64 b,.int .i64 gd,.int .i64 p,.int .i64 n] h R:=by
 refine call146 ?_
 unfold sh146
 unfold tradeH at hR
 by_cases h1:0<n
 ·rw[if_pos h1]at hR
  simp[h1,H.ld]
  refine hand_ok H.hl hv.small hs hb ?_
  have hgn:(handL L s b gd n).2.goods=L.goods/\(handL L s b gd n).2.n=L.n:=by
   unfold handL handTo
   repeat' split
   all_goals exact⟨rfl,rfl⟩
  have hv2:Inv (handL L s b gd n).2:=inv_hand hv hs hb
  have H2:=H.put hgn.1 hgn.2
  by_cases h2:0<p
  ·rw[if_pos h2]at hR
   simp[AEnd.elim,h2,H2.ld]
   have h3:0<=p*n:=Int.mul_nonneg hp.1 (by omega)
   have h4:p*n<=1099511627776*1048576:=Int.mul_le_mul hp.2 hn (by omega) (by omega)
   rw[w64 (by omega) (by omega)]
   refine⟨?_,λh0=>absurd h0 (by omega)⟩
   refine move_ok H2.hl hv2.small (by rw[hgn.2];exact hb) (by rw[hgn.2];exact hs) ?_
   simp only[AEnd.elim]
   rw[putLed_put]
   exact hR
  ·rw[if_neg h2]at hR
   simp[AEnd.elim,h2]
   exact λ_=>hR
 ·rw[if_neg h1,putLed_self H.hl]at hR
  simp[h1]
  exact hR
end
end Go.Pw
set_option linter.unusedSimpArgs false
set_option linter.unusedVariables false
namespace Go.Pw
open Go Go.Proofs
structure OpV.ok (o:OpV):Prop where
 kind:0<=o.kind/\o.kind<=9007199254740992
 good:0<=o.good/\o.good<=9007199254740992
 am:0<=o.am/\o.am<=9007199254740992
 side:0<=o.side/\o.side<=9007199254740992
 id:0<=o.id/\o.id<=9007199254740992
 price:o.price<18446744073709551616
theorem ofOpO_ok (s:ByteArray):(ofOpO s).1.ok:=by
 have:=ofOpO_bd s
 exact⟨by omega,by omega,by omega,by omega,by omega,by omega⟩
structure Tm where
 p:Int
 id:Int
 e:Int
def termsH (S:Hs) (who:Nat) (o:OpV):Tm:=
 if S.L.goods<=o.good\/1<o.side\/1048576<o.id\/o.am<1\/1048576<o.am then ⟨0,0,1⟩else ⟨(ticksO o.price).1,o.id*16+who,(ticksO o.price).2⟩
theorem termsH_ok {S:Hs} {who:Nat} {o:OpV} (h:(termsH S who o).e=0):o.good<S.L.goods/\o.side<=1/\o.id<=1048576/\1<=o.am/\o.am<=1048576/\0<=(termsH S who o).p/\(termsH S who o).p<=1099511627776/\(termsH S who o).id=o.id*16+who:=by
 unfold termsH at h ⊢
 split at h
 ·cases h
 ·rename_i hc
  rw[if_neg hc]
  have:=ticksO_bd h
  exact⟨by omega,by omega,by omega,by omega,by omega,this.1,this.2,rfl⟩
def coverC (buys:Bool) (p am:Int):Int:=if buys then p*am else 0
def coverG (buys:Bool) (p am:Int):Int:=if buys then 0 else am
def coverE (L:Led) (who:Nat) (good:Int) (buys:Bool) (p am:Int):Int:=
 if L.f who 0-L.f who 1<coverC buys p am\/L.f who (2+good.toNat)-L.f who (6+good.toNat)<coverG buys p am then 61 else 0
section
variable {h g:PH} {R:AEnd->PH->Prop} {x l lb:Nat} {L:Led} {nm:Nm} {S:Hs} {who:Nat} {o:OpV}
theorem h_terms (hx:h x=some (hsO nm S)) (ho:o.ok) (hw:who<16) (hR:R (.ret (.tuple #[.int .i64 (termsH S who o).p,.int .i64 (termsH S who o).id,.int .i64 (termsH S who o).e])) h) :
  ACalls Tryz.prog 114 #[ptr x,.int .i64 who,o.v] h R:=by
 refine ACalls.drop (call114 ?_)
 unfold sh114
 rw[show Value.cells o.v=o.a from rfl]
 refine vNew_gen λc G hc hs hcc=>?_
 have l1:=λK=>vLoad_1 (K:=K) hcc (show o.a[1]?=some (.int .i64 o.good)from rfl)
 have l2:=λK=>vLoad_1 (K:=K) hcc (show o.a[2]?=some (.int .i64 o.am)from rfl)
 have l3:=λK=>vLoad_1 (K:=K) hcc (show o.a[3]?=some (.int .i64 o.side)from rfl)
 have l4:=λK=>vLoad_1 (K:=K) hcc (show o.a[4]?=some (.int .i64 o.id)from rfl)
 have l5:=λK=>vLoad_1 (K:=K) hcc (show o.a[5]?=some (.float .f64 o.price)from rfl)
 have lx:=λK=>vLoad_1 (K:=K) (hs _ _ hx) (show (hsHd nm S)[2]?=some (.int .i64 S.L.goods)from rfl)
 have fin:∀{t:Tm},termsH S who o=t->∃g,Sub g G/\R (.ret (.tuple #[.int .i64 t.p,.int .i64 t.id,.int .i64 t.e])) g:=λe=>⟨h,hs,by rw[<-e];exact hR⟩
 by_cases c1:S.L.goods<=o.good
 ·simp[l1,lx,c1]
  exact fin (by unfold termsH;rw[if_pos (.inl c1)])
 by_cases c2:1<o.side
 ·simp[l1,lx,c1,l3,c2]
  exact fin (by unfold termsH;rw[if_pos (.inr (.inl c2))])
 by_cases c3:1048576<o.id
 ·simp[l1,lx,c1,l3,c2,l4,c3]
  exact fin (by unfold termsH;rw[if_pos (.inr (.inr (.inl c3)))])
 by_cases c4:o.am<1
 ·simp[l1,lx,c1,l3,c2,l4,c3,l2,c4]
  exact fin (by unfold termsH;rw[if_pos (.inr (.inr (.inr (.inl c4))))])
 by_cases c5:1048576<o.am
 ·simp[l1,lx,c1,l3,c2,l4,c3,l2,c4,c5]
  exact fin (by unfold termsH;rw[if_pos (.inr (.inr (.inr (.inr c5))))])
 simp[l1,lx,c1,l3,c2,l4,c3,l2,c4,c5,l5]
 refine ticks_ok ho.price ?_
 have:=ho.id
 simp[AEnd.elim,l4]
 rw[w64 (x:=o.id*16) (by omega) (by omega),w64 (by omega) (by omega)]
 exact fin (t:=⟨(ticksO o.price).1,o.id*16+who,(ticksO o.price).2⟩) (by unfold termsH;rw[if_neg (by omega)])
theorem acct_good (L:Led) (i:Nat) {m:Nat} (hm:m<4):(acctCells L i)[2+m]?=some (.int .i64 (L.f i (2+m))):=match m,hm with
 | 0,_=>rfl
 | 1,_=>rfl
 | 2,_=>rfl
 | 3,_=>rfl
theorem acct_lock (L:Led) (i:Nat) {m:Nat} (hm:m<4):(acctCells L i)[6+m]?=some (.int .i64 (L.f i (6+m))):=match m,hm with
 | 0,_=>rfl
 | 1,_=>rfl
 | 2,_=>rfl
 | 3,_=>rfl
theorem h_cover {good:Nat} {buys:Bool} {p am:Int} (H:LX h x l lb L) (hv:Inv L) (hi:who<L.n) (hg:good<4) (hp:0<=p/\p<=1099511627776) (ha:0<=am/\am<=1048576)
  (hR:R (.ret (.tuple #[.int .i64 (coverC buys p am),.int .i64 (coverG buys p am),.int .i64 (coverE L who good buys p am)])) h) :
  ACalls Tryz.prog 115 #[ptr x,.int .i64 who,.int .i64 good,.bool buys,.int .i64 p,.int .i64 am] h R:=by
 refine ACalls.drop (call115 ?_)
 unfold sh115
 simp only[vNil_p,vFA_p,Nat.zero_add,H.ld]
 refine acct_ok H.hl hi ?_
 simp only[AEnd.elim,vExt_20,vExt_21]
 refine vNew_i λc hc=>?_
 refine vStore_to (cs:=acctCells L who) (ins_eq _ _ _) (by rfl) (by rfl) (by rfl) ?_
 rw[ins_ins]
 have hs:Sub h (ins h c (.cells (acctCells L who) 61 (0,0))):=sub_ins _ hc
 have hcc:ins h c (.cells (acctCells L who) 61 (0,0)) c=some (.cells (acctCells L who) 61 (0,0)):=ins_eq _ _ _
 revert hs hcc
 generalize ins h c (.cells (acctCells L who) 61 (0,0))=G
 intro hs hcc
 have a0:=λK=>vLoad_1 (K:=K) hcc (show (acctCells L who)[0]?=some (.int .i64 (L.f who 0))from rfl)
 have a1:=λK=>vLoad_1 (K:=K) hcc (show (acctCells L who)[1]?=some (.int .i64 (L.f who 1))from rfl)
 have ag:=λK=>vLoad_1 (K:=K) hcc (acct_good L who hg)
 have al:=λK=>vLoad_1 (K:=K) hcc (acct_lock L who hg)
 have b0:=hv.small.num who 0 hi (by omega)
 have b1:=hv.small.num who 1 hi (by omega)
 have b2:=hv.small.num who (2+good) hi (by omega)
 have b3:=hv.small.num who (6+good) hi (by omega)
 have hw1:IntKind.i64.wrap (L.f who 0-L.f who 1)=L.f who 0-L.f who 1:=w64 (by omega) (by omega)
 have hw2:IntKind.i64.wrap (L.f who (2+good)-L.f who (6+good))=L.f who (2+good)-L.f who (6+good):=w64 (by omega) (by omega)
 have hpa:0<=p*am:=Int.mul_nonneg hp.1 ha.1
 have hpb:p*am<=1099511627776*1048576:=Int.mul_le_mul hp.2 ha.2 ha.1 (by omega)
 have hw3:IntKind.i64.wrap (p*am)=p*am:=w64 (by omega) (by omega)
 have hg':(good:Int)<4:=by omega
 have fin:∀e,coverE L who good buys p am=e->∃g,Sub g G/\R (.ret (.tuple #[.int .i64 (coverC buys p am),.int .i64 (coverG buys p am),.int .i64 e])) g:=λe he=>⟨h,hs,by rw[<-he];exact hR⟩
 cases buys with
 | true=>
  unfold coverE coverC coverG at fin
  simp only[if_true,Int.toNat_natCast]at fin
  by_cases c1:L.f who 0-L.f who 1<p*am
  ·simp[hw3,a0,a1,hw1,c1]
   exact fin 61 (by rw[if_pos (.inl c1)])
  ·by_cases c2:L.f who (2+good)-L.f who (6+good)<0
   ·simp[hw3,a0,a1,hw1,c1,hg,ag,al,hw2,c2]
    exact⟨hg',fin 61 (by rw[if_pos (.inr c2)])⟩
   ·simp[hw3,a0,a1,hw1,c1,hg,ag,al,hw2,c2]
    exact⟨hg',fin 0 (by rw[if_neg (by omega)])⟩
 | false=>
  unfold coverE coverC coverG at fin
  simp only[Bool.false_eq_true,if_false,Int.toNat_natCast]at fin
  by_cases c1:L.f who 0-L.f who 1<0
  ·simp[a0,a1,hw1,c1]
   exact fin 61 (by rw[if_pos (.inl c1)])
  ·by_cases c2:L.f who (2+good)-L.f who (6+good)<am
   ·simp[a0,a1,hw1,c1,hg,ag,al,hw2,c2]
    exact⟨hg',fin 61 (by rw[if_pos (.inr c2)])⟩
   ·simp[a0,a1,hw1,c1,hg,ag,al,hw2,c2]
    exact⟨hg',fin 0 (by rw[if_neg (by omega)])⟩
def needA (A:Auc) (who:Int):Int:=max ((wantsA A who).1*A.last) ((wantsA A who).2*A.price)
theorem wantsA_bd {A:Auc} (hk:A.ok) (who:Int):0<=(wantsA A who).1/\(wantsA A who).1<=1048576/\0<=(wantsA A who).2/\(wantsA A who).2<=1048576:=by
 unfold wantsA
 split
 ·simp
 ·have h1:=hk.was who.toNat (by omega)
  have h2:=hk.now who.toNat (by omega)
  simp only
  omega
theorem last_bd {A:Auc} (hk:A.ok):0<=A.last/\A.last<=1099511627776:=by
 have h1:=hk.priceB
 have h2:=hk.sta
 have h3:=hk.stp
 have h4:=hk.rnd
 unfold Auc.last
 split
 ·omega
 ·rename_i hr
  have:A.stp<=(A.rnd-1)*A.stp:=by
   have:1*A.stp<=(A.rnd-1)*A.stp:=Int.mul_le_mul_of_nonneg_right (by omega) (by omega)
   omega
  unfold Auc.price at *
  omega
theorem mul_bd {a b A B:Int} (ha:0<=a/\a<=A) (hb:0<=b/\b<=B):0<=a*b/\a*b<=A*B:=⟨Int.mul_nonneg ha.1 hb.1,Int.mul_le_mul ha.2 hb.2 hb.1 (by omega)⟩
theorem needA_bd {A:Auc} (hk:A.ok) (who:Int):0<=needA A who/\needA A who<=1152921504606846976:=by
 have h1:=wantsA_bd hk who
 have h2:=mul_bd (B:=1099511627776) ⟨h1.1,h1.2.1⟩ (last_bd hk)
 have h3:=mul_bd (B:=1099511627776) ⟨h1.2.2.1,h1.2.2.2⟩ hk.priceB
 unfold needA
 omega
theorem h_need {a bb:Nat} {A:Auc} {w who:Int} (hA:AucAt h a bb A) (hk:A.ok) (hR:R (.ret (.int .i64 (needA A who))) h):ACalls Tryz.prog 102 #[.agg #[ptr a,.int .i64 w],.int .i64 who] h R:=by
 refine ACalls.drop (call102 ?_)
 unfold sh102
 rw[show Value.cells (.agg #[ptr a,.int .i64 w])=#[ptr a,.int .i64 w]from rfl]
 refine vNew_gen λc G hc hs hcc=>?_
 have l0:=λK=>vLoad_1 (K:=K) hcc (show (#[ptr a,.int .i64 w]:Array Value)[0]?=some (ptr a)from rfl)
 have hA':=hA.sub hs
 simp only[vFA_p,Nat.zero_add,l0]
 refine clock_wants hA' ?_
 simp only[AEnd.elim,vExt_20,vExt_21,l0]
 refine clock_last hA' hk ?_
 simp only[AEnd.elim,l0,true_and,vBin_mul]
 have h1:=wantsA_bd hk who
 have h2:=mul_bd (B:=1099511627776) ⟨h1.1,h1.2.1⟩ (last_bd hk)
 have h3:=mul_bd (B:=1099511627776) ⟨h1.2.2.1,h1.2.2.2⟩ hk.priceB
 rw[w64 (by omega) (by omega)]
 refine clock_price hA' hk ?_
 simp only[AEnd.elim,vBin_mul]
 rw[w64 (by omega) (by omega),vMinMax_i]
 simp only[if_true]
 have e:(if (wantsA A who).2*A.price>(wantsA A who).1*A.last then (wantsA A who).2*A.price else (wantsA A who).1*A.last)=needA A who:=by
  unfold needA;split <;> omega
 rw[e]
 exact⟨h,hs,hR⟩
end
end Go.Pw
set_option linter.unusedSimpArgs false
set_option linter.unusedVariables false
namespace Go.Pw
open Go Go.Proofs
structure Hs.ok (S:Hs):Prop where
 led:Inv S.L
 n1:1<=S.L.n
 bk:∀i,i<S.G->(S.bk i).ok
 own:∀i,i<S.G->∀o∈(S.bk i).l,o.own<S.L.n
 au:∀i A w,i<S.G->S.au i=some (A,w)->A.ok/\A.ste=0/\A.n=S.L.n/\0<=w/\w<S.L.n
 now:0<=S.now/\S.now<=9007199254740992
theorem Hs.ok.g {S:Hs} (h:S.ok):S.L.goods=S.G/\1<=S.G/\S.G<=4:=by
 have h1:=h.led.g0
 have h2:=h.led.gd
 unfold Hs.G
 omega
theorem Hs.ok.cl {S:Hs} (h:S.ok):S.L.n<=16:=h.led.cl
theorem setBk_self (S:Hs) (i:Nat):S.setBk i (S.bk i)=S:=by
 have:(λk=>if k=i then S.bk i else S.bk k)=S.bk:=by
  funext k;split
  ·rename_i e;rw[e]
  ·rfl
 unfold Hs.setBk;rw[this]
def ordOfOp (t:Tm) (who:Nat) (o:OpV):Ord:={id:=t.id,own:=who,pr:=t.p,am:=o.am,pl:=0,buys:=decide (o.side=0)}
def putH (S:Hs) (who:Nat) (o:OpV):Int×Hs:=
 let t:=termsH S who o
 if t.e≠0 then (t.e,S)else
 let ce:=coverE S.L who o.good (decide (o.side=0)) t.p o.am
 if ce≠0 then (ce,S)else
 let r:=putO (S.bk o.good.toNat) (ordOfOp t who o)
 if r.1≠0 then (r.1,S)else
 (0,(S.setBk o.good.toNat r.2).setL (lockH (holdH S.L who (coverC (decide (o.side=0)) t.p o.am)) who o.good (coverG (decide (o.side=0)) t.p o.am)))
theorem putO_err {B:Bk} {o:Ord} (h:(putO B o).1≠0):(putO B o).2=B:=by
 unfold putO at h ⊢
 repeat' split
 all_goals first | rfl | (simp_all)
section
variable {h g:PH} {R:AEnd->PH->Prop} {x:Nat} {nm:Nm} {S:Hs} {who:Nat} {o:OpV}
theorem build_ord (o:Ord) (hpl:o.pl=0):Instr.fill (λi=>[(0,1),(1,1),(2,1),(3,1),(4,1),(5,1)][i]?) #[Value.int .i64 0,.int .i64 0,.int .i64 0,.int .i64 0,.int .i64 0,.bool false] [(0,.int .i64 o.id),(1,.int .i64 o.own),(2,.int .i64 o.pr),(3,.int .i64 o.am),(5,.bool o.buys)]=some o.a:=by
 simp[Instr.fill,Value.cells,Ord.a,hpl]
theorem HF.book {K:Value->Prop} (F:HF h x nm S) (hn:nm.ok S) {i:Nat} (hi:i<S.G) (hk:K (ptr (nm.ba i))):vLoad none (.pointer (some ⟨x,4,none⟩)) h λs=>vIxS 1 s (.int .i64 i) λt=>vLoad none t h K:=by
 rw[vLoad_1 F.hx (show (hsHd nm S)[4]?=some (.slice (some ⟨nm.bs,0,none⟩) S.G nm.bcap)from rfl),vIxS_p]
 refine⟨by omega,by omega,?_⟩
 rw[vLoad_1 F.hb (v:=ptr (nm.ba i)) (by simpa using hn.cb i hi)]
 exact hk
theorem h_put (H:HsN x nm S h) (hn:nm.ok S) (hk:S.ok) (hw:who<S.L.n) (ho:o.ok) (hR:∀g,HsN x nm (putH S who o).2 g->R (.ret (.tuple #[.int .i64 0,.int .i64 (putH S who o).1])) g) :
  ACalls Tryz.prog 74 #[ptr x,.int .i64 who,o.v] h R:=by
 refine call74 ?_
 unfold sh74
 rw[show Value.cells o.v=o.a from rfl]
 have hcl:=hk.cl
 have hg:=hk.g
 refine vNew_i λc hc=>?_
 have Hc:=pt_new (o:=.cells o.a 25 (0,0)) hc H
 have Hc2:(HsN x nm S•pt c (.cells o.a 25 (0,0))) (ins h c (.cells o.a 25 (0,0))):=sep_c Hc
 revert Hc2
 generalize ins h c (.cells o.a 25 (0,0))=G
 intro Hc2
 clear Hc
 have hcc:G c=some (.cells o.a 25 (0,0)):=pt_get (sep_c Hc2)
 have HG:=sep_l HsN.mono Hc2
 have F:=HG.f
 have ld6:∀K,vLoad (some 6) (.pointer (some ⟨c,0,none⟩)) G K↔K o.v:=λK=>by
  rw[vLoad_n hcc (off:=0) (n:=6) (by show 0+6<=6;omega),show o.a.extract 0 (0+6)=o.a from rfl]
 have l1:=λK=>vLoad_1 (K:=K) hcc (show o.a[1]?=some (.int .i64 o.good)from rfl)
 have l2:=λK=>vLoad_1 (K:=K) hcc (show o.a[2]?=some (.int .i64 o.am)from rfl)
 have l3:=λK=>vLoad_1 (K:=K) hcc (show o.a[3]?=some (.int .i64 o.side)from rfl)
 rw[ld6]
 refine h_terms F.hx ho (by omega) ?_
 simp only[AEnd.elim,vExt_30,vExt_31,vExt_32,vBin_neq,dIf_b]
 unfold putH at hR
 simp only at hR
 have htm:=termsH_ok (S:=S) (who:=who) (o:=o)
 generalize termsH S who o=t at *
 by_cases ht:t.e=0
 ·rw[if_neg (by simp[ht])]at hR
  obtain⟨m1,m2,m3,m4,m5,m6,m7,m8⟩:=htm ht
  simp only[ht,decide_true,Bool.not_true]
  refine⟨λe=>absurd e (by simp),λ_=>?_⟩
  obtain⟨gd,hgd⟩:∃gd:Nat,o.good=gd:=⟨o.good.toNat,by have:=ho.good;omega⟩
  have hgG:gd<S.G:=by omega
  rw[hgd]at l1
  simp only[vFA_p,Nat.zero_add,l1,l2,l3,vBin_eql]
  refine h_cover (good:=gd) F.lx hk.led hw (by omega) ⟨m6,m7⟩ ⟨by omega,m5⟩ ?_
  simp only[AEnd.elim,vExt_30,vExt_31,vExt_32,vBin_neq,dIf_b]
  rw[hgd,Int.toNat_natCast]at hR
  generalize hce:coverE S.L who (gd:Int) (decide (o.side=0)) t.p o.am=ce at *
  by_cases hc0:ce=0
  ·rw[if_neg (by simp[hc0])]at hR
   simp only[hc0,decide_true,Bool.not_true]
   refine⟨λe=>absurd e (by simp),λ_=>?_⟩
   simp only[vNil_p,vFA_p,Nat.zero_add,l1,l2,l3,vBin_eql]
   refine F.book hn hgG ?_
   refine⟨_,build_ord (ordOfOp t who o) rfl,?_⟩
   obtain⟨C',hb1,hb2⟩:=HsN.book hgG Hc2
   have hbo:=hk.bk gd hgG
   refine bk_put (o:=ordOfOp t who o) hb1 hbo.len hbo.nx λg2 Hg2=>?_
   have H2:=hb2 _ _ _ Hg2
   simp only[AEnd.elim,vBin_neq,dIf_b]
   by_cases hr:(putO (S.bk gd) (ordOfOp t who o)).1=0
   ·rw[if_neg (by simp[hr])]at hR
    simp only[hr,decide_true,Bool.not_true]
    refine⟨λe=>absurd e (by simp),λ_=>?_⟩
    have F2:=(sep_l HsN.mono H2).f
    have LX2:LX g2 x nm.l nm.lb S.L:=F2.lx
    have hb:=mul_bd ⟨m6,m7⟩ (show 0<=o.am/\o.am<=1048576 from⟨by omega,m5⟩)
    have hcb:0<=coverC (decide (o.side=0)) t.p o.am/\coverC (decide (o.side=0)) t.p o.am<=1152921504606846976:=by unfold coverC;split <;> omega
    have hgb:0<=coverG (decide (o.side=0)) t.p o.am/\coverG (decide (o.side=0)) t.p o.am<=1048576:=by unfold coverG;split <;> omega
    refine h_hold LX2 hk.led hw (by omega) ?_
    simp only[AEnd.elim]
    have hgn:=holdH_gn S.L who (coverC (decide (o.side=0)) t.p o.am)
    have H3:=HsN.led (L':=holdH S.L who (coverC (decide (o.side=0)) t.p o.am)) H2 hgn.1 hgn.2
    have hcc3:=pt_get (sep_c H3)
    have LX3:=LX2.put hgn.1 hgn.2
    rw[vLoad_1 hcc3 (show o.a[1]?=some (.int .i64 gd)by rw[<-hgd];rfl)]
    refine h_lock LX3 (inv_holdH hk.led hw _) (by rw[hgn.2];exact hw) (by omega) ?_
    simp only[AEnd.elim]
    have hgn2:=lockH_gn (holdH S.L who (coverC (decide (o.side=0)) t.p o.am)) who gd (coverG (decide (o.side=0)) t.p o.am)
    have H4:=HsN.led (L':=lockH (holdH S.L who (coverC (decide (o.side=0)) t.p o.am)) who gd (coverG (decide (o.side=0)) t.p o.am)) H3 hgn2.1 hgn2.2
    exact hR _ (sep_l HsN.mono H4)
   ·rw[if_pos hr]at hR
    have h0:¬(putO (S.bk gd) (ordOfOp t who o)).1=(0:Int):=hr
    simp only[h0,decide_false,Bool.not_false]
    refine⟨λ_=>?_,λe=>absurd e (by simp)⟩
    rw[putO_err hr,setBk_self]at H2
    exact hR _ (sep_l HsN.mono H2)
  ·rw[if_pos hc0]at hR
   simp only[hc0,decide_false,Bool.not_false]
   exact⟨λ_=>hR _ HG,λe=>absurd e (by simp)⟩
 ·rw[if_pos ht]at hR
  simp only[ht,decide_false,Bool.not_false]
  exact⟨λ_=>hR _ HG,λe=>absurd e (by simp)⟩
end
end Go.Pw
set_option linter.unusedSimpArgs false
set_option linter.unusedVariables false
namespace Go.Pw
open Go Go.Proofs
def amCash (old:Ord) (p m:Int):Int:=if old.buys then p*m-old.pr*old.am else 0
def amGood (old:Ord) (m:Int):Int:=if old.buys then 0 else m-old.am
def amendH (S:Hs) (who:Nat) (o:OpV):Int×Hs:=
 let t:=termsH S who o
 if t.e≠0 then (t.e,S)else
 let r:=getO (S.bk o.good.toNat).l t.id
 if r.2=false then (3,S)else
 if S.L.f who 0-S.L.f who 1<amCash r.1 t.p o.am\/S.L.f who (2+o.good.toNat)-S.L.f who (6+o.good.toNat)<amGood r.1 o.am then (61,S)else
 let a:=amendO (S.bk o.good.toNat) t.id who t.p o.am
 if a.1≠0 then (a.1,S)else
 (0,(S.setBk o.good.toNat a.2).setL (lockH (holdH S.L who (amCash r.1 t.p o.am)) who o.good (amGood r.1 o.am)))
def cancelH (S:Hs) (who:Nat) (o:OpV):Int×Hs:=
 if S.L.goods<=o.good\/1048576<o.id then (1,S)else
 let r:=getO (S.bk o.good.toNat).l (o.id*16+who)
 if r.2=false then (3,S)else
 (0,(S.setBk o.good.toNat (cancelO (S.bk o.good.toNat) (o.id*16+who) who).2).setL (if r.1.buys then holdH S.L who (-r.1.pr*r.1.am)else lockH S.L who o.good (-r.1.am)))
theorem amendO_err {B:Bk} {id own p m:Int} (h:(amendO B id own p m).1≠0):(amendO B id own p m).2=B:=by
 unfold amendO at h ⊢
 split
 ·rfl
 ·rename_i k hk
  simp only[hk]at h
  split
  ·rfl
  ·rename_i o ho
   simp only[ho]at h
   repeat' split
   all_goals first | rfl | (exfalso;simp_all)
theorem getO_mem {l:List Ord} {id:Int} (h:(getO l id).2=true):(getO l id).1∈l:=by
 unfold getO at h ⊢
 split
 ·rename_i h1;simp only[h1]at h;cases h
 ·rename_i k h1
  simp only[h1]at h
  split
  ·rename_i o h2;exact List.mem_of_getElem? h2
  ·rename_i h2;simp only[h2]at h;cases h
section
variable {h g:PH} {R:AEnd->PH->Prop} {x:Nat} {nm:Nm} {S:Hs} {who:Nat} {o:OpV}
theorem h_amend (H:HsN x nm S h) (hn:nm.ok S) (hk:S.ok) (hw:who<S.L.n) (ho:o.ok) (hR:∀g,HsN x nm (amendH S who o).2 g->R (.ret (.tuple #[.int .i64 0,.int .i64 (amendH S who o).1])) g) :
  ACalls Tryz.prog 75 #[ptr x,.int .i64 who,o.v] h R:=by
 refine call75 ?_
 unfold sh75
 rw[show Value.cells o.v=o.a from rfl]
 have hcl:=hk.cl
 have hg:=hk.g
 refine vNew_i λc hc=>?_
 have Hc2:(HsN x nm S•pt c (.cells o.a 25 (0,0))) (ins h c (.cells o.a 25 (0,0))):=sep_c (pt_new (o:=.cells o.a 25 (0,0)) hc H)
 revert Hc2
 generalize ins h c (.cells o.a 25 (0,0))=G
 intro Hc2
 have hcc:G c=some (.cells o.a 25 (0,0)):=pt_get (sep_c Hc2)
 have HG:=sep_l HsN.mono Hc2
 have F:=HG.f
 have ld6:∀K,vLoad (some 6) (.pointer (some ⟨c,0,none⟩)) G K↔K o.v:=λK=>by
  rw[vLoad_n hcc (off:=0) (n:=6) (by show 0+6<=6;omega),show o.a.extract 0 (0+6)=o.a from rfl]
 have l1:=λK=>vLoad_1 (K:=K) hcc (show o.a[1]?=some (.int .i64 o.good)from rfl)
 rw[ld6]
 refine h_terms F.hx ho (by omega) ?_
 simp only[AEnd.elim,vExt_30,vExt_31,vExt_32,vBin_neq,dIf_b]
 unfold amendH at hR
 simp only at hR
 have htm:=termsH_ok (S:=S) (who:=who) (o:=o)
 generalize termsH S who o=t at *
 by_cases ht:t.e=0
 ·rw[if_neg (by simp[ht])]at hR
  obtain⟨m1,m2,m3,m4,m5,m6,m7,m8⟩:=htm ht
  simp only[ht,decide_true,Bool.not_true]
  refine⟨λe=>absurd e (by simp),λ_=>?_⟩
  obtain⟨gd,hgd⟩:∃gd:Nat,o.good=gd:=⟨o.good.toNat,by have:=ho.good;omega⟩
  have hgG:gd<S.G:=by omega
  have hg4:gd<4:=by omega
  rw[hgd]at l1
  rw[hgd,Int.toNat_natCast]at hR
  simp only[vNil_p,vFA_p,Nat.zero_add,l1]
  refine F.book hn hgG ?_
  have hbo:=hk.bk gd hgG
  refine bk_get_ok (F.bk gd hgG) hbo.len ?_
  simp only[AEnd.elim,vExt_20,vExt_21]
  have hmem:=getO_mem (l:=(S.bk gd).l) (id:=t.id)
  generalize hold:getO (S.bk gd).l t.id=r at *
  refine vNew_i λd hd=>?_
  refine vStore_to (cs:=r.1.a) (ins_eq _ _ _) (by rfl) (by rfl) (by cases r.1;rfl) ?_
  rw[ins_ins]
  have Hc3:(HsN x nm S•pt c (.cells o.a 25 (0,0))) (ins G d (.cells r.1.a 78 (0,0))):=sep_sub Hc2 (sub_ins _ hd)
  have hdd:ins G d (.cells r.1.a 78 (0,0)) d=some (.cells r.1.a 78 (0,0)):=ins_eq _ _ _
  revert Hc3 hdd
  generalize ins G d (.cells r.1.a 78 (0,0))=G3
  intro Hc3 hdd
  cases hfound:r.2 with
  | false=>
   rw[hfound]at hR
   simp only[if_true]at hR
   simp only[vUn_not,Bool.not_false,dIf_b]
   exact⟨λ_=>hR _ (sep_l HsN.mono Hc3),λe=>absurd e (by simp)⟩
  | true=>
   rw[hfound]at hR
   simp only[Bool.true_eq_false,if_false]at hR
   simp only[vUn_not,Bool.not_true,dIf_b]
   refine⟨λe=>absurd e (by simp),λ_=>?_⟩
   have hrO:=rightO_iff.1 (hbo.right r.1 (hmem hfound))
   generalize r.1=old at *
   have F3:=(sep_l HsN.mono Hc3).f
   simp only[vNil_p,vFA_p,Nat.zero_add,F3.lx.ld]
   refine acct_ok F3.hl hw ?_
   simp only[AEnd.elim,vExt_20,vExt_21]
   refine vNew_i λq hq=>?_
   refine vStore_to (cs:=acctCells S.L who) (ins_eq _ _ _) (by rfl) (by rfl) (by rfl) ?_
   rw[ins_ins]
   have hs4:Sub G3 (ins G3 q (.cells (acctCells S.L who) 61 (0,0))):=sub_ins _ hq
   have Hc4:=sep_sub Hc3 hs4
   have hdd4:=hs4 _ _ hdd
   have hqq:ins G3 q (.cells (acctCells S.L who) 61 (0,0)) q=some (.cells (acctCells S.L who) 61 (0,0)):=ins_eq _ _ _
   clear hs4
   revert Hc4 hdd4 hqq
   generalize ins G3 q (.cells (acctCells S.L who) 61 (0,0))=G4
   intro Hc4 hdd4 hqq
   have hcc4:G4 c=some (.cells o.a 25 (0,0)):=pt_get (sep_c Hc4)
   have k1:=λK=>vLoad_1 (K:=K) hcc4 (show o.a[1]?=some (.int .i64 gd)by rw[<-hgd];rfl)
   have k2:=λK=>vLoad_1 (K:=K) hcc4 (show o.a[2]?=some (.int .i64 o.am)from rfl)
   have d2:=λK=>vLoad_1 (K:=K) hdd4 (show old.a[2]?=some (.int .i64 old.pr)from rfl)
   have d3:=λK=>vLoad_1 (K:=K) hdd4 (show old.a[3]?=some (.int .i64 old.am)from rfl)
   have d5:=λK=>vLoad_1 (K:=K) hdd4 (show old.a[5]?=some (.bool old.buys)from rfl)
   have a0:=λK=>vLoad_1 (K:=K) hqq (show (acctCells S.L who)[0]?=some (.int .i64 (S.L.f who 0))from rfl)
   have a1:=λK=>vLoad_1 (K:=K) hqq (show (acctCells S.L who)[1]?=some (.int .i64 (S.L.f who 1))from rfl)
   have ag:=λK=>vLoad_1 (K:=K) hqq (acct_good S.L who hg4)
   have al:=λK=>vLoad_1 (K:=K) hqq (acct_lock S.L who hg4)
   have b0:=hk.led.small.num who 0 hw (by omega)
   have b1:=hk.led.small.num who 1 hw (by omega)
   have b2:=hk.led.small.num who (2+gd) hw (by omega)
   have b3:=hk.led.small.num who (6+gd) hw (by omega)
   have hw1:IntKind.i64.wrap (S.L.f who 0-S.L.f who 1)=S.L.f who 0-S.L.f who 1:=w64 (by omega) (by omega)
   have hw2:IntKind.i64.wrap (S.L.f who (2+gd)-S.L.f who (6+gd))=S.L.f who (2+gd)-S.L.f who (6+gd):=w64 (by omega) (by omega)
   have p1:=mul_bd ⟨m6,m7⟩ (show 0<=o.am/\o.am<=1048576 from⟨by omega,m5⟩)
   have p2:=mul_bd (a:=old.pr) (b:=old.am) (A:=1099511627776) (B:=1048576) ⟨by omega,by omega⟩ ⟨by omega,by omega⟩
   have hw3:IntKind.i64.wrap (t.p*o.am)=t.p*o.am:=w64 (by omega) (by omega)
   have hw4:IntKind.i64.wrap (old.pr*old.am)=old.pr*old.am:=w64 (by omega) (by omega)
   have hw5:IntKind.i64.wrap (t.p*o.am-old.pr*old.am)=t.p*o.am-old.pr*old.am:=w64 (by omega) (by omega)
   have hw6:IntKind.i64.wrap (o.am-old.am)=o.am-old.am:=w64 (by omega) (by omega)
   have hg':(gd:Int)<4:=by omega
   have HG4:=sep_l HsN.mono Hc4
   have F4:=HG4.f
   -- once it is covered
   have fin:∀cash goods:Int,cash=amCash old t.p o.am->goods=amGood old o.am->¬(S.L.f who 0-S.L.f who 1<cash\/S.L.f who (2+gd)-S.L.f who (6+gd)<goods) ->
     vLoad none (.pointer (some ⟨x,4,none⟩)) G4 λs=>vIxS 1 s (.int .i64 gd) λtt=>vLoad none tt G4 λt99=>
     vCall Tryz.prog 119 #[t99,.int .i64 t.id,.int .i64 who,.int .i64 t.p,.int .i64 o.am] G4 (λt105 h_22=>
     vBin Tryz.prog .neq 30 t105 (.int .i64 0) λt107=>
     dIf t107 (R (.ret (.tuple #[(.int .i64 0),t105])) h_22)
     (vCall Tryz.prog 113 #[ptr x,.int .i64 who,.int .i64 cash] h_22 (λt112 h_23=>
     vLoad none (.pointer (some ⟨c,1,none⟩)) h_23 λt116=>
     vCall Tryz.prog 117 #[ptr x,.int .i64 who,t116,.int .i64 goods] h_23 (λt118 h_24=>
     R (.ret (.tuple #[(.int .i64 0),(.int .i64 0)])) h_24)
     (λc h=>R (.pan c) h))
     (λc h=>R (.pan c) h)))
     (λc h=>R (.pan c) h):=λcash goods hcash hgoods hcov=>by
    rw[hcash,hgoods]at hcov
    rw[if_neg hcov]at hR
    refine F4.book hn hgG ?_
    obtain⟨C',hb1,hb2⟩:=HsN.book hgG Hc4
    refine bk_amend hb1 hbo.len hbo.nx λg2 Hg2=>?_
    have H2:=hb2 _ _ _ Hg2
    simp only[AEnd.elim,vBin_neq,dIf_b]
    by_cases hr:(amendO (S.bk gd) t.id who t.p o.am).1=0
    ·rw[if_neg (by simp[hr])]at hR
     simp only[hr,decide_true,Bool.not_true]
     refine⟨λe=>absurd e (by simp),λ_=>?_⟩
     have LX2:LX g2 x nm.l nm.lb S.L:=((sep_l HsN.mono H2).f).lx
     have hcb:-1152921504606846976<=cash/\cash<=1152921504606846976:=by rw[hcash];unfold amCash;split <;> omega
     have hgb:-1048576<=goods/\goods<=1048576:=by rw[hgoods];unfold amGood;split <;> omega
     refine h_hold LX2 hk.led hw (by omega) ?_
     simp only[AEnd.elim]
     have hgn:=holdH_gn S.L who cash
     have H3:=HsN.led (L':=holdH S.L who cash) H2 hgn.1 hgn.2
     have hcc3:=pt_get (sep_c H3)
     have LX3:=LX2.put hgn.1 hgn.2
     rw[vLoad_1 hcc3 (show o.a[1]?=some (.int .i64 gd)by rw[<-hgd];rfl)]
     refine h_lock LX3 (inv_holdH hk.led hw _) (by rw[hgn.2];exact hw) (by omega) ?_
     simp only[AEnd.elim]
     have hgn2:=lockH_gn (holdH S.L who cash) who gd goods
     have H4:=HsN.led (L':=lockH (holdH S.L who cash) who gd goods) H3 hgn2.1 hgn2.2
     rw[hcash,hgoods]at H4 ⊢
     exact hR _ (sep_l HsN.mono H4)
    ·rw[if_pos hr]at hR
     simp only[hr,decide_false,Bool.not_false]
     refine⟨λ_=>?_,λe=>absurd e (by simp)⟩
     rw[amendO_err hr,setBk_self]at H2
     exact hR _ (sep_l HsN.mono H2)
   have poor:(S.L.f who 0-S.L.f who 1<amCash old t.p o.am\/S.L.f who (2+gd)-S.L.f who (6+gd)<amGood old o.am)->R (.ret (.tuple #[.int .i64 0,.int .i64 61])) G4:=λhp=>by
    rw[if_pos hp]at hR
    exact hR _ HG4
   cases hb:old.buys with
   | true=>
    have ec:amCash old t.p o.am=t.p*o.am-old.pr*old.am:=by unfold amCash;rw[hb];rfl
    have eg:amGood old o.am=0:=by unfold amGood;rw[hb];rfl
    rw[ec,eg]at poor
    rw[ec,eg]at fin
    by_cases c1:S.L.f who 0-S.L.f who 1<t.p*o.am-old.pr*old.am
    ·simp[k2,hw3,d2,d3,hw4,hw5,d5,hb,a0,a1,hw1,c1,hw6]
     exact poor (.inl c1)
    ·by_cases c2:S.L.f who (2+gd)-S.L.f who (6+gd)<0
     ·simp[k2,hw3,d2,d3,hw4,hw5,d5,hb,a0,a1,hw1,c1,hw6,k1,hg4,ag,al,hw2,c2]
      exact⟨hg',poor (.inr c2)⟩
     ·have:=fin _ _ rfl rfl (by omega)
      simp[k2,hw3,d2,d3,hw4,hw5,d5,hb,a0,a1,hw1,c1,hw6,k1,hg4,ag,al,hw2,c2]
      exact⟨hg',by simpa using this⟩
   | false=>
    have ec:amCash old t.p o.am=0:=by unfold amCash;rw[hb];rfl
    have eg:amGood old o.am=o.am-old.am:=by unfold amGood;rw[hb];rfl
    rw[ec,eg]at poor
    rw[ec,eg]at fin
    by_cases c1:S.L.f who 0-S.L.f who 1<0
    ·simp[k2,hw3,d2,d3,hw4,hw5,d5,hb,a0,a1,hw1,c1,hw6]
     exact poor (.inl c1)
    ·by_cases c2:S.L.f who (2+gd)-S.L.f who (6+gd)<o.am-old.am
     ·simp[k2,hw3,d2,d3,hw4,hw5,d5,hb,a0,a1,hw1,c1,hw6,k1,hg4,ag,al,hw2,c2]
      exact⟨hg',poor (.inr c2)⟩
     ·have:=fin _ _ rfl rfl (by omega)
      simp[k2,hw3,d2,d3,hw4,hw5,d5,hb,a0,a1,hw1,c1,hw6,k1,hg4,ag,al,hw2,c2]
      exact⟨hg',by simpa using this⟩
 ·rw[if_pos ht]at hR
  simp only[ht,decide_false,Bool.not_false]
  exact⟨λ_=>hR _ HG,λe=>absurd e (by simp)⟩
end
end Go.Pw
set_option linter.unusedSimpArgs false
set_option linter.unusedVariables false
namespace Go.Pw
open Go Go.Proofs
section
variable {h g:PH} {R:AEnd->PH->Prop} {x:Nat} {nm:Nm} {S:Hs} {who:Nat} {o:OpV}
theorem h_cancel (H:HsN x nm S h) (hn:nm.ok S) (hk:S.ok) (hw:who<S.L.n) (ho:o.ok) (hR:∀g,HsN x nm (cancelH S who o).2 g->R (.ret (.tuple #[.int .i64 0,.int .i64 (cancelH S who o).1])) g) :
  ACalls Tryz.prog 76 #[ptr x,.int .i64 who,o.v] h R:=by
 refine call76 ?_
 unfold sh76
 rw[show Value.cells o.v=o.a from rfl]
 have hcl:=hk.cl
 have hg:=hk.g
 refine vNew_i λc hc=>?_
 have Hc2:(HsN x nm S•pt c (.cells o.a 25 (0,0))) (ins h c (.cells o.a 25 (0,0))):=sep_c (pt_new (o:=.cells o.a 25 (0,0)) hc H)
 revert Hc2
 generalize ins h c (.cells o.a 25 (0,0))=G
 intro Hc2
 have hcc:G c=some (.cells o.a 25 (0,0)):=pt_get (sep_c Hc2)
 have HG:=sep_l HsN.mono Hc2
 have F:=HG.f
 have l1:=λK=>vLoad_1 (K:=K) hcc (show o.a[1]?=some (.int .i64 o.good)from rfl)
 have l4:=λK=>vLoad_1 (K:=K) hcc (show o.a[4]?=some (.int .i64 o.id)from rfl)
 have lx:=λK=>vLoad_1 (K:=K) F.hx (show (hsHd nm S)[2]?=some (.int .i64 S.L.goods)from rfl)
 unfold cancelH at hR
 by_cases c1:S.L.goods<=o.good
 ·rw[if_pos (.inl c1)]at hR
  simp[l1,lx,c1]
  exact hR _ HG
 by_cases c2:1048576<o.id
 ·rw[if_pos (.inr c2)]at hR
  simp[l1,lx,c1,l4,c2]
  exact hR _ HG
 rw[if_neg (by omega)]at hR
 have hid:=ho.id
 have hgd0:=ho.good
 obtain⟨gd,hgd⟩:∃gd:Nat,o.good=gd:=⟨o.good.toNat,by omega⟩
 have hgG:gd<S.G:=by omega
 have hw1:IntKind.i64.wrap (o.id*16)=o.id*16:=w64 (by omega) (by omega)
 have hw2:IntKind.i64.wrap (o.id*16+who)=o.id*16+who:=w64 (by omega) (by omega)
 rw[hgd]at l1 c1
 rw[hgd,Int.toNat_natCast]at hR
 have hbo:=hk.bk gd hgG
 simp[l1,lx,c1,l4,c2,hw1,hw2]
 refine F.book hn hgG ?_
 refine bk_get_ok (F.bk gd hgG) hbo.len ?_
 simp only[AEnd.elim,vExt_20,vExt_21]
 have hmem:=getO_mem (l:=(S.bk gd).l) (id:=o.id*16+who)
 generalize hold:getO (S.bk gd).l (o.id*16+who)=r at *
 simp only at hR
 refine vNew_i λd hd=>?_
 refine vStore_to (cs:=r.1.a) (ins_eq _ _ _) (by rfl) (by rfl) (by cases r.1;rfl) ?_
 rw[ins_ins]
 have Hc3:(pt d (.cells r.1.a 78 (0,0))•HsN x nm S•pt c (.cells o.a 25 (0,0))) (ins G d (.cells r.1.a 78 (0,0))):=pt_new hd Hc2
 revert Hc3
 generalize ins G d (.cells r.1.a 78 (0,0))=G3
 intro Hc3
 rw[sep_lc]at Hc3
 cases hfound:r.2 with
 | false=>
  rw[hfound]at hR
  simp only[if_true]at hR
  simp only[vUn_not,Bool.not_false,dIf_b]
  exact⟨λ_=>hR _ (sep_l HsN.mono Hc3),λe=>absurd e (by simp)⟩
 | true=>
  rw[hfound]at hR
  simp only[Bool.true_eq_false,if_false]at hR
  simp only[vUn_not,Bool.not_true,dIf_b]
  refine⟨λe=>absurd e (by simp),λ_=>?_⟩
  have hrO:=rightO_iff.1 (hbo.right r.1 (hmem hfound))
  generalize r.1=old at *
  have F3:=(sep_l HsN.mono Hc3).f
  have hcc3:G3 c=some (.cells o.a 25 (0,0)):=pt_get (sep_c (sep_r (mono_sep _ _) Hc3))
  rw[vLoad_1 F3.hx (show (hsHd nm S)[4]?=some (.slice (some ⟨nm.bs,0,none⟩) S.G nm.bcap)from rfl)]
  rw[vLoad_1 hcc3 (show o.a[1]?=some (.int .i64 gd)by rw[<-hgd];rfl),vIxS_p]
  refine⟨by omega,by omega,?_⟩
  rw[vLoad_1 F3.hb (v:=ptr (nm.ba gd)) (by simpa using hn.cb gd hgG)]
  obtain⟨C',hb1,hb2⟩:=HsN.book hgG Hc3
  refine bk_cancel hb1 hbo.len λg2 Hg2=>?_
  have H2:=hb2 _ _ _ Hg2
  simp only[AEnd.elim]
  have hdd:g2 d=some (.cells old.a 78 (0,0)):=pt_get (sep_r (mono_sep _ _) H2)
  have hcc2:g2 c=some (.cells o.a 25 (0,0)):=pt_get (sep_c (sep_r (mono_sep _ _) H2))
  have d2:=λK=>vLoad_1 (K:=K) hdd (show old.a[2]?=some (.int .i64 old.pr)from rfl)
  have d3:=λK=>vLoad_1 (K:=K) hdd (show old.a[3]?=some (.int .i64 old.am)from rfl)
  have d5:=λK=>vLoad_1 (K:=K) hdd (show old.a[5]?=some (.bool old.buys)from rfl)
  have k1:=λK=>vLoad_1 (K:=K) hcc2 (show o.a[1]?=some (.int .i64 gd)by rw[<-hgd];rfl)
  have LX2:LX g2 x nm.l nm.lb S.L:=((sep_l HsN.mono H2).f).lx
  have p2:=mul_bd (a:=old.pr) (b:=old.am) (A:=1099511627776) (B:=1048576) ⟨by omega,by omega⟩ ⟨by omega,by omega⟩
  cases hb:old.buys with
  | true=>
   rw[hb]at hR
   simp only[if_true]at hR
   simp[d5,hb,d2,d3]
   have hneg:-old.pr*old.am = -(old.pr*old.am):=Int.neg_mul _ _
   rw[w64 (x:=-old.pr) (by omega) (by omega),w64 (by omega) (by omega)]
   refine h_hold LX2 hk.led hw (by omega) ?_
   simp only[AEnd.elim]
   have hgn:=holdH_gn S.L who (-old.pr*old.am)
   have H3:=HsN.led (L':=holdH S.L who (-old.pr*old.am)) H2 hgn.1 hgn.2
   exact hR _ (sep_l HsN.mono H3)
  | false=>
   rw[hb]at hR
   simp only[Bool.false_eq_true,if_false]at hR
   simp[d5,hb,d3,k1]
   rw[w64 (x:=-old.am) (by omega) (by omega)]
   refine h_lock LX2 hk.led hw (by omega) ?_
   simp only[AEnd.elim]
   have hgn:=lockH_gn S.L who gd (-old.am)
   have H3:=HsN.led (L':=lockH S.L who gd (-old.am)) H2 hgn.1 hgn.2
   exact hR _ (sep_l HsN.mono H3)
def wantH (S:Hs) (who:Nat) (o:OpV):Int×Hs:=
 if S.L.goods<=o.good\/1048576<o.am then (1,S)else
 match S.au o.good.toNat with
 | none=>(3,S)
 | some (A,w)=>
  if w=who then (80,S)else
  let was:=(wantsA A who).1
  let more:=max (was*A.last) (o.am*A.price)-needA A who
  if 1<A.rnd/\was<o.am then (71,S)else
  if S.L.f who 0-S.L.f who 1<more then (61,S)else
  (0,(S.setAu o.good.toNat (some ((bidA A who o.am).2,w))).setL (holdH S.L who more))
end
end Go.Pw
set_option linter.unusedSimpArgs false
set_option linter.unusedVariables false
namespace Go.Pw
open Go Go.Proofs
section
variable {h g:PH} {R:AEnd->PH->Prop} {x:Nat} {nm:Nm} {S:Hs} {who:Nat} {o:OpV}
theorem saleC_ext {i:Nat} (hi:i<S.G):(saleC nm S).extract (i*2) (i*2+2)=#[saleP nm S i,.int .i64 (saleW S i)]:=by
 apply Array.ext_getElem?
 intro j
 rw[Array.getElem?_extract,saleC_size]
 rcases Nat.lt_or_ge j 2 with hj | hj
 ·rw[if_pos (by omega)]
  match j,hj with
  | 0,_=>rw[Nat.add_zero,saleC_p hi];rfl
  | 1,_=>rw[saleC_w hi];rfl
 ·rw[if_neg (by omega),Array.getElem?_eq_none (by simpa using hj)]
theorem HF.sale {K:Value->PH->Prop} (F:HF h x nm S) {i:Nat} (hi:i<S.G) (hk:∀d,h d=none->K (ptr d) (ins h d (.cells #[saleP nm S i,.int .i64 (saleW S i)] 98 (0,0)))) :
  vLoad none (.pointer (some ⟨x,5,none⟩)) h λs=>vIxS 2 s (.int .i64 i) λt=>vLoad (some 2) t h λv=>vNew #[.pointer none,.int .i64 0] 98 h λp h1=>vStore 2 p v h1 λh2=>K p h2:=by
 rw[vLoad_1 F.hx (show (hsHd nm S)[5]?=some (.slice (some ⟨nm.ss,0,none⟩) S.G S.G)from rfl),vIxS_p]
 refine⟨by omega,by omega,?_⟩
 rw[show 0+(i:Int).toNat*2=i*2 by omega,vLoad_n F.hs (by rw[saleC_size];omega),saleC_ext hi]
 refine vNew_i λd hd=>?_
 refine vStore_to (cs:=#[saleP nm S i,.int .i64 (saleW S i)]) (ins_eq _ _ _) (by rfl) (by rfl) (by unfold saleP;cases S.au i <;> rfl) ?_
 rw[ins_ins]
 exact hk d hd
theorem h_want (H:HsN x nm S h) (hn:nm.ok S) (hk:S.ok) (hw:who<S.L.n) (ho:o.ok) (hR:∀g,HsN x nm (wantH S who o).2 g->R (.ret (.tuple #[.int .i64 0,.int .i64 (wantH S who o).1])) g) :
  ACalls Tryz.prog 73 #[ptr x,.int .i64 who,o.v] h R:=by
 refine call73 ?_
 unfold sh73
 rw[show Value.cells o.v=o.a from rfl]
 have hcl:=hk.cl
 have hg:=hk.g
 refine vNew_i λc hc=>?_
 have Hc2:(HsN x nm S•pt c (.cells o.a 25 (0,0))) (ins h c (.cells o.a 25 (0,0))):=sep_c (pt_new (o:=.cells o.a 25 (0,0)) hc H)
 revert Hc2
 generalize ins h c (.cells o.a 25 (0,0))=G
 intro Hc2
 have hcc:G c=some (.cells o.a 25 (0,0)):=pt_get (sep_c Hc2)
 have HG:=sep_l HsN.mono Hc2
 have F:=HG.f
 have l1:=λK=>vLoad_1 (K:=K) hcc (show o.a[1]?=some (.int .i64 o.good)from rfl)
 have l2:=λK=>vLoad_1 (K:=K) hcc (show o.a[2]?=some (.int .i64 o.am)from rfl)
 have lx:=λK=>vLoad_1 (K:=K) F.hx (show (hsHd nm S)[2]?=some (.int .i64 S.L.goods)from rfl)
 unfold wantH at hR
 by_cases c1:S.L.goods<=o.good
 ·rw[if_pos (.inl c1)]at hR
  simp[l1,lx,c1]
  exact hR _ HG
 by_cases c2:1048576<o.am
 ·rw[if_pos (.inr c2)]at hR
  simp[l1,lx,c1,l2,c2]
  exact hR _ HG
 rw[if_neg (by omega)]at hR
 have ham:=ho.am
 have hgd0:=ho.good
 obtain⟨gd,hgd⟩:∃gd:Nat,o.good=gd:=⟨o.good.toNat,by omega⟩
 have hgG:gd<S.G:=by omega
 rw[hgd]at l1 c1
 rw[hgd,Int.toNat_natCast]at hR
 simp[l1,lx,c1,l2,c2]
 refine F.sale hgG λd hd=>?_
 have Hc3:(HsN x nm S•pt c (.cells o.a 25 (0,0))) (ins G d (.cells #[saleP nm S gd,.int .i64 (saleW S gd)] 98 (0,0))):=sep_sub Hc2 (sub_ins _ hd)
 have hdd:ins G d (.cells #[saleP nm S gd,.int .i64 (saleW S gd)] 98 (0,0)) d=some (.cells #[saleP nm S gd,.int .i64 (saleW S gd)] 98 (0,0)):=ins_eq _ _ _
 revert Hc3 hdd
 generalize ins G d (.cells #[saleP nm S gd,.int .i64 (saleW S gd)] 98 (0,0))=G3
 intro Hc3 hdd
 have HG3:=sep_l HsN.mono Hc3
 cases hau:S.au gd with
 | none=>
  rw[hau]at hR
  have hP:saleP nm S gd = .pointer none:=by unfold saleP;rw[hau]
  simp only[vFA_p,Nat.zero_add]
  rw[vLoad_1 hdd (v:=.pointer none) (by rw[hP];rfl),vBin_nilp Tryz.underlying96]
  rw[dIf_b]
  exact⟨λ_=>hR _ HG3,λe=>absurd e (by simp)⟩
 | some p=>
  obtain⟨A,w⟩:=p
  rw[hau]at hR
  simp only at hR
  obtain⟨hAk,hA0,hAn,hw0,hwn⟩:=hk.au gd A w hgG hau
  have hP:saleP nm S gd=ptr (nm.aa gd):=by unfold saleP;rw[hau]
  have hW:saleW S gd=w:=by unfold saleW;rw[hau]
  rw[hP,hW]at hdd
  have F3:=HG3.f
  have hA:AucAt G3 (nm.aa gd) (nm.ab gd) A:=F3.au gd (A,w) hgG hau
  have d0:=λK=>vLoad_1 (K:=K) hdd (show (#[ptr (nm.aa gd),.int .i64 w]:Array Value)[0]?=some (ptr (nm.aa gd))from rfl)
  have d1:=λK=>vLoad_1 (K:=K) hdd (show (#[ptr (nm.aa gd),.int .i64 w]:Array Value)[1]?=some (.int .i64 w)from rfl)
  have dd:∀K,vLoad (some 2) (.pointer (some ⟨d,0,none⟩)) G3 K↔K (.agg #[ptr (nm.aa gd),.int .i64 w]):=λK=>by
   rw[vLoad_n hdd (off:=0) (n:=2) (by show 0+2<=2;omega),show (#[ptr (nm.aa gd),.int .i64 w]:Array Value).extract 0 (0+2)=#[ptr (nm.aa gd),.int .i64 w]from rfl]
  have hcc3:G3 c=some (.cells o.a 25 (0,0)):=pt_get (sep_c Hc3)
  have k2:=λK=>vLoad_1 (K:=K) hcc3 (show o.a[2]?=some (.int .i64 o.am)from rfl)
  by_cases c3:w=who
  ·rw[if_pos c3]at hR
   simp[d0,vBin_pnil Tryz.underlying96,d1,c3]
   exact hR _ HG3
  rw[if_neg c3]at hR
  simp[d0,vBin_pnil Tryz.underlying96,d1,c3]
  have hwb:=wantsA_bd hAk who
  have hlb:=last_bd hAk
  have hpb:=hAk.priceB
  have hnb:=needA_bd hAk who
  have m1:=mul_bd (B:=1099511627776) ⟨hwb.1,hwb.2.1⟩ hlb
  have m2:=mul_bd (a:=o.am) (A:=1048576) (B:=1099511627776) ⟨ham.1,by omega⟩ hpb
  refine clock_wants hA ?_
  simp only[AEnd.elim,vExt_20,vExt_21,dd]
  refine h_need hA hAk ?_
  simp only[AEnd.elim,d0,k2]
  refine clock_last hA hAk ?_
  simp only[AEnd.elim,k2,d0,true_and,vBin_mul]
  rw[w64 (by omega) (by omega)]
  refine clock_price hA hAk ?_
  simp only[AEnd.elim,k2,true_and,vBin_mul,vMinMax_i,if_true,vBin_sub,d0]
  rw[w64 (x:=o.am*A.price) (by omega) (by omega)]
  have emax:(if o.am*A.price>(wantsA A who).1*A.last then o.am*A.price else (wantsA A who).1*A.last)=max ((wantsA A who).1*A.last) (o.am*A.price):=by split <;> omega
  rw[emax]
  have mb:0<=max ((wantsA A who).1*A.last) (o.am*A.price)/\max ((wantsA A who).1*A.last) (o.am*A.price)<=1152921504606846976:=by omega
  rw[w64 (by omega) (by omega)]
  generalize hmore:max ((wantsA A who).1*A.last) (o.am*A.price)-needA A who=more at *
  refine clock_round hA ?_
  simp only[AEnd.elim]
  have rest:¬(1<A.rnd/\(wantsA A who).1<o.am)->vCall Tryz.prog 111 #[ptr x,.int .i64 who] G3 (λt77 h_16=>
    vBin Tryz.prog .gtr 3 (.int .i64 more) t77 λt78=>
    dIf t78 (R (.ret (.tuple #[(.int .i64 0),(.int .i64 61)])) h_16)
    (vLoad none (.pointer (some ⟨d,0,none⟩)) h_16 λt80=>
    vLoad none (.pointer (some ⟨c,2,none⟩)) h_16 λt83=>
    vCall Tryz.prog 112 #[t80,.int .i64 who,t83] h_16 (λt84 h_17=>
    vCall Tryz.prog 113 #[ptr x,.int .i64 who,.int .i64 more] h_17 (λt88 h_18=>
    R (.ret (.tuple #[(.int .i64 0),(.int .i64 0)])) h_18)
    (λc h=>R (.pan c) h))
    (λc h=>R (.pan c) h)))
    (λc h=>R (.pan c) h):=λhrise=>by
   rw[if_neg hrise]at hR
   refine h_free F3.lx hk.led hw ?_
   simp only[AEnd.elim,vBin_gtr,dIf_b,decide_eq_true_eq,decide_eq_false_iff_not]
   refine⟨λhpoor=>?_,λhrich=>?_⟩
   ·rw[if_pos hpoor]at hR
    exact hR _ HG3
   ·rw[if_neg hrich]at hR
    rw[d0,k2]
    refine clock_bid hA ?_
    simp only[AEnd.elim]
    have H4:=HsN.auc (B:=(bidA A who o.am).2) hgG hau Hc3
    have LX4:=((sep_l HsN.mono H4).f).lx
    refine h_hold LX4 hk.led hw (by omega) ?_
    simp only[AEnd.elim]
    have hgn:=holdH_gn S.L who more
    have H5:=HsN.led (L':=holdH S.L who more) H4 hgn.1 hgn.2
    exact hR _ (sep_l HsN.mono H5)
  by_cases c4:1<A.rnd
  ·by_cases c5:(wantsA A who).1<o.am
   ·rw[if_pos ⟨c4,c5⟩]at hR
    simp[c4,k2,c5]
    exact hR _ HG3
   ·have:=rest (by omega)
    simp[c4,k2,c5]
    exact this
  ·have:=rest (by omega)
   simp[c4]
   exact this
end
end Go.Pw
set_option linter.unusedSimpArgs false
set_option linter.unusedVariables false
namespace Go.Pw
open Go Go.Proofs
def Nm.auc (nm:Nm) (i a bb:Nat):Nm:={nm with aa:=λk=>if k=i then a else nm.aa k,ab:=λk=>if k=i then bb else nm.ab k}
def offerH (S:Hs) (who:Nat) (o:OpV):Int×Hs:=
 if S.L.goods<=o.good then (1,S)else
 if (ticksO o.price).2≠0 then ((ticksO o.price).2,S)else
 if ¬(1<=o.am/\o.am<=1048576/\0<=(ticksO o.price).1/\(ticksO o.price).1<=1099511627776/\1<=o.side/\o.side<=1099511627776/\1<=(S.L.n:Int)/\(S.L.n:Int)<=16)then (1,S)else
 if (S.au o.good.toNat).isSome then (63,S)else
 if (lockL S.L who o.good o.am).1≠0 then ((lockL S.L who o.good o.am).1,S)else
 (0,(S.setAu o.good.toNat (some (newAuc o.am (ticksO o.price).1 o.side S.L.n,who))).setL (lockL S.L who o.good o.am).2)
section
variable {h g:PH} {R:AEnd->PH->Prop} {x:Nat} {nm:Nm} {S:Hs} {who:Nat} {o:OpV} {C:PH->Prop} {A:Auc}
theorem auc_new {a bb:Nat} (ha:h a=none) (hb:h bb=none) (hs:Sub h g) (hA:AucAt g a bb A) (hC:C h):(AucP a bb A•C) g:=by
 refine⟨ins (one bb (.cells (bidCells A) 157 (0,0))) a (.cells (aucHd A bb) 155 (0,0)),h,λx hx=>?_,λx p hp=>?_,hs,⟨ins_eq _ _ _,?_⟩,hC⟩
 ·by_cases e:x=a
  ·rw[e];exact ha
  ·rw[ins_ne _ _ e]at hx
   by_cases e2:x=bb
   ·rw[e2];exact hb
   ·exact absurd (by unfold one;rw[ins_ne _ _ e2]) hx
 ·by_cases e:x=a
  ·subst e;rw[ins_eq]at hp;cases hp;exact hA.ha
  ·rw[ins_ne _ _ e]at hp
   exact one_sub hA.hb x p hp
 ·rw[ins_ne _ _ hA.ne.symm];exact ins_eq _ _ _
theorem saleC_at {S:Hs} {k:Nat} (hk:k<S.G*2):(saleC nm S)[k]?=some (if k%2=0 then saleP nm S (k/2)else .int .i64 (saleW S (k/2))):=by
 unfold saleC
 rw[Array.getElem?_ofFn,dif_pos hk]
theorem saleC_set {nm':Nm} {S':Hs} {i:Nat} (hi:i<S.G) (hG:S'.G=S.G) (hP:∀k,k≠i->saleP nm' S' k=saleP nm S k) (hW:∀k,k≠i->saleW S' k=saleW S k) :
  wr (saleC nm S) (i*2) [saleP nm' S' i,.int .i64 (saleW S' i)]=saleC nm' S':=by
 apply Array.ext_getElem?
 intro k
 rw[wr_getElem,saleC_size]
 rcases Nat.lt_or_ge k (S.G*2)with hk | hk
 ·rw[saleC_at (nm:=nm') (S:=S') (by rw[hG];exact hk)]
  simp only[List.length_cons,List.length_nil]
  by_cases e:i*2<=k/\k<i*2+2
  ·rw[if_pos ⟨e.1,e.2,hk⟩]
   rcases (by omega:k=i*2\/k=i*2+1)with rfl | rfl
   ·rw[show i*2-i*2=0 by omega,if_pos (by omega),show i*2/2=i by omega];rfl
   ·rw[show i*2+1-i*2=1 by omega,if_neg (by omega),show (i*2+1)/2=i by omega];rfl
  ·rw[if_neg (λhh=>e ⟨hh.1,hh.2.1⟩),saleC_at hk]
   have hne:k/2≠i:=by omega
   rw[hP _ hne,hW _ hne]
 ·rw[if_neg (by omega),Array.getElem?_eq_none (by rw[saleC_size];exact hk),Array.getElem?_eq_none (by rw[saleC_size,hG];exact hk)]
theorem HsN.offer {i a bb:Nat} {w:Int} (hi:i<S.G) (ha:S.au i=none) (H:(AucP a bb A•HsN x nm S•C) h) :
  (HsN x (nm.auc i a bb) (S.setAu i (some (A,w)))•C) (ins h nm.ss (saO (nm.auc i a bb) (S.setAu i (some (A,w))))):=by
 have e:∀(A P1 P2 P3 P4 P5 P6 C:PH->Prop),A•(P1•P2•P3•P4•P5•P6)•C=P4•(A•P6)•((P1•P2•P3•P5)•C):=λ_ _ _ _ _ _ _ _=>by ac_rfl
 have e2:∀(P1 P2 P3 P4 P5 P6 C:PH->Prop),(P1•P2•P3•P4•P5•P6)•C=P4•P6•((P1•P2•P3•P5)•C):=λ_ _ _ _ _ _ _=>by ac_rfl
 unfold HsN at H ⊢
 rw[e]at H
 rw[e2]
 have eG:(S.setAu i (some (A,w))).G=S.G:=rfl
 have hst:∀(nm':Nm) (S':Hs),stars (auP nm' S') S.G=auP nm' S' i•stars (upA (auP nm' S') i emp) S.G:=λnm' S'=>stars_get hi (auP.mono i)
 have h1:auP nm S i=emp:=by unfold auP;rw[ha]
 have h2:auP (nm.auc i a bb) (S.setAu i (some (A,w))) i=AucP a bb A:=by unfold auP Hs.setAu Nm.auc;simp
 have h3:upA (auP (nm.auc i a bb) (S.setAu i (some (A,w)))) i emp=upA (auP nm S) i emp:=by
  funext k
  unfold upA
  split
  ·rfl
  ·rename_i hne;unfold auP Hs.setAu Nm.auc;simp[hne]
 rw[hst nm S,h1]at H
 rw[eG,hst,h2,h3]
 have h4:emp•stars (upA (auP nm S) i emp) S.G=stars (upA (auP nm S) i emp) S.G:=by rw[sep_comm,sep_emp_eq (mono_stars _ _)]
 rw[h4]at H
 exact pt_put H
theorem HsN.close {i:Nat} (hi:i<S.G) (H:(HsN x nm S•C) h):(HsN x nm (S.setAu i none)•C) (ins h nm.ss (saO nm (S.setAu i none))):=by
 have e2:∀(P1 P2 P3 P4 P5 P6 C:PH->Prop),(P1•P2•P3•P4•P5•P6)•C=P4•P6•((P1•P2•P3•P5)•C):=λ_ _ _ _ _ _ _=>by ac_rfl
 unfold HsN at H ⊢
 rw[e2]at H ⊢
 have eG:(S.setAu i none).G=S.G:=rfl
 have hst:∀(nm':Nm) (S':Hs),stars (auP nm' S') S.G=auP nm' S' i•stars (upA (auP nm' S') i emp) S.G:=λnm' S'=>stars_get hi (auP.mono i)
 have h2:auP nm (S.setAu i none) i=emp:=by unfold auP Hs.setAu;simp
 have h3:upA (auP nm (S.setAu i none)) i emp=upA (auP nm S) i emp:=by
  funext k
  unfold upA
  split
  ·rfl
  ·rename_i hne;unfold auP Hs.setAu;simp[hne]
 rw[hst nm S]at H
 rw[eG,hst,h2,h3]
 have H2:=pt_put (p:=saO nm (S.setAu i none)) H
 exact sep_mono H2 (λ_ h=>h) λ_ hh=>sep_mono hh (λ_ h3=>sep_mono h3 (λ_ _=>trivial) λ_ h=>h) λ_ h=>h
theorem lockL_err {L:Led} {i:Nat} {g n:Int} (h:(lockL L i g n).1≠0):(lockL L i g n).2=L:=by
 unfold lockL at h ⊢
 repeat' split
 all_goals first | rfl | (exfalso;simp_all)
theorem lockL_gn (L:Led) (i:Nat) (g n:Int):(lockL L i g n).2.goods=L.goods/\(lockL L i g n).2.n=L.n:=by
 unfold lockL
 repeat' split
 all_goals exact⟨rfl,rfl⟩
theorem h_offer (H:HsN x nm S h) (hn:nm.ok S) (hk:S.ok) (hw:who<S.L.n) (ho:o.ok) (hR:∀g nm',HsN x nm' (offerH S who o).2 g->nm'.ok (offerH S who o).2->R (.ret (.tuple #[.int .i64 0,.int .i64 (offerH S who o).1])) g) :
  ACalls Tryz.prog 72 #[ptr x,.int .i64 who,o.v] h R:=by
 refine call72 ?_
 unfold sh72
 rw[show Value.cells o.v=o.a from rfl]
 have hcl:=hk.cl
 have hg:=hk.g
 refine vNew_i λc hc=>?_
 have Hc2:(HsN x nm S•pt c (.cells o.a 25 (0,0))) (ins h c (.cells o.a 25 (0,0))):=sep_c (pt_new (o:=.cells o.a 25 (0,0)) hc H)
 revert Hc2
 generalize ins h c (.cells o.a 25 (0,0))=G
 intro Hc2
 have hcc:G c=some (.cells o.a 25 (0,0)):=pt_get (sep_c Hc2)
 have HG:=sep_l HsN.mono Hc2
 have F:=HG.f
 have lo:=λ{G':PH} (hcc:G' c=some (.cells o.a 25 (0,0))) (j:Nat) (v:Value) (hv:o.a[j]?=some v) (K:Value->Prop)=>vLoad_1 (K:=K) hcc hv
 have l1:=lo hcc 1 (.int .i64 o.good) rfl
 have l2:=lo hcc 2 (.int .i64 o.am) rfl
 have l3:=lo hcc 3 (.int .i64 o.side) rfl
 have l5:=lo hcc 5 (.float .f64 o.price) rfl
 have lx2:=λK=>vLoad_1 (K:=K) F.hx (show (hsHd nm S)[2]?=some (.int .i64 S.L.goods)from rfl)
 have lx1:=λK=>vLoad_1 (K:=K) F.hx (show (hsHd nm S)[1]?=some (.int .i64 S.L.n)from rfl)
 unfold offerH at hR
 simp only[vNil_p,vFA_p,Nat.zero_add,l1,lx2,vBin_geq,dIf_b,decide_eq_true_eq,decide_eq_false_iff_not]
 refine⟨λc1=>?_,λc1=>?_⟩
 ·rw[if_pos c1]at hR
  exact hR _ nm HG hn
 rw[if_neg c1]at hR
 rw[l5]
 refine ticks_ok ho.price ?_
 simp only[AEnd.elim,vExt_20,vExt_21,vBin_neq,dIf_b]
 by_cases c2:(ticksO o.price).2=0
 rotate_left
 ·rw[if_pos c2]at hR
  simp only[c2,decide_false,Bool.not_false]
  exact⟨λ_=>hR _ nm HG hn,λe=>absurd e (by simp)⟩
 rw[if_neg (by simp[c2])]at hR
 simp only[c2,decide_true,Bool.not_true]
 refine⟨λe=>absurd e (by simp),λ_=>?_⟩
 rw[l2,l3,lx1]
 by_cases c3:(1<=o.am/\o.am<=1048576/\0<=(ticksO o.price).1/\(ticksO o.price).1<=1099511627776/\1<=o.side/\o.side<=1099511627776/\1<=(S.L.n:Int)/\(S.L.n:Int)<=16)
 rotate_left
 ·rw[if_pos c3]at hR
  refine clock_new_bad c3 ?_
  simp[AEnd.elim]
  exact hR _ nm HG hn
 rw[if_neg (λhnn=>hnn c3)]at hR
 refine clock_new_ok c3 λa bb g3 ha hbb hs3 hA3=>?_
 have Hc3:(AucP a bb (newAuc o.am (ticksO o.price).1 o.side S.L.n)•HsN x nm S•pt c (.cells o.a 25 (0,0))) g3:=auc_new ha hbb hs3 hA3 Hc2
 have HG3:HsN x nm S g3:=sep_l HsN.mono (sep_r (mono_sep _ _) Hc3)
 have F3:=HG3.f
 have hcc3:g3 c=some (.cells o.a 25 (0,0)):=hs3 _ _ hcc
 obtain⟨gd,hgd⟩:∃gd:Nat,o.good=gd:=⟨o.good.toNat,by have:=ho.good;omega⟩
 have hgG:gd<S.G:=by omega
 have k1:=lo hcc3 1 (.int .i64 gd) (by rw[<-hgd];rfl)
 have k2:=lo hcc3 2 (.int .i64 o.am) rfl
 rw[hgd,Int.toNat_natCast]at hR
 simp only[AEnd.elim,vExt_20,vExt_21,vBin_neq,decide_true,Bool.not_true,dIf_b]
 refine⟨λe=>absurd e (by simp),λ_=>?_⟩
 rw[vLoad_1 F3.hx (show (hsHd nm S)[5]?=some (.slice (some ⟨nm.ss,0,none⟩) S.G S.G)from rfl),k1,vIxS_p]
 refine⟨by omega,by omega,?_⟩
 rw[vFA_p,vLoad_1 F3.hs (v:=saleP nm S gd) (by have:=saleC_p (nm:=nm) hgG;simpa using this)]
 cases hau:S.au gd with
 | some p=>
  rw[hau]at hR
  have hP:saleP nm S gd=ptr (nm.aa gd):=by unfold saleP;rw[hau]
  rw[hP,vBin_pneq Tryz.underlying96,dIf_b]
  exact⟨λ_=>hR _ nm HG3 hn,λe=>absurd e (by simp)⟩
 | none=>
  rw[hau]at hR
  simp only[Option.isSome_none,Bool.false_eq_true,if_false]at hR
  have hP:saleP nm S gd = .pointer none:=by unfold saleP;rw[hau]
  rw[hP,vBin_nilneq Tryz.underlying96,dIf_b]
  refine⟨λe=>absurd e (by simp),λ_=>?_⟩
  rw[F3.lx.ld,k1,k2]
  refine lock_ok F3.hl hk.led.small hw ?_
  simp only[AEnd.elim,vBin_neq,dIf_b]
  have hgn:=lockL_gn S.L who gd o.am
  rw[sep_lc]at Hc3
  have H4:=HsN.led (L':=(lockL S.L who gd o.am).2) Hc3 hgn.1 hgn.2
  by_cases c5:(lockL S.L who gd o.am).1=0
  rotate_left
  ·rw[if_pos c5]at hR
   simp only[c5,decide_false,Bool.not_false]
   refine⟨λ_=>?_,λe=>absurd e (by simp)⟩
   rw[lockL_err c5]at H4 ⊢
   exact hR _ nm (sep_l HsN.mono H4) hn
  rw[if_neg (by simp[c5])]at hR
  simp only[c5,decide_true,Bool.not_true]
  refine⟨λe=>absurd e (by simp),λ_=>?_⟩
  have F4:=(sep_l HsN.mono H4).f
  have hcc4:=pt_get (sep_c (sep_r (mono_sep _ _) H4))
  have eG:(S.setL (lockL S.L who gd o.am).2).G=S.G:=by unfold Hs.G Hs.setL;rw[hgn.1]
  rw[vLoad_1 F4.hx (show (hsHd nm (S.setL (lockL S.L who gd o.am).2))[5]?=some (.slice (some ⟨nm.ss,0,none⟩) (S.setL (lockL S.L who gd o.am).2).G (S.setL (lockL S.L who gd o.am).2).G)from rfl)]
  rw[lo hcc4 1 (.int .i64 gd) (by rw[<-hgd];rfl)]
  refine⟨#[ptr a,.int .i64 who],rfl,?_⟩
  refine (vIxS_p _ _ _ _ _ _ _).2 ⟨by omega,by rw[eG];omega,?_⟩
  rw[sep_lc]at H4
  have H5:=HsN.offer (S:=S.setL (lockL S.L who gd o.am).2) (w:=who) (by rw[eG];exact hgG) hau H4
  rw[show 0+(gd:Int).toNat*2=gd*2 by omega]
  rw[vStore_p (n:=2) (v:=.agg #[ptr a,.int .i64 who]) F4.hs rfl (by rw[saleC_size,eG];omega) (by rfl)]
  have hP5:saleP (nm.auc gd a bb) ((S.setL (lockL S.L who gd o.am).2).setAu gd (some (newAuc o.am (ticksO o.price).1 o.side S.L.n,(who:Int)))) gd=ptr a:=by unfold saleP Hs.setAu Nm.auc;simp
  have hW5:saleW ((S.setL (lockL S.L who gd o.am).2).setAu gd (some (newAuc o.am (ticksO o.price).1 o.side S.L.n,(who:Int)))) gd=who:=by unfold saleW Hs.setAu;simp
  have hset:=saleC_set (nm:=nm) (S:=S.setL (lockL S.L who gd o.am).2) (nm':=nm.auc gd a bb) (S':=(S.setL (lockL S.L who gd o.am).2).setAu gd (some (newAuc o.am (ticksO o.price).1 o.side S.L.n,(who:Int)))) (i:=gd) (by rw[eG];exact hgG) rfl
   (λk hk=>by unfold saleP Hs.setAu Nm.auc;simp[hk]) (λk hk=>by unfold saleW Hs.setAu;simp[hk])
  rw[hP5,hW5]at hset
  rw[show (Value.agg #[ptr a,.int .i64 who]).cells.toList = [ptr a,.int .i64 who]from rfl,hset]
  refine hR _ (nm.auc gd a bb) (sep_l HsN.mono H5) ⟨λi hi=>hn.cb i ?_,?_⟩
  ·have:((S.setAu gd (some (newAuc o.am (ticksO o.price).1 o.side S.L.n,(who:Int)))).setL (lockL S.L who gd o.am).2).G=S.G:=eG
   rw[this]at hi;exact hi
  ·have:((S.setAu gd (some (newAuc o.am (ticksO o.price).1 o.side S.L.n,(who:Int)))).setL (lockL S.L who gd o.am).2).G=S.G:=eG
   rw[this];exact hn.cap
end
end Go.Pw
set_option linter.unusedSimpArgs false
set_option linter.unusedVariables false
namespace Go.Pw
open Go Go.Proofs
def FO (s:Value) (l:List Fil):PH->Prop:=λh=>(l = []/\∃p cap,s = .slice p 0 cap) \/
 ∃g off cap c,s = .slice (some ⟨g,off,none⟩) l.length cap/\l.length<=cap/\h g=some (.cells c 218 (0,0))/\off+l.length*3<=c.size/\∀i f,l[i]?=some f->∀j,j<3->c[off+i*3+j]?=f.cells[j]?
def tailV:Value->Value
 | .slice p len cap=>.slice (if cap=1 then p else p.map (·.add (1*3))) (len-1) (cap-1)
 | v=>v
section
variable {h g:PH} {R:AEnd->PH->Prop} {s:Value} {l r:List Fil} {f:Fil} {C:PH->Prop}
theorem FO.mono:Mono (FO s l):=λh g hs H=>by
 rcases H with a | ⟨q,off,cap,c,a1,a2,a3,a4⟩
 ·exact .inl a
 ·exact .inr ⟨q,off,cap,c,a1,a2,hs _ _ a3,a4⟩
theorem FO.len (H:FO s l h):∃p cap,s = .slice p l.length cap:=by
 rcases H with⟨rfl,p,cap,rfl⟩ | ⟨q,off,cap,c,a1,_⟩
 ·exact⟨p,cap,rfl⟩
 ·exact⟨_,_,a1⟩
theorem FO.of (H:OS 218 3 s l.length (filsC l) h):FO s l h:=by
 rcases H.buf with⟨h1,h2,_⟩ | ⟨g,c,cap,h1,h2,h3,h4,h5⟩
 ·exact .inl ⟨List.eq_nil_of_length_eq_zero h2,none,0,h1⟩
 ·refine .inr ⟨g,0,cap,c,h1,h4,h2,by omega,λi f hf j hj=>?_⟩
  have hi:i<l.length:=(List.getElem?_eq_some_iff.1 hf).1
  rw[<-filsC_get l i f hf j hj,<-h5,List.getElem?_take,if_pos (by omega),Array.getElem?_toList,Nat.zero_add]
theorem FO.tail (H:FO s (f::r) h):FO (tailV s) r h:=by
 rcases H with⟨h1,_⟩ | ⟨q,off,cap,c,rfl,h2,h3,h4,h5⟩
 ·cases h1
 ·simp only[List.length_cons]at h2 h4
  unfold tailV
  simp only[List.length_cons,Nat.add_sub_cancel]
  by_cases hc:cap=1
  ·have hr:r = []:=List.eq_nil_of_length_eq_zero (by omega)
   subst hr
   exact .inl ⟨rfl,_,_,rfl⟩
  ·rw[if_neg hc]
   refine .inr ⟨q,off+3,cap-1,c,?_,by omega,h3,by omega,λi f' hf j hj=>?_⟩
   ·rfl
   ·rw[show off+3+i*3+j=off+(i+1)*3+j by omega]
    exact h5 (i+1) f' (by simpa using hf) j hj
theorem fo_tail {K:Value->Prop} (H:FO s (f::r) h) (hk:K (tailV s)):vSl 3 (some (.int .i64 1)) none s K:=by
 obtain⟨p,cap,rfl⟩:=H.len
 have hcap:(f::r).length<=cap:=by
  rcases H with⟨h1,_⟩ | ⟨q,off,cap',c,h1,h2,_⟩
  ·cases h1
  ·cases h1;exact h2
 simp only[List.length_cons]at hcap
 refine⟨p,_,cap,rfl,?_⟩
 simp only[intBetween]
 refine⟨_,_,rfl,by omega,by simp only[List.length_cons];omega,?_⟩
 unfold tailV at hk
 exact hk
theorem fo_ld {K:Value->Prop} (H:FO s (f::r) h) {j:Nat} {v:Value} (hv:f.a[j]?=some v) (hk:K v):vIxS 3 s (.int .i64 0) λt=>vFA j t λt=>vLoad none t h K:=by
 rcases H with⟨h1,_⟩ | ⟨q,off,cap,c,rfl,h2,h3,h4,h5⟩
 ·cases h1
 ·have hj:j<3:=by
   rcases Nat.lt_or_ge j 3 with h | h
   ·exact h
   ·rw[Array.getElem?_eq_none (show f.a.size<=j from h)]at hv;cases hv
  rw[vIxS_p]
  refine⟨by omega,by simp only[List.length_cons];omega,?_⟩
  have h6:=h5 0 f rfl j hj
  rw[vFA_p,vLoad_1 h3 (v:=v) (by
   rw[show off+(0:Int).toNat*3+j=off+0*3+j by omega,h6,<-hv,show f.cells=f.a.toList from rfl,Array.getElem?_toList])]
  exact hk
theorem fo_st {K:PH->Prop} {v:Int} (H:(FO s (f::r)•C) h) (hk:∀g,(FO s ({f with am:=v} :: r)•C) g->K g):vIxS 3 s (.int .i64 0) λt=>vFA 2 t λt=>vStore 1 t (.int .i64 v) h K:=by
 have H0:=sep_l FO.mono H
 rcases H0 with⟨h1,_⟩ | ⟨q,off,cap,c,rfl,h2,h3,h4,h5⟩
 ·cases h1
 ·simp only[List.length_cons]at h4
  rw[vIxS_p]
  refine⟨by omega,by simp only[List.length_cons];omega,?_⟩
  rw[vFA_p,show off+(0:Int).toNat*3+2=off+2 by omega,vStore_1 h3 (by omega) rfl]
  refine hk _ (sep_upd H λh1 H1=>?_)
  rcases H1 with⟨e,_⟩ | ⟨q1,off1,cap1,c1,e,g2,g3,g4,g5⟩
  ·cases e
  ·cases e
   have hcc:h1 q=some (.cells c1 218 (0,0)):=g3
   refine⟨⟨_,g3⟩,.inr ⟨q,off,cap,_,rfl,g2,ins_eq _ _ _,by rw[Array.size_setIfInBounds];simp only[List.length_cons];omega,λi f' hf j hj=>?_⟩⟩
   by_cases e:off+i*3+j=off+2
   ·have hi:i=0:=by omega
    have hj2:j=2:=by omega
    subst hi
    subst hj2
    simp only[List.getElem?_cons_zero,Option.some.injEq]at hf
    subst hf
    rw[show off+0*3+2=off+2 by omega,Array.getElem?_setIfInBounds_self_of_lt (by omega)]
    rfl
   ·rw[Array.getElem?_setIfInBounds_ne (λh=>e h.symm)]
    match i,hf with
    | 0,hf=>
     simp only[List.getElem?_cons_zero,Option.some.injEq]at hf
     subst hf
     rw[h5 0 f rfl j hj]
     match j,hj,e with
     | 0,_,_=>rfl
     | 1,_,_=>rfl
     | 2,_,e=>exact absurd (by omega) e
    | i+1,hf=>exact h5 (i+1) f' (by simpa using hf) j hj
end
end Go.Pw
set_option linter.unusedSimpArgs false
set_option linter.unusedVariables false
namespace Go.Pw
open Go Go.Proofs
def matchF (gd p:Int):Nat->Led->List Fil->List Fil->Led
 | 0,L,_,_=>L
 | _+1,L,[],_=>L
 | _+1,L,_::_,[]=>L
 | k+1,L,b::bs,s::ss=>
  matchF gd p k (tradeH L s.own.toNat b.own.toNat gd p (min b.am s.am)) (if b.am-min b.am s.am=0 then bs else {b with am:=b.am-min b.am s.am} :: bs)
   (if s.am-min b.am s.am=0 then ss else {s with am:=s.am-min b.am s.am} :: ss)
theorem matchF_nil (gd p:Int) (k:Nat) (L:Led) (l:List Fil):matchF gd p k L [] l=L:=by cases k <;> rfl
theorem matchF_nil2 (gd p:Int) (k:Nat) (L:Led) (l:List Fil):matchF gd p k L l []=L:=by
 cases k
 ·rfl
 ·cases l <;> rfl
theorem tradeH_gn (L:Led) (s b:Nat) (g p n:Int):(tradeH L s b g p n).goods=L.goods/\(tradeH L s b g p n).n=L.n:=by
 unfold tradeH moveL handL moveTo handTo
 repeat' split
 all_goals exact⟨rfl,rfl⟩
theorem inv_tradeH {L:Led} (h:Inv L) {s b:Nat} (hs:s<L.n) (hb:b<L.n) (g p n:Int):Inv (tradeH L s b g p n):=by
 have h1:Inv (handL L s b g n).2:=inv_hand h hs hb
 have h2:(handL L s b g n).2.n=L.n:=by
  unfold handL handTo
  repeat' split
  all_goals rfl
 unfold tradeH
 split
 ·split
  ·exact inv_move h1 (by rw[h2];exact hb) (by rw[h2];exact hs)
  ·exact h1
 ·exact h
def FilsOk (n:Nat) (l:List Fil):Prop:=∀f∈l,0<=f.own/\f.own<n/\1<=f.am/\f.am<=1048576
theorem FilsOk.next {n:Nat} {f:Fil} {r:List Fil} {m:Int} (h:FilsOk n (f::r)) (hm:0<m/\m<=f.am):FilsOk n (if f.am-m=0 then r else {f with am:=f.am-m} :: r):=by
 split
 ·exact λx hx=>h x (by simp[hx])
 ·intro x hx
  rcases List.mem_cons.1 hx with rfl | hx
  ·have:=h f (by simp)
   simp only
   omega
  ·exact h x (by simp[hx])
section
variable {h g:PH} {R:AEnd->PH->Prop} {x:Nat} {nm:Nm} {S:Hs} {C:PH->Prop}
theorem match_ok {gd:Nat} {p:Int} {bu se:List Fil} {sb ss:Value} {R:AEnd->PH->Prop} {x4:Unit->PH->Prop} (H:(HsN x nm S•FO sb bu•FO ss se•C) h) (hv:Inv S.L) (hp:0<=p/\p<=1099511627776) (hbu:FilsOk S.L.n bu) (hse:FilsOk S.L.n se)
  (hX:∀g,HsN x nm (S.setL (matchF gd p (bu.length+se.length) S.L bu se)) g->x4 () g) :
  lf (b103_16 (λc h=>R (.pan c) h) x4) (ptr x,.int .i64 gd,.int .i64 p) (sb,ss) h:=by
 refine lf_intro (λm s' g=>∃(L:Led) (bu' se':List Fil) (sb' ss':Value),s'=(sb',ss')/\bu'.length+se'.length<=m/\L.n=S.L.n/\L.goods=S.L.goods/\Inv L/\FilsOk S.L.n bu'/\FilsOk S.L.n se' /\
   matchF gd p m L bu' se'=matchF gd p (bu.length+se.length) S.L bu se/\(HsN x nm (S.setL L)•FO sb' bu'•FO ss' se'•C) g) (bu.length+se.length)
  ⟨S.L,bu,se,sb,ss,rfl,Nat.le_refl _,rfl,rfl,hv,hbu,hse,rfl,H⟩ ?_
 rintro m s' g ⟨L,bu',se',sb',ss',rfl,hm,hLn,hLg,hLv,hb',hs',hM,Hg⟩
 have HB:FO sb' bu' g:=sep_l FO.mono (sep_r (mono_sep _ _) Hg)
 have HS:FO ss' se' g:=sep_l FO.mono (sep_r (mono_sep _ _) (sep_r (mono_sep _ _) Hg))
 have HH:HsN x nm (S.setL L) g:=sep_l HsN.mono Hg
 obtain⟨pb,cb,hsb⟩:=HB.len
 obtain⟨ps,cs,hss⟩:=HS.len
 have lb:∀K:Value->Prop,vLenS sb' K↔K (.int .i64 bu'.length):=λK=>by rw[hsb];simp
 have ls:∀K:Value->Prop,vLenS ss' K↔K (.int .i64 se'.length):=λK=>by rw[hss];simp
 have key:∀(kn:(Value×Value×Value)->(Value×Value)->PH->Prop),(∀(L2:Led) (bu2 se2:List Fil) (sb2 ss2:Value) (m2:Nat) (g2:PH),m2<m->bu2.length+se2.length<=m2->L2.n=S.L.n->L2.goods=S.L.goods->Inv L2->FilsOk S.L.n bu2->FilsOk S.L.n se2 ->
   matchF gd p m2 L2 bu2 se2=matchF gd p (bu.length+se.length) S.L bu se->(HsN x nm (S.setL L2)•FO sb2 bu2•FO ss2 se2•C) g2->kn (ptr x,.int .i64 gd,.int .i64 p) (sb2,ss2) g2) ->
   b103_16 (λc h=>R (.pan c) h) x4 (ptr x,.int .i64 gd,.int .i64 p) kn (sb',ss') g:=by
  intro kn hkn
  unfold b103_16
  match bu',se',hm,hb',hs',hM,Hg,HB,HS,lb,ls with
  | [],se',hm,hb',hs',hM,Hg,HB,HS,lb,ls=>
   rw[matchF_nil]at hM
   simp[lb]
   refine hX _ ?_
   rw[<-hM];exact HH
  | b::bs,[],hm,hb',hs',hM,Hg,HB,HS,lb,ls=>
   rw[matchF_nil2]at hM
   simp[lb,ls]
   refine hX _ ?_
   rw[<-hM];exact HH
  | b::bs,s::sss,hm,hb',hs',hM,Hg,HB,HS,lb,ls=>
   simp only[List.length_cons]at hm
   obtain⟨m',rfl⟩:∃m',m=m'+1:=⟨m-1,by omega⟩
   have hbb:=hb' b (by simp)
   have hsb2:=hs' s (by simp)
   have pos1:(0:Int)<((b::bs).length:Int):=by simp only[List.length_cons];omega
   have pos2:(0:Int)<((s::sss).length:Int):=by simp only[List.length_cons];omega
   simp only[lb,ls,vBin_gtr,pos1,pos2,decide_true,boolOf_b,gq_b,true_implies,ne_eq,not_true_eq_false,false_implies,and_true,vPick_b,cond_true,dIf_b]
   refine⟨?_,λe=>absurd e (by simp)⟩
   refine fo_ld HB (j:=2) (v:=.int .i64 b.am) rfl ?_
   refine fo_ld HS (j:=2) (v:=.int .i64 s.am) rfl ?_
   simp only[vMinMax_i,Bool.false_eq_true,if_false]
   have hmin:(if s.am<b.am then s.am else b.am)=min b.am s.am:=by split <;> omega
   rw[hmin]
   refine fo_ld HS (j:=1) (v:=.int .i64 s.own) rfl ?_
   refine fo_ld HB (j:=1) (v:=.int .i64 b.own) rfl ?_
   have hmb:0<min b.am s.am/\min b.am s.am<=b.am:=by omega
   have hms:0<min b.am s.am/\min b.am s.am<=s.am:=by omega
   obtain⟨so,hso⟩:∃so:Nat,s.own=so:=⟨s.own.toNat,by omega⟩
   obtain⟨bo,hbo⟩:∃bo:Nat,b.own=bo:=⟨b.own.toNat,by omega⟩
   rw[hso,hbo]
   have hM2:matchF gd p (m'+1) L (b::bs) (s::sss)=matchF gd p m' (tradeH L so bo gd p (min b.am s.am)) (if b.am-min b.am s.am=0 then bs else {b with am:=b.am-min b.am s.am} :: bs) (if s.am-min b.am s.am=0 then sss else {s with am:=s.am-min b.am s.am} :: sss):=by
    show matchF gd p m' (tradeH L s.own.toNat b.own.toNat gd p (min b.am s.am)) _ _=_
    rw[hso,hbo,Int.toNat_natCast,Int.toNat_natCast]
   rw[hM2]at hM
   have hbn:=hb'.next hmb
   have hsn:=hs'.next hms
   have hlen:(if b.am-min b.am s.am=0 then bs else {b with am:=b.am-min b.am s.am} :: bs).length+(if s.am-min b.am s.am=0 then sss else {s with am:=s.am-min b.am s.am} :: sss).length<=m':=by
    by_cases hle:b.am<=s.am
    ·rw[if_pos (by omega)]
     split <;> (try simp only[List.length_cons]) <;> omega
    ·rw[if_neg (by omega),if_pos (by omega)]
     simp only[List.length_cons];omega
   generalize hn:min b.am s.am=n at *
   refine h_trade (L:=L) HH.f.lx hLv (by rw[hLn];omega) (by rw[hLn];omega) hp (by omega) ?_
   have hgn:=tradeH_gn L so bo gd p n
   have hinv:=inv_tradeH hLv (s:=so) (b:=bo) (by rw[hLn];omega) (by rw[hLn];omega) gd p n
   have H2:=HsN.led (L':=tradeH L so bo gd p n) Hg hgn.1 hgn.2
   have eS:(S.setL L).setL (tradeH L so bo gd p n)=S.setL (tradeH L so bo gd p n):=rfl
   rw[eS]at H2
   revert H2
   generalize putLed g nm.lb (tradeH L so bo gd p n)=g2
   intro H2
   try simp only[AEnd.elim]
   refine fo_ld (sep_l FO.mono (sep_r (mono_sep _ _) H2)) (j:=2) (v:=.int .i64 b.am) rfl ?_
   try simp only[vBin_sub]
   rw[w64 (by omega) (by omega)]
   rw[sep_lc]at H2
   refine fo_st (v:=b.am-n) H2 λg3 H3=>?_
   have HB3:=sep_l FO.mono H3
   refine fo_ld HB3 (j:=2) (v:=.int .i64 (b.am-n)) rfl ?_
   -- the sells' side
   have sells:∀(sb2:Value) (bu2:List Fil),(if b.am-n=0 then bs else {b with am:=b.am-n} :: bs)=bu2->(FO sb2 bu2•HsN x nm (S.setL (tradeH L so bo gd p n))•FO ss' (s::sss)•C) g3 ->
     vIxS 3 ss' (.int .i64 0) λt122=>vFA 2 t122 λt123=>vLoad none t123 g3 λt124=>vBin Tryz.prog .sub 3 t124 (.int .i64 n) λt126=>
     vIxS 3 ss' (.int .i64 0) λt127=>vFA 2 t127 λt128=>vStore 1 t128 t126 g3 λh_6=>
     vIxS 3 ss' (.int .i64 0) λt130=>vFA 2 t130 λt131=>vLoad none t131 h_6 λt132=>
     vBin Tryz.prog .eql 3 t132 (.int .i64 0) λt133=>
     dIf t133 (vSl 3 (some (.int .i64 1)) none ss' λt135=>kn (ptr x,.int .i64 gd,.int .i64 p) (sb2,t135) h_6)
     (kn (ptr x,.int .i64 gd,.int .i64 p) (sb2,ss') h_6):=λsb2 bu2 hbu2 H4=>by
    rw[hbu2]at hM hbn hlen
    refine fo_ld (sep_l FO.mono (sep_r (mono_sep _ _) (sep_r (mono_sep _ _) H4))) (j:=2) (v:=.int .i64 s.am) rfl ?_
    simp only[vBin_sub]
    rw[w64 (by omega) (by omega)]
    have e4:(FO sb2 bu2•HsN x nm (S.setL (tradeH L so bo gd p n))•FO ss' (s::sss)•C)=FO ss' (s::sss)•(FO sb2 bu2•HsN x nm (S.setL (tradeH L so bo gd p n))•C):=by ac_rfl
    rw[e4]at H4
    refine fo_st (v:=s.am-n) H4 λg5 H5=>?_
    refine fo_ld (sep_l FO.mono H5) (j:=2) (v:=.int .i64 (s.am-n)) rfl ?_
    simp only[vBin_eql,dIf_b,decide_eq_true_eq,decide_eq_false_iff_not]
    refine⟨λhz=>?_,λhz=>?_⟩
    ·refine fo_tail (sep_l FO.mono H5) ?_
     rw[if_pos hz]at hM hsn hlen
     have H6:(FO (tailV ss') sss•(FO sb2 bu2•HsN x nm (S.setL (tradeH L so bo gd p n))•C)) g5:=sep_mono H5 (λ_ h=>FO.tail h) (λ_ h=>h)
     have e6:(FO (tailV ss') sss•(FO sb2 bu2•HsN x nm (S.setL (tradeH L so bo gd p n))•C))=HsN x nm (S.setL (tradeH L so bo gd p n))•FO sb2 bu2•FO (tailV ss') sss•C:=by ac_rfl
     rw[e6]at H6
     exact hkn _ bu2 sss sb2 (tailV ss') m' _ (by omega) hlen (by rw[hgn.2,hLn]) (by rw[hgn.1,hLg]) hinv hbn hsn hM H6
    ·rw[if_neg hz]at hM hsn hlen
     have e6:(FO ss' ({s with am:=s.am-n} :: sss)•(FO sb2 bu2•HsN x nm (S.setL (tradeH L so bo gd p n))•C))=HsN x nm (S.setL (tradeH L so bo gd p n))•FO sb2 bu2•FO ss' ({s with am:=s.am-n} :: sss)•C:=by ac_rfl
     rw[e6]at H5
     exact hkn _ bu2 _ sb2 ss' m' _ (by omega) hlen (by rw[hgn.2,hLn]) (by rw[hgn.1,hLg]) hinv hbn hsn hM H5
   simp only[vBin_eql,dIf_b,decide_eq_true_eq,decide_eq_false_iff_not]
   refine⟨λhz=>?_,λhz=>?_⟩
   ·refine fo_tail HB3 ?_
    exact sells (tailV sb') bs (if_pos hz) (sep_mono H3 (λ_ h=>FO.tail h) (λ_ h=>h))
   ·exact sells sb' _ (if_neg hz) H3
 exact key _ λL2 bu2 se2 sb2 ss2 m2 g2 h1 h2 h3 h4 h5 h6 h7 h8 h9=>⟨rfl,m2,h1,L2,bu2,se2,sb2,ss2,rfl,h2,h3,h4,h5,h6,h7,h8,h9⟩
end
end Go.Pw
set_option linter.unusedSimpArgs false
set_option linter.unusedVariables false
namespace Go.Pw
open Go Go.Proofs
structure Spl where
 L:Led
 bu:List Fil
 se:List Fil
def inF (p:Int) (f:Fil) (t:Spl) (o:Ord):Spl:=
 if o.id≠f.id then t else if o.buys then {t with L:=holdH t.L f.own.toNat (-(o.pr-p)*f.am),bu:=t.bu ++ [f]} else {t with se:=t.se ++ [f]}
def outF (p:Int) (was:List Ord) (t:Spl) (f:Fil):Spl:=was.foldl (inF p f) t
theorem inF_len (p:Int) (f:Fil) (t:Spl) (o:Ord):(inF p f t o).bu.length<=t.bu.length+1/\(inF p f t o).se.length<=t.se.length+1:=by
 unfold inF
 repeat' split
 all_goals simp
theorem inF_inv {p:Int} {f:Fil} {t:Spl} {o:Ord} {n:Nat} {G:Int} (h:Inv t.L/\t.L.n=n/\t.L.goods=G) (hf:0<=f.own/\f.own<n):Inv (inF p f t o).L/\(inF p f t o).L.n=n/\(inF p f t o).L.goods=G:=by
 unfold inF
 repeat' split
 ·exact h
 ·have:=holdH_gn t.L f.own.toNat (-(o.pr-p)*f.am)
  exact⟨inv_holdH h.1 (by rw[h.2.1];omega) _,by rw[<-h.2.1];exact this.2,by rw[<-h.2.2];exact this.1⟩
 ·exact h
theorem inF_ok {p:Int} {f:Fil} {t:Spl} {o:Ord} {n:Nat} (hf:FilsOk n [f]) (h:FilsOk n t.bu/\FilsOk n t.se):FilsOk n (inF p f t o).bu/\FilsOk n (inF p f t o).se:=by
 have ff:=hf f (by simp)
 have app:∀l,FilsOk n l->FilsOk n (l ++ [f]):=λl hl x hx=>by
  rcases List.mem_append.1 hx with hx | hx
  ·exact hl x hx
  ·simp at hx;rw[hx];exact ff
 unfold inF
 repeat' split
 ·exact h
 ·exact⟨app _ h.1,h.2⟩
 ·exact⟨h.1,app _ h.2⟩
section
variable {h g:PH} {R:AEnd->PH->Prop} {x:Nat} {nm:Nm} {S:Hs} {C:PH->Prop}
abbrev OSf (s:Value) (l:List Fil):PH->Prop:=OS 218 3 s l.length (filsC l)
theorem app_fil {K:Value->PH->Prop} {s:Value} {l:List Fil} {f:Fil} (H:(OSf s l•C) h) (hl:l.length<=100000) (hk:∀g s',(OSf s' (l ++ [f])•C) g->K s' g) :
  (1*3<=2^24)/\vBuildS 218 3 1 #[.int .i64 0,.int .i64 0,.int .i64 0] [(0,f.v)] h λt56 h_3=>
   (0<3)/\(0<24)/\(Array.size #[(.int .i64 0:Value),(.int .i64 0:Value),(.int .i64 0:Value)]=3)/\vAppend false 218 3 24 s t56 h_3 K:=by
 obtain⟨h0,hc,ob⟩:=os_ob H
 refine⟨by omega,_,fill_fil f,λd hd=>⟨by omega,by omega,rfl,?_⟩⟩
 have obd:=ob.up (sub_ins (.cells f.a 218) hd)
 refine ob_app (m:=1) (news:=f.a.toList) obd (by simp only[roomBytes];omega) (by omega) rfl
  (λK' hk'=>.inr (.inr ⟨rfl,d,0,1,1,_,_,_,rfl,ins_eq _ _ _,by show 0+1*3<=3;omega,?_,hk'⟩)) (λb' off l cc hx gg cap hs=>?_) λg5 s5 ob5=>?_
 ·intro v hv
  have:v∈filsC [f]:=hv
  exact filsC_one v this
 ·cases hx
  intro e
  rcases ob.buf with⟨h1',_⟩ | ⟨g3,c3,cap3,h1',h2',_⟩
  ·rw[h1']at hs;cases hs
  ·rw[h1']at hs;cases hs;rw[<-e,hd]at h2';cases h2'
 ·refine hk g5 s5 ?_
  have:=ob_os hc ob5
  unfold OSf
  rw[List.length_append,<-filsC_snoc]
  exact this
theorem told_ok {was:List Ord} {sw sb ss:Value} {t:Spl} {f:Fil} {c:Nat} {p:Int} {F:Value×Value×Value×Value×Value×Value×Value×Value×Value×Value} {x2:(Value×Value×Value×Value×Value×Value×Value×Value×Value)->PH->Prop}
  (H:(HsN x nm (S.setL t.L)•OSf sb t.bu•OSf ss t.se•C) h) (hCm:Mono C) (hCw:∀g,C g->OrdsAt g sw was) (hCf:∀g,C g->g c=some (.cells f.a 218 (0,0)))
  (hI:Inv t.L/\t.L.n=S.L.n/\t.L.goods=S.L.goods) (hz:was.length<=64) (hl:t.bu.length+was.length<=90000/\t.se.length+was.length<=90000) (hf:FilsOk S.L.n [f]) (hr:∀o∈was,rightO o=true) (hp:0<=p/\p<=1099511627776)
  (e1:F.1=ptr x) (e2:F.2.2.2.1 = .int .i64 p) (e3:F.2.2.2.2.1=ptr c) (e4:F.2.2.2.2.2.2.2.2.1=sw) (e5:F.2.2.2.2.2.2.2.2.2 = .int .i64 was.length)
  (hX:∀g sb' ss',(HsN x nm (S.setL (outF p was t f).L)•OSf sb' (outF p was t f).bu•OSf ss' (outF p was t f).se•C) g->x2 (F.1,F.2.1,F.2.2.1,F.2.2.2.1,sb',ss',F.2.2.2.2.2.1,F.2.2.2.2.2.2.1,F.2.2.2.2.2.2.2.1) g) :
  lf (b103_7 (λc h=>R (.pan c) h) x2) F (sb,ss,.int .i64 0) h:=by
 have hff:=hf f (by simp)
 refine lf_intro (λm s' g=>∃(i:Nat) (sb' ss':Value),s'=(sb',ss',.int .i64 i)/\m=was.length-i/\i<=was.length/\(HsN x nm (S.setL ((was.take i).foldl (inF p f) t).L)•OSf sb' ((was.take i).foldl (inF p f) t).bu•OSf ss' ((was.take i).foldl (inF p f) t).se•C) g /\
   (Inv ((was.take i).foldl (inF p f) t).L/\((was.take i).foldl (inF p f) t).L.n=S.L.n/\((was.take i).foldl (inF p f) t).L.goods=S.L.goods)/\((was.take i).foldl (inF p f) t).bu.length<=t.bu.length+i/\((was.take i).foldl (inF p f) t).se.length<=t.se.length+i) was.length
  ⟨0,sb,ss,rfl,rfl,by omega,H,hI,by simp,by simp⟩ ?_
 rintro m s' g ⟨i,sb',ss',rfl,rfl,hi,Hg,hIi,hbl,hsl⟩
 by_cases hin:i<was.length
 ·obtain⟨o,ho⟩:=at_some (l:=was) (k:=i) hin
  have hstep:(was.take (i+1)).foldl (inF p f) t=inF p f ((was.take i).foldl (inF p f) t) o:=by
   rw[List.take_add_one,ho,List.foldl_append];rfl
  generalize hti:(was.take i).foldl (inF p f) t=ti at *
  have key:∀(kn:(Value×Value×Value×Value×Value×Value×Value×Value×Value×Value)->(Value×Value×Value)->PH->Prop),(∀g2 sb2 ss2,(HsN x nm (S.setL (inF p f ti o).L)•OSf sb2 (inF p f ti o).bu•OSf ss2 (inF p f ti o).se•C) g2->kn F (sb2,ss2,.int .i64 ((i:Int)+1)) g2) ->
    b103_7 (λc h=>R (.pan c) h) x2 F kn (sb',ss',.int .i64 i) g:=by
   intro kn hkn
   unfold b103_7
   rw[e1,e2,e3,e4,e5]
   have hlt:(i:Int)<(was.length:Int):=by omega
   simp only[vBin_lss,hlt,decide_true,dIf_b]
   refine⟨λ_=>?_,λe=>absurd e (by simp)⟩
   have hCg:C g:=sep_r hCm (sep_r (mono_sep _ _) (sep_r (mono_sep _ _) Hg))
   refine ord_copy (hCw g hCg) ho λd hd=>?_
   have Hd:=sep_sub Hg (sub_ins (.cells o.a 78 (0,0)) hd)
   have hdd:ins g d (.cells o.a 78 (0,0)) d=some (.cells o.a 78 (0,0)):=ins_eq _ _ _
   have hCf2:ins g d (.cells o.a 78 (0,0)) c=some (.cells f.a 218 (0,0)):=(sub_ins _ hd) _ _ (hCf g hCg)
   have Hdp:(pt d (.cells o.a 78 (0,0))•HsN x nm (S.setL ti.L)•OSf sb' ti.bu•OSf ss' ti.se•C) (ins g d (.cells o.a 78 (0,0))):=pt_new hd Hg
   revert Hd hdd hCf2 Hdp
   generalize ins g d (.cells o.a 78 (0,0))=G
   intro Hd hdd hCf2 Hdp
   have o0:=λK=>vLoad_1 (K:=K) hdd (show o.a[0]?=some (.int .i64 o.id)from rfl)
   have o5:=λK=>vLoad_1 (K:=K) hdd (show o.a[5]?=some (.bool o.buys)from rfl)
   have f0:=λK=>vLoad_1 (K:=K) hCf2 (show f.a[0]?=some (.int .i64 f.id)from rfl)
   have f3:∀K,vLoad (some 3) (.pointer (some ⟨c,0,none⟩)) G K↔K f.v:=λK=>by
    rw[vLoad_n hCf2 (off:=0) (n:=3) (by show 0+3<=3;omega),show f.a.extract 0 (0+3)=f.a from rfl]
   have hww:IntKind.i64.wrap ((i:Int)+1)=(i:Int)+1:=w64 (by omega) (by omega)
   unfold inF at hkn
   simp only[vFA_p,Nat.zero_add,o0,f0,vBin_neq,dIf_b]
   by_cases c1:o.id=f.id
   ·rw[if_neg (by simp[c1])]at hkn
    simp only[c1,decide_true,Bool.not_true]
    refine⟨λe=>absurd e (by simp),λ_=>?_⟩
    rw[o5,dIf_b]
    cases hb:o.buys with
    | true=>
     rw[hb]at hkn
     simp only[if_true]at hkn
     refine⟨λ_=>?_,λe=>absurd e (by simp)⟩
     rw[f3]
     have e6:(pt d (.cells o.a 78 (0,0))•HsN x nm (S.setL ti.L)•OSf sb' ti.bu•OSf ss' ti.se•C)=OSf sb' ti.bu•(HsN x nm (S.setL ti.L)•pt d (.cells o.a 78 (0,0))•OSf ss' ti.se•C):=by ac_rfl
     rw[e6]at Hdp
     refine app_fil Hdp (by omega) λg3 s3 H3=>?_
     have e7:OSf s3 (ti.bu ++ [f])•(HsN x nm (S.setL ti.L)•pt d (.cells o.a 78 (0,0))•OSf ss' ti.se•C)=HsN x nm (S.setL ti.L)•(pt d (.cells o.a 78 (0,0))•(OSf s3 (ti.bu ++ [f])•OSf ss' ti.se•C)):=by ac_rfl
     rw[e7]at H3
     have hd3:g3 d=some (.cells o.a 78 (0,0)):=pt_get (sep_r (mono_sep _ _) H3)
     have hC3:C g3:=sep_r hCm (sep_r (mono_sep _ _) (sep_r (mono_sep _ _) (sep_r (mono_sep _ _) H3)))
     have hc3:=hCf g3 hC3
     rw[vLoad_1 hc3 (show f.a[1]?=some (.int .i64 f.own)from rfl),vLoad_1 hd3 (show o.a[2]?=some (.int .i64 o.pr)from rfl)]
     have hro:=rightO_iff.1 (hr o (List.mem_of_getElem? ho))
     simp only[vBin_sub,vUn_neg]
     rw[w64 (x:=o.pr-p) (by omega) (by omega),w64 (by omega) (by omega),vLoad_1 hc3 (show f.a[2]?=some (.int .i64 f.am)from rfl)]
     simp only[vBin_mul]
     have hmb:-(1099511627776*1048576)<=(0-(o.pr-p))*f.am/\(0-(o.pr-p))*f.am<=1099511627776*1048576:=by
      rcases Int.le_total 0 (0-(o.pr-p))with hh | hh
      ·have:=mul_bd (a:=0-(o.pr-p)) (b:=f.am) (A:=1099511627776) (B:=1048576) ⟨hh,by omega⟩ ⟨by omega,by omega⟩
       omega
      ·have:=mul_bd (a:=o.pr-p) (b:=f.am) (A:=1099511627776) (B:=1048576) ⟨by omega,by omega⟩ ⟨by omega,by omega⟩
       have e:(0-(o.pr-p))*f.am = -((o.pr-p)*f.am):=by rw[Int.zero_sub,Int.neg_mul]
       omega
     rw[w64 (by omega) (by omega)]
     obtain⟨w,hw⟩:∃w:Nat,f.own=w:=⟨f.own.toNat,by omega⟩
     rw[hw]
     rw[show (0-(o.pr-p))*f.am = -(o.pr-p)*f.am by rw[Int.zero_sub]]at hmb ⊢
     refine h_hold (L:=ti.L) ((sep_l HsN.mono H3).f).lx hIi.1 (by rw[hIi.2.1];omega) (by omega) ?_
     simp only[AEnd.elim,vBin_add,hww]
     have hgn:=holdH_gn ti.L w (-(o.pr-p)*f.am)
     have H4:=HsN.led (L':=holdH ti.L w (-(o.pr-p)*f.am)) H3 hgn.1 hgn.2
     refine hkn _ s3 ss' ?_
     have e8:f.own.toNat=w:=by omega
     rw[e8]
     exact sep_mono H4 (λ_ h=>h) (λ_ h=>sep_r (mono_sep _ _) h)
    | false=>
     rw[hb]at hkn
     simp only[Bool.false_eq_true,if_false]at hkn
     refine⟨λe=>absurd e (by simp),λ_=>?_⟩
     rw[f3]
     have e6:HsN x nm (S.setL ti.L)•OSf sb' ti.bu•OSf ss' ti.se•C=OSf ss' ti.se•(HsN x nm (S.setL ti.L)•OSf sb' ti.bu•C):=by ac_rfl
     rw[e6]at Hd
     refine app_fil Hd (by omega) λg3 s3 H3=>?_
     simp only[vBin_add,hww]
     have e7:OSf s3 (ti.se ++ [f])•(HsN x nm (S.setL ti.L)•OSf sb' ti.bu•C)=HsN x nm (S.setL ti.L)•OSf sb' ti.bu•OSf s3 (ti.se ++ [f])•C:=by ac_rfl
     rw[e7]at H3
     exact hkn _ sb' s3 H3
   ·rw[if_pos c1]at hkn
    simp only[c1,decide_false,Bool.not_false]
    refine⟨λ_=>?_,λe=>absurd e (by simp)⟩
    simp only[vBin_add,hww]
    exact hkn _ sb' ss' Hd
  have hil:=inF_len p f ti o
  exact key _ λg2 sb2 ss2 H2=>⟨rfl,was.length-(i+1),by omega,i+1,sb2,ss2,rfl,rfl,by omega,by rw[hstep];exact H2,by rw[hstep];exact inF_inv hIi ⟨hff.1,hff.2.1⟩,by rw[hstep];omega,by rw[hstep];omega⟩
 ·have e:i=was.length:=by omega
  unfold b103_7
  rw[e5]
  have hge:¬(i:Int)<(was.length:Int):=by omega
  simp only[vBin_lss,hge,decide_false,dIf_b]
  refine⟨λe=>absurd e (by simp),λ_=>?_⟩
  rw[e,List.take_length]at Hg
  exact hX _ _ _ Hg
end
end Go.Pw
set_option linter.unusedSimpArgs false
set_option linter.unusedVariables false
namespace Go.Pw
open Go Go.Proofs
def splH (S:Hs) (gd:Nat):Spl:=(clearO (S.bk gd)).fs.foldl (outF (clearO (S.bk gd)).p (S.bk gd).l) ⟨S.L,[],[]⟩
def clearH (S:Hs) (gd:Nat):Hs:=(S.setBk gd (clearO (S.bk gd)).B).setL (matchF gd (clearO (S.bk gd)).p ((splH S gd).bu.length+(splH S gd).se.length) (splH S gd).L (splH S gd).bu (splH S gd).se)
theorem outF_len (p:Int) (f:Fil):∀(was:List Ord) (t:Spl),(was.foldl (inF p f) t).bu.length<=t.bu.length+was.length/\(was.foldl (inF p f) t).se.length<=t.se.length+was.length
 | [],t=>by simp
 | o::was,t=>by
  have h1:=outF_len p f was (inF p f t o)
  have h2:=inF_len p f t o
  simp only[List.foldl_cons,List.length_cons]
  omega
theorem outF_inv {p:Int} {f:Fil} {n:Nat} {G:Int} (hf:0<=f.own/\f.own<n):∀(was:List Ord) (t:Spl),(Inv t.L/\t.L.n=n/\t.L.goods=G)->(Inv (was.foldl (inF p f) t).L/\(was.foldl (inF p f) t).L.n=n/\(was.foldl (inF p f) t).L.goods=G)
 | [],t,h=>h
 | o::was,t,h=>outF_inv hf was _ (inF_inv h hf)
theorem outF_ok {p:Int} {f:Fil} {n:Nat} (hf:FilsOk n [f]):∀(was:List Ord) (t:Spl),(FilsOk n t.bu/\FilsOk n t.se)->(FilsOk n (was.foldl (inF p f) t).bu/\FilsOk n (was.foldl (inF p f) t).se)
 | [],t,h=>h
 | o::was,t,h=>outF_ok hf was _ (inF_ok hf h)
section
variable {h g:PH} {R:AEnd->PH->Prop} {x:Nat} {nm:Nm} {S:Hs} {C:PH->Prop}
theorem os_nil (hC:C h):(OSf (.slice none 0 0) []•C) h:=⟨λ_=>none,h,λb hb=>absurd rfl hb,(λb o hb=>by simp at hb),Sub.refl h,⟨rfl,.inl ⟨rfl,rfl,rfl⟩⟩,hC⟩
theorem clearO_p {B:Bk} (hk:B.ok):0<=(clearO B).p/\(clearO B).p<=1099511627776:=by
 have:=cross_bd (r:=rightsO B.l) (Nat.le_trans (List.length_filter_le _ _) hk.len) (rightsO_right (l:=B.l))
 exact⟨this.2.2.1,this.2.2.2⟩
theorem h_clear {gd:Nat} (H:HsN x nm S h) (hn:nm.ok S) (hk:S.ok) (hgG:gd<S.G) (hR:∀g,HsN x nm (clearH S gd) g->R (.ret (.tuple #[])) g) :
  ACalls Tryz.prog 103 #[ptr x,.int .i64 gd] h R:=by
 refine call103 ?_
 unfold sh103
 have hbo:=hk.bk gd hgG
 have hp:=clearO_p hbo
 have F:=H.f
 simp only[vNil_p,vFA_p,Nat.zero_add]
 refine F.book hn hgG ?_
 refine bk_orders (F.bk gd hgG) hbo.len λg1 sw ob1=>?_
 simp only[AEnd.elim]
 have H1:(OS 78 6 sw (S.bk gd).l.length (ordsC (S.bk gd).l)•HsN x nm S) g1:=ob_os H ob1
 have H1':=sep_c H1
 have F1:=(sep_l HsN.mono H1').f
 refine F1.book hn hgG ?_
 obtain⟨C',hb1,hb2⟩:=HsN.book hgG H1'
 have hone:∀a∈(S.bk gd).l,∀b∈(S.bk gd).l,a.pl=b.pl->a=b:=λa ha b hb e=>by
  obtain⟨i,hi⟩:=List.mem_iff_getElem?.1 ha
  obtain⟨j,hj⟩:=List.mem_iff_getElem?.1 hb
  obtain⟨hi1,hi2⟩:=List.getElem?_eq_some_iff.1 hi
  obtain⟨hj1,hj2⟩:=List.getElem?_eq_some_iff.1 hj
  have hpw:=List.pairwise_iff_getElem.1 hbo.pls
  rcases Nat.lt_trichotomy i j with h | h | h
  ·have:=hpw i j hi1 hj1 h;rw[hi2,hj2]at this;omega
  ·subst h;rw[hi]at hj;cases hj;rfl
  ·have:=hpw j i hj1 hi1 h;rw[hi2,hj2]at this;omega
 refine bk_clear hb1 hbo.len hbo.right hone λg2 sF H2=>?_
 simp only[AEnd.elim,vExt_30,vExt_31,vExt_32]
 have e2:BkP (nm.ba gd) (clearO (S.bk gd)).B•OS 218 3 sF (clearO (S.bk gd)).fs.length (filsC (clearO (S.bk gd)).fs)•(C'•OS 78 6 sw (S.bk gd).l.length (ordsC (S.bk gd).l))=BkP (nm.ba gd) (clearO (S.bk gd)).B•C'•(OS 218 3 sF (clearO (S.bk gd)).fs.length (filsC (clearO (S.bk gd)).fs)•OS 78 6 sw (S.bk gd).l.length (ordsC (S.bk gd).l)):=by ac_rfl
 rw[e2]at H2
 have H3:=hb2 _ _ _ H2
 have hfm:∀f∈(clearO (S.bk gd)).fs,FilsOk S.L.n [f]:=λf hf x hx=>by
  obtain⟨o,ho,h1,h2,h3,h4,h5⟩:=fillsO_mem (l:=(S.bk gd).l) hf
  have h6:=rightO_iff.1 h1
  have h7:=hk.own gd hgG o ho
  simp at hx
  rw[hx]
  omega
 have hfl:(clearO (S.bk gd)).fs.length<=128:=by
  have h1:=fillsO_len (S.bk gd).l (clearO (S.bk gd)).p (clearO (S.bk gd)).n
  have h2:=hbo.len
  show (fillsO (S.bk gd).l (clearO (S.bk gd)).p (clearO (S.bk gd)).n).length<=128
  omega
 unfold clearH splH at hR
 generalize hB:(clearO (S.bk gd)).B=B' at *
 generalize (clearO (S.bk gd)).fs=fs at *
 generalize (clearO (S.bk gd)).p=p at *
 obtain⟨pf,cf,hsf⟩:=(sep_l OS.mono (sep_r (mono_sep _ _) H3)).lens
 obtain⟨pw,cw,hsw⟩:=ob1.os.lens
 rw[hsf]
 simp only[vLenS_s]
 rw[<-hsf]
 have hlen:=hbo.len
 have hright:=hbo.right
 generalize hwas:(S.bk gd).l=was at *
 -- through the fills
 refine lf_intro (λm s' g=>∃(i:Nat) (sb ss:Value),s'=(sb,ss,.int .i64 i)/\m=fs.length-i/\i<=fs.length /\
   (HsN x nm ((S.setBk gd B').setL ((fs.take i).foldl (outF p was) ⟨S.L,[],[]⟩).L)•OSf sb ((fs.take i).foldl (outF p was) ⟨S.L,[],[]⟩).bu•OSf ss ((fs.take i).foldl (outF p was) ⟨S.L,[],[]⟩).se•OSf sF fs•OS 78 6 sw was.length (ordsC was)) g /\
   (Inv ((fs.take i).foldl (outF p was) ⟨S.L,[],[]⟩).L/\((fs.take i).foldl (outF p was) ⟨S.L,[],[]⟩).L.n=S.L.n/\((fs.take i).foldl (outF p was) ⟨S.L,[],[]⟩).L.goods=S.L.goods) /\
   (FilsOk S.L.n ((fs.take i).foldl (outF p was) ⟨S.L,[],[]⟩).bu/\FilsOk S.L.n ((fs.take i).foldl (outF p was) ⟨S.L,[],[]⟩).se) /\
   ((fs.take i).foldl (outF p was) ⟨S.L,[],[]⟩).bu.length<=i*64/\((fs.take i).foldl (outF p was) ⟨S.L,[],[]⟩).se.length<=i*64) fs.length
  ⟨0,.slice none 0 0,.slice none 0 0,rfl,rfl,by omega,?_,⟨hk.led,rfl,rfl⟩,⟨(by intro f hf;cases hf),(by intro f hf;cases hf)⟩,by simp,by simp⟩ ?_
 ·have h4:(OSf (.slice none 0 0) []•OSf (.slice none 0 0) []•HsN x nm (S.setBk gd B')•OSf sF fs•OS 78 6 sw was.length (ordsC was)) g2:=os_nil (os_nil H3)
  have e4:OSf (.slice none 0 0) []•OSf (.slice none 0 0) []•HsN x nm (S.setBk gd B')•OSf sF fs•OS 78 6 sw was.length (ordsC was)=HsN x nm (S.setBk gd B')•OSf (.slice none 0 0) []•OSf (.slice none 0 0) []•OSf sF fs•OS 78 6 sw was.length (ordsC was):=by ac_rfl
  rw[e4]at h4
  exact h4
 rintro m s' g ⟨i,sb,ss,rfl,rfl,hi,Hg,hI,hO,hlb,hls⟩
 by_cases hin:i<fs.length
 ·obtain⟨f,hf⟩:∃f,fs[i]?=some f:=⟨_,List.getElem?_eq_getElem hin⟩
  have hstep:(fs.take (i+1)).foldl (outF p was) ⟨S.L,[],[]⟩=outF p was ((fs.take i).foldl (outF p was) ⟨S.L,[],[]⟩) f:=by
   rw[List.take_add_one,hf,List.foldl_append];rfl
  generalize hti:(fs.take i).foldl (outF p was) ⟨S.L,[],[]⟩=ti at *
  have hff:=hfm f (List.mem_of_getElem? hf)
  have key:∀(kn:(Value×Value×Value×Value×Value×Value)->(Value×Value×Value)->PH->Prop) x0,
    (∀g2 sb2 ss2,(HsN x nm ((S.setBk gd B').setL (outF p was ti f).L)•OSf sb2 (outF p was ti f).bu•OSf ss2 (outF p was ti f).se•OSf sF fs•OS 78 6 sw was.length (ordsC was)) g2->kn (ptr x,.int .i64 gd,sw,.int .i64 p,sF,.int .i64 fs.length) (sb2,ss2,.int .i64 ((i:Int)+1)) g2) ->
    b103_4 (λc h=>R (.pan c) h) x0 (ptr x,.int .i64 gd,sw,.int .i64 p,sF,.int .i64 fs.length) kn (sb,ss,.int .i64 i) g:=by
   intro kn x0 hkn
   unfold b103_4
   have hlt:(i:Int)<(fs.length:Int):=by omega
   simp only[vBin_lss,hlt,decide_true,dIf_b]
   refine⟨λ_=>?_,λe=>absurd e (by simp)⟩
   have hFl:FilsAt g sF fs:=sep_l OS.mono (sep_r (mono_sep _ _) (sep_r (mono_sep _ _) (sep_r (mono_sep _ _) Hg)))
   refine fil_copy hFl hf λc hc=>?_
   have Hp:(pt c (.cells f.a 218 (0,0))•HsN x nm ((S.setBk gd B').setL ti.L)•OSf sb ti.bu•OSf ss ti.se•OSf sF fs•OS 78 6 sw was.length (ordsC was)) (ins g c (.cells f.a 218 (0,0))):=pt_new hc Hg
   revert Hp
   generalize ins g c (.cells f.a 218 (0,0))=G
   intro Hp
   have e5:pt c (.cells f.a 218 (0,0))•HsN x nm ((S.setBk gd B').setL ti.L)•OSf sb ti.bu•OSf ss ti.se•OSf sF fs•OS 78 6 sw was.length (ordsC was)=HsN x nm ((S.setBk gd B').setL ti.L)•OSf sb ti.bu•OSf ss ti.se•(pt c (.cells f.a 218 (0,0))•OSf sF fs•OS 78 6 sw was.length (ordsC was)):=by ac_rfl
   rw[e5]at Hp
   rw[hsw]
   simp only[vLenS_s]
   rw[<-hsw]
   refine told_ok (S:=S.setBk gd B') (was:=was) (sw:=sw) (f:=f) (c:=c) (p:=p) Hp (mono_sep _ _) (λg hg=>sep_r OS.mono (sep_r (mono_sep _ _) hg)) (λg hg=>pt_get hg) hI hlen ⟨by omega,by omega⟩ hff hright hp rfl rfl rfl rfl rfl λg3 sb3 ss3 H6=>?_
   intro r hr
   simp only[Prod.mk.injEq]at hr
   obtain⟨r0,r1,r4,r5,r8,r9,r35,r36,r37⟩:=hr
   simp only[r0,r1,r4,r5,r8,r9,r35,r36,r37,vBin_add]
   rw[w64 (by omega) (by omega)]
   refine hkn g3 sb3 ss3 ?_
   exact sep_mono H6 (λ_ h=>h) λ_ h=>sep_mono h (λ_ h=>h) λ_ h=>sep_mono h (λ_ h=>h) λ_ h=>sep_r (mono_sep _ _) h
  have hol:=outF_len p f was ti
  have hoi:=outF_inv (p:=p) (f:=f) (n:=S.L.n) (G:=S.L.goods) ⟨(hff f (by simp)).1,(hff f (by simp)).2.1⟩ was ti hI
  have hoo:=outF_ok (p:=p) hff was ti hO
  exact key _ _ λg2 sb2 ss2 H7=>⟨rfl,fs.length-(i+1),by omega,i+1,sb2,ss2,rfl,rfl,by omega,by rw[hstep];exact H7,by rw[hstep];exact hoi,by rw[hstep];exact hoo,by rw[hstep];show (was.foldl (inF p f) ti).bu.length<=_;omega,by rw[hstep];show (was.foldl (inF p f) ti).se.length<=_;omega⟩
 ·have e:i=fs.length:=by omega
  unfold b103_4
  have hge:¬(i:Int)<(fs.length:Int):=by omega
  simp only[vBin_lss,hge,decide_false,dIf_b]
  refine⟨λe=>absurd e (by simp),λ_=>?_⟩
  rw[e,List.take_length]at Hg hI hO
  intro r hr
  simp only[Prod.mk.injEq]at hr
  obtain⟨r0,r1,r5,r8,r9⟩:=hr
  simp only[r0,r1,r5,r8,r9]
  have Hm:(HsN x nm ((S.setBk gd B').setL (fs.foldl (outF p was) ⟨S.L,[],[]⟩).L)•FO sb (fs.foldl (outF p was) ⟨S.L,[],[]⟩).bu•FO ss (fs.foldl (outF p was) ⟨S.L,[],[]⟩).se•OSf sF fs•OS 78 6 sw was.length (ordsC was)) g:=
   sep_mono Hg (λ_ h=>h) λ_ h=>sep_mono h (λ_ h=>FO.of h) λ_ h=>sep_mono h (λ_ h=>FO.of h) λ_ h=>h
  refine match_ok (R:=R) (S:=(S.setBk gd B').setL (fs.foldl (outF p was) ⟨S.L,[],[]⟩).L) Hm hI.1 hp (by show FilsOk (fs.foldl (outF p was) ⟨S.L,[],[]⟩).L.n _;rw[hI.2.1];exact hO.1) (by show FilsOk (fs.foldl (outF p was) ⟨S.L,[],[]⟩).L.n _;rw[hI.2.1];exact hO.2) λg3 H8=>?_
  intro r2 hr2
  exact hR _ H8
end
end Go.Pw
set_option linter.unusedSimpArgs false
set_option linter.unusedVariables false
namespace Go.Pw
open Go Go.Proofs
def rdStep (held:Nat->Int) (t:Led×Auc) (i:Nat):Led×Auc:=
 let A2:=(bidA t.2 i (min (wantsA t.2 i).1 ((t.1.f i 0-t.1.f i 1+held i).tdiv t.2.price))).2
 (holdH t.1 i (needA A2 i-held i),A2)
def rdRun (held:Nat->Int) (t:Led×Auc):Nat->Led×Auc
 | 0=>t
 | k+1=>rdStep held (rdRun held t k) k
def slStep (gd:Int) (w:Nat) (p:Int) (held got:Nat->Int) (t:Led×Int) (i:Nat):Led×Int:=
 (holdH (tradeH t.1 w i gd p (got i)) i (p*got i-held i),t.2-got i)
def slRun (gd:Int) (w:Nat) (p:Int) (held got:Nat->Int) (t:Led×Int):Nat->Led×Int
 | 0=>t
 | k+1=>slStep gd w p held got (slRun gd w p held got t k) k
def roundH (S:Hs) (gd:Nat):Hs:=match S.au gd with
 | none=>S
 | some (A,w)=>
  let held:=λi:Nat=>needA A i
  if (nextA A).1=false then
   let r:=rdRun held (S.L,(nextA A).2.2) S.L.n
   (S.setAu gd (some (r.2,w))).setL r.1
  else
   let sl:=saleA (nextA A).2.2
   let r:=slRun gd w.toNat sl.1 held sl.2 (S.L,A.sup) S.L.n
   (S.setAu gd none).setL (lockH r.1 w.toNat gd (-r.2))
def tickRun (S:Hs):Nat->Hs
 | 0=>S
 | k+1=>roundH (clearH (tickRun S k) k) k
def tickH (S:Hs):Int×Int×Hs:=if S.now=9007199254740992 then (0,2,S)else
 let S2:=tickRun {S with now:=S.now+1} S.G
 (S2.now,0,S2)
section
variable {h g:PH} {R:AEnd->PH->Prop} {x:Nat} {nm:Nm} {S:Hs} {C:PH->Prop}
theorem held_ok {gd d hb n:Nat} {A:Auc} {w:Int} {F:Value×Value×Value×Value×Value} {x0:(Value×Value×Value×Value)->PH->Prop} (hgG:gd<S.G) (hau:S.au gd=some (A,w)) (hk:A.ok) (hn:n<=16)
  (H:(pt hb (rowO (λ_=>0) n)•HsN x nm S•pt d (.cells #[ptr (nm.aa gd),.int .i64 w] 98 (0,0))) h)
  (e3:F.2.2.1=ptr d) (e4:F.2.2.2.1 = .slice (some ⟨hb,0,none⟩) n n) (e5:F.2.2.2.2 = .int .i64 n)
  (hX:∀g,(pt hb (rowO (λi=>needA A i) n)•HsN x nm S•pt d (.cells #[ptr (nm.aa gd),.int .i64 w] 98 (0,0))) g->x0 (F.1,F.2.1,F.2.2.1,F.2.2.2.1) g) :
  lf (b104_4 (λc h=>R (.pan c) h) x0) F (.int .i64 0) h:=by
 refine lf_intro (λm s' g=>∃i:Nat,s' = .int .i64 i/\m=n-i/\i<=n/\(pt hb (rowO (upto (λi=>needA A i) (λ_=>0) i) n)•HsN x nm S•pt d (.cells #[ptr (nm.aa gd),.int .i64 w] 98 (0,0))) g) n
  ⟨0,rfl,rfl,by omega,by rw[upto_0];exact H⟩ ?_
 rintro m s' g ⟨i,rfl,rfl,hi,Hg⟩
 by_cases hin:i<n
 ·have key:∀(kn:(Value×Value×Value×Value×Value)->Value->PH->Prop),(∀g2,(pt hb (rowO (upto (λi=>needA A i) (λ_=>0) (i+1)) n)•HsN x nm S•pt d (.cells #[ptr (nm.aa gd),.int .i64 w] 98 (0,0))) g2->kn F (.int .i64 ((i:Int)+1)) g2) ->
    b104_4 (λc h=>R (.pan c) h) x0 F kn (.int .i64 i) g:=by
   intro kn hkn
   unfold b104_4
   rw[e3,e4,e5]
   have hlt:(i:Int)<(n:Int):=by omega
   simp only[vBin_lss,hlt,decide_true,dIf_b]
   refine⟨λ_=>?_,λe=>absurd e (by simp)⟩
   have hdd:=pt_get (sep_c (sep_r (mono_sep _ _) Hg))
   have hhb:=pt_get Hg
   have HG:=sep_l HsN.mono (sep_r (mono_sep _ _) Hg)
   rw[vLoad_n hdd (off:=0) (n:=2) (by show 0+2<=2;omega),show (#[ptr (nm.aa gd),.int .i64 w]:Array Value).extract 0 (0+2)=#[ptr (nm.aa gd),.int .i64 w]from rfl]
   refine h_need (HG.f.au gd (A,w) hgG hau) hk ?_
   simp only[AEnd.elim,vIxS_p]
   refine⟨by omega,by omega,?_⟩
   rw[show 0+(i:Int).toNat*1=i by omega,row_st hhb hin,upto_set (λi:Nat=>needA A i) (λ_=>0) i]
   simp only[vBin_add]
   rw[w64 (by omega) (by omega)]
   exact hkn _ (pt_put Hg)
  exact key _ λg2 H2=>⟨rfl,n-(i+1),by omega,i+1,rfl,rfl,by omega,H2⟩
 ·have e:i=n:=by omega
  subst e
  unfold b104_4
  rw[e5]
  simp only[vBin_lss,dIf_b]
  refine⟨λe=>absurd e (by simp),λ_=>?_⟩
  unfold rowO at Hg
  rw[upto_end]at Hg
  exact hX _ Hg
end
end Go.Pw
set_option linter.unusedSimpArgs false
set_option linter.unusedVariables false
namespace Go.Pw
open Go Go.Proofs
theorem bidA_ok {A:Auc} (hk:A.ok) (who n:Int):(bidA A who n).2.ok:=by
 unfold bidA
 split
 ·exact hk
 ·split
  ·exact hk
  ·split
   ·exact hk
   ·rename_i h0 h1 h2
    have hw:who.toNat<A.n:=by omega
    refine⟨hk.sup,hk.sta,hk.stp,hk.rnd,hk.top,hk.ste,hk.n,hk.was,λi hi=>?_,hk.one,λhr i hi=>?_,hk.more⟩
    ·show 0<=(if i=who.toNat then n else A.now i)/\(if i=who.toNat then n else A.now i)<=1048576
     split
     ·omega
     ·exact hk.now i hi
    ·show (if i=who.toNat then n else A.now i)<=A.was i
     split
     ·rename_i e
      subst e
      have:¬(1<A.rnd/\A.was who.toNat<n):=h2
      have hr':1<A.rnd:=hr
      omega
     ·exact hk.fall hr i hi
theorem bidA_keep (A:Auc) (who n:Int):(bidA A who n).2.ste=A.ste/\(bidA A who n).2.rnd=A.rnd/\(bidA A who n).2.n=A.n/\(bidA A who n).2.price=A.price:=by
 unfold bidA
 repeat' split
 all_goals exact⟨rfl,rfl,rfl,rfl⟩
section
variable {h g:PH} {R:AEnd->PH->Prop} {x:Nat} {nm:Nm} {S:Hs} {C:PH->Prop}
theorem goes_ok {gd d hb:Nat} {A:Auc} {w:Int} {held:Nat->Int} {F:Value×Value×Value×Value} {x2:Unit->PH->Prop} (hgG:gd<S.G) (hk:A.ok) (hAn:A.n=S.L.n) (hr:1<A.rnd) (hv:Inv S.L) (hheld:∀i,0<=held i/\held i<=1152921504606846976)
  (H:(HsN x nm (S.setAu gd (some (A,w)))•pt hb (rowO held S.L.n)•pt d (.cells #[ptr (nm.aa gd),.int .i64 w] 98 (0,0))) h)
  (e1:F.1=ptr x) (e2:F.2.1=ptr d) (e3:F.2.2.1 = .slice (some ⟨hb,0,none⟩) S.L.n S.L.n) (e4:F.2.2.2 = .int .i64 S.L.n)
  (hX:∀g,HsN x nm ((S.setAu gd (some ((rdRun held (S.L,A) S.L.n).2,w))).setL (rdRun held (S.L,A) S.L.n).1) g->x2 () g) :
  lf (b104_11 (λc h=>R (.pan c) h) x2) F (.int .i64 0) h:=by
 have hcl:=hv.cl
 refine lf_intro (λm s' g=>∃i:Nat,s' = .int .i64 i/\m=S.L.n-i/\i<=S.L.n/\(HsN x nm ((S.setAu gd (some ((rdRun held (S.L,A) i).2,w))).setL (rdRun held (S.L,A) i).1)•pt hb (rowO held S.L.n)•pt d (.cells #[ptr (nm.aa gd),.int .i64 w] 98 (0,0))) g /\
   Inv (rdRun held (S.L,A) i).1/\(rdRun held (S.L,A) i).1.n=S.L.n/\(rdRun held (S.L,A) i).1.goods=S.L.goods/\(rdRun held (S.L,A) i).2.ok/\(rdRun held (S.L,A) i).2.rnd=A.rnd/\(rdRun held (S.L,A) i).2.n=S.L.n) S.L.n
  ⟨0,rfl,rfl,by omega,H,hv,rfl,rfl,hk,rfl,hAn⟩ ?_
 rintro m s' g ⟨i,rfl,rfl,hi,Hg,hI,hIn,hIg,hAk,hAr,hAn2⟩
 by_cases hin:i<S.L.n
 ·have hstep:rdRun held (S.L,A) (i+1)=rdStep held (rdRun held (S.L,A) i) i:=rfl
  generalize rdRun held (S.L,A) i=t at *
  obtain⟨L,B⟩:=t
  simp only at Hg hI hIn hIg hAk hAr hAn2
  have hpos:1<=B.price:=by
   have h1:=hAk.sta
   have h2:=hAk.stp
   have h3:1*1<=(B.rnd-1)*B.stp:=Int.mul_le_mul (by omega) (by omega) (by omega) (by omega)
   unfold Auc.price
   omega
  have hG2:((S.setAu gd (some (B,w))).setL L).G=S.G:=by unfold Hs.G Hs.setL;rw[hIg]
  have hau:((S.setAu gd (some (B,w))).setL L).au gd=some (B,w):=by simp[Hs.setAu,Hs.setL]
  have key:∀(kn:(Value×Value×Value×Value)->Value->PH->Prop),(∀g2,(HsN x nm ((S.setAu gd (some ((rdStep held (L,B) i).2,w))).setL (rdStep held (L,B) i).1)•pt hb (rowO held S.L.n)•pt d (.cells #[ptr (nm.aa gd),.int .i64 w] 98 (0,0))) g2->kn F (.int .i64 ((i:Int)+1)) g2) ->
    b104_11 (λc h=>R (.pan c) h) x2 F kn (.int .i64 i) g:=by
   intro kn hkn
   unfold b104_11
   rw[e1,e2,e3,e4]
   have hlt:(i:Int)<(S.L.n:Int):=by omega
   simp only[vBin_lss,hlt,decide_true,dIf_b]
   refine⟨λ_=>?_,λe=>absurd e (by simp)⟩
   have facts:∀{g':PH} {S':Hs},(HsN x nm S'•pt hb (rowO held S.L.n)•pt d (.cells #[ptr (nm.aa gd),.int .i64 w] 98 (0,0))) g'->g' d=some (.cells #[ptr (nm.aa gd),.int .i64 w] 98 (0,0))/\RowAt g' hb held S.L.n/\HF g' x nm S':=λH'=>
    ⟨pt_get (sep_c (sep_r (mono_sep _ _) H')),pt_get (sep_r (mono_sep _ _) H'),(sep_l HsN.mono H').f⟩
   obtain⟨hdd,hrow,Fg⟩:=facts Hg
   have d0:=λK=>vLoad_1 (K:=K) hdd (show (#[ptr (nm.aa gd),.int .i64 w]:Array Value)[0]?=some (ptr (nm.aa gd))from rfl)
   have hA:AucAt g (nm.aa gd) (nm.ab gd) B:=Fg.au gd (B,w) (by rw[hG2];exact hgG) hau
   simp only[vFA_p,Nat.zero_add,d0]
   refine clock_wants hA ?_
   simp only[AEnd.elim,vExt_20,vExt_21,d0,vIxS_p]
   refine⟨by omega,by omega,?_⟩
   have hr0:∀K,vLoad none (.pointer (some ⟨hb,0+(i:Int).toNat*1,none⟩)) g K↔K (.int .i64 (held i)):=λK=>by
    rw[show 0+(i:Int).toNat*1=i by omega];exact row_ld hrow hin
   rw[hr0]
   refine h_free (L:=L) Fg.lx hI (by rw[hIn];exact hin) ?_
   have b0:=hI.small.num i 0 (by rw[hIn];exact hin) (by omega)
   have b1:=hI.small.num i 1 (by rw[hIn];exact hin) (by omega)
   have hh:=hheld i
   simp only[AEnd.elim,d0,hr0,true_and,vBin_add]
   rw[w64 (x:=L.f i 0-L.f i 1+held i) (by omega) (by omega)]
   refine clock_price hA hAk ?_
   simp only[AEnd.elim,d0,hr0,true_and]
   have hpb:=hAk.priceB
   have htd:-4611686018427387904<=(L.f i 0-L.f i 1+held i).tdiv B.price/\(L.f i 0-L.f i 1+held i).tdiv B.price<=4611686018427387904:=by
    have h1:=Int.natAbs_tdiv_le_natAbs (L.f i 0-L.f i 1+held i) B.price
    omega
   rw[vBin_quo _ _ _ _ (by omega),w64 (by omega) (by omega)]
   simp only[vMinMax_i,Bool.false_eq_true,if_false]
   have hmin:(if (L.f i 0-L.f i 1+held i).tdiv B.price<(wantsA B i).1 then (L.f i 0-L.f i 1+held i).tdiv B.price else (wantsA B i).1)=min (wantsA B i).1 ((L.f i 0-L.f i 1+held i).tdiv B.price):=by split <;> omega
   rw[hmin]
   refine clock_bid hA ?_
   simp only[AEnd.elim]
   have H2:=HsN.auc (S:=(S.setAu gd (some (B,w))).setL L) (B:=(bidA B i (min (wantsA B i).1 ((L.f i 0-L.f i 1+held i).tdiv B.price))).2) (by rw[hG2];exact hgG) hau Hg
   have hB2k:=bidA_ok hAk (i:Int) (min (wantsA B i).1 ((L.f i 0-L.f i 1+held i).tdiv B.price))
   generalize hB2:(bidA B i (min (wantsA B i).1 ((L.f i 0-L.f i 1+held i).tdiv B.price))).2=B2 at *
   revert H2
   generalize putAuc g (nm.aa gd) (nm.ab gd) B2=g2
   intro H2
   have eS:((S.setAu gd (some (B,w))).setL L).setAu gd (some (B2,w))=(S.setAu gd (some (B2,w))).setL L:=by
    unfold Hs.setAu Hs.setL
    simp only[Hs.mk.injEq,true_and]
    funext k
    split <;> simp_all
   rw[eS]at H2
   obtain⟨hdd2,hrow2,F2⟩:=facts H2
   have hau2:((S.setAu gd (some (B2,w))).setL L).au gd=some (B2,w):=by simp[Hs.setAu,Hs.setL]
   have hA2:AucAt g2 (nm.aa gd) (nm.ab gd) B2:=F2.au gd (B2,w) (by show gd<((S.setAu gd (some (B,w))).setL L).G;rw[hG2];exact hgG) hau2
   have hr2:∀K,vLoad none (.pointer (some ⟨hb,0+(i:Int).toNat*1,none⟩)) g2 K↔K (.int .i64 (held i)):=λK=>by
    rw[show 0+(i:Int).toNat*1=i by omega];exact row_ld hrow2 hin
   rw[vLoad_n hdd2 (off:=0) (n:=2) (by show 0+2<=2;omega),show (#[ptr (nm.aa gd),.int .i64 w]:Array Value).extract 0 (0+2)=#[ptr (nm.aa gd),.int .i64 w]from rfl]
   try simp only[vIxS_p]
   refine⟨by omega,by omega,?_⟩
   rw[hr2]
   refine h_need hA2 hB2k ?_
   have hnb:=needA_bd hB2k i
   simp only[AEnd.elim,hr2,true_and,vBin_sub]
   rw[w64 (by omega) (by omega)]
   refine h_hold (L:=L) F2.lx hI (by rw[hIn];exact hin) (by omega) ?_
   simp only[AEnd.elim,vBin_add]
   rw[w64 (by omega) (by omega)]
   have hgn:=holdH_gn L i (needA B2 i-held i)
   have H3:=HsN.led (L':=holdH L i (needA B2 i-held i)) H2 hgn.1 hgn.2
   refine hkn _ ?_
   unfold rdStep
   simp only
   rw[hB2]
   exact H3
  have hbk:=bidA_keep B (i:Int) (min (wantsA B i).1 ((L.f i 0-L.f i 1+held i).tdiv B.price))
  refine key _ λg2 H2=>⟨rfl,S.L.n-(i+1),by omega,i+1,rfl,rfl,by omega,by rw[hstep];exact H2,?_⟩
  rw[hstep]
  unfold rdStep
  simp only
  have hgn:=holdH_gn L i (needA (bidA B i (min (wantsA B i).1 ((L.f i 0-L.f i 1+held i).tdiv B.price))).2 i-held i)
  exact⟨inv_holdH hI (by rw[hIn];exact hin) _,by rw[hgn.2,hIn],by rw[hgn.1,hIg],bidA_ok hAk _ _,by rw[hbk.2.1,hAr],by rw[hbk.2.2.1,hAn2]⟩
 ·have e:i=S.L.n:=by omega
  unfold b104_11
  rw[e4]
  have hge:¬(i:Int)<(S.L.n:Int):=by omega
  simp only[vBin_lss,hge,decide_false,dIf_b]
  refine⟨λe=>absurd e (by simp),λ_=>?_⟩
  rw[e]at Hg
  exact hX _ (sep_l HsN.mono Hg)
end
end Go.Pw
set_option linter.unusedSimpArgs false
set_option linter.unusedVariables false
namespace Go.Pw
open Go Go.Proofs
section
variable {h g:PH} {R:AEnd->PH->Prop} {x:Nat} {nm:Nm} {S:Hs} {C:PH->Prop}
theorem sold_ok {gd d hb gb w:Nat} {pa:Value} {p:Int} {held got:Nat->Int} {sup:Int} {F:Value×Value×Value×Value×Value×Value×Value} {x4:(Value×Value×Value×Value)->PH->Prop} (hv:Inv S.L) (hw:w<S.L.n) (hp:0<=p/\p<=1099511627776) (hsup:0<=sup/\sup<=1048576)
  (hheld:∀i,0<=held i/\held i<=1152921504606846976) (hgot:∀i,i<S.L.n->0<=got i/\got i<=1048576)
  (H:(HsN x nm S•pt hb (rowO held S.L.n)•pt gb (rowO got S.L.n)•pt d (.cells #[pa,.int .i64 w] 98 (0,0))) h)
  (e1:F.1=ptr x) (e2:F.2.1 = .int .i64 gd) (e3:F.2.2.1=ptr d) (e4:F.2.2.2.1 = .slice (some ⟨hb,0,none⟩) S.L.n S.L.n) (e5:F.2.2.2.2.1 = .int .i64 p) (e6:F.2.2.2.2.2.1 = .slice (some ⟨gb,0,none⟩) S.L.n S.L.n) (e7:F.2.2.2.2.2.2 = .int .i64 S.L.n)
  (hX:∀g,(HsN x nm (S.setL (slRun gd w p held got (S.L,sup) S.L.n).1)•pt d (.cells #[pa,.int .i64 w] 98 (0,0))) g->Inv (slRun gd w p held got (S.L,sup) S.L.n).1->(slRun gd w p held got (S.L,sup) S.L.n).1.n=S.L.n->(slRun gd w p held got (S.L,sup) S.L.n).1.goods=S.L.goods ->
   -20000000<=(slRun gd w p held got (S.L,sup) S.L.n).2/\(slRun gd w p held got (S.L,sup) S.L.n).2<=1048576->x4 (ptr x,.int .i64 gd,ptr d,.int .i64 (slRun gd w p held got (S.L,sup) S.L.n).2) g) :
  lf (b104_20 (λc h=>R (.pan c) h) x4) F (.int .i64 sup,.int .i64 0) h:=by
 have hcl:=hv.cl
 refine lf_intro (λm s' g=>∃i:Nat,s'=(.int .i64 (slRun gd w p held got (S.L,sup) i).2,.int .i64 i)/\m=S.L.n-i/\i<=S.L.n/\(HsN x nm (S.setL (slRun gd w p held got (S.L,sup) i).1)•pt hb (rowO held S.L.n)•pt gb (rowO got S.L.n)•pt d (.cells #[pa,.int .i64 w] 98 (0,0))) g /\
   Inv (slRun gd w p held got (S.L,sup) i).1/\(slRun gd w p held got (S.L,sup) i).1.n=S.L.n/\(slRun gd w p held got (S.L,sup) i).1.goods=S.L.goods/\sup-1048576*i<=(slRun gd w p held got (S.L,sup) i).2/\(slRun gd w p held got (S.L,sup) i).2<=sup) S.L.n
  ⟨0,rfl,rfl,by omega,H,hv,rfl,rfl,by show sup-1048576*0<=sup;omega,Int.le_refl _⟩ ?_
 rintro m s' g ⟨i,rfl,rfl,hi,Hg,hI,hIn,hIg,hl1,hl2⟩
 by_cases hin:i<S.L.n
 ·have hstep:slRun gd w p held got (S.L,sup) (i+1)=slStep gd w p held got (slRun gd w p held got (S.L,sup) i) i:=rfl
  generalize slRun gd w p held got (S.L,sup) i=t at *
  obtain⟨L,left⟩:=t
  simp only at Hg hI hIn hIg hl1 hl2
  have hgi:=hgot i hin
  have hhi:=hheld i
  have hgn1:=tradeH_gn L w i gd p (got i)
  have hinv1:=inv_tradeH hI (s:=w) (b:=i) (by rw[hIn];exact hw) (by rw[hIn];exact hin) gd p (got i)
  have hgn2:=holdH_gn (tradeH L w i gd p (got i)) i (p*got i-held i)
  have key:∀(kn:(Value×Value×Value×Value×Value×Value×Value)->(Value×Value)->PH->Prop),(∀g2,(HsN x nm (S.setL (holdH (tradeH L w i gd p (got i)) i (p*got i-held i)))•pt hb (rowO held S.L.n)•pt gb (rowO got S.L.n)•pt d (.cells #[pa,.int .i64 w] 98 (0,0))) g2->kn F (.int .i64 (left-got i),.int .i64 ((i:Int)+1)) g2) ->
    b104_20 (λc h=>R (.pan c) h) x4 F kn (.int .i64 left,.int .i64 i) g:=by
   intro kn hkn
   unfold b104_20
   rw[e1,e2,e3,e4,e5,e6,e7]
   have hlt:(i:Int)<(S.L.n:Int):=by omega
   simp only[vBin_lss,hlt,decide_true,dIf_b,vIxS_p]
   refine⟨λ_=>⟨by omega,by omega,?_⟩,λe=>absurd e (by simp)⟩
   have hgb:RowAt g gb got S.L.n:=pt_get (sep_r (mono_sep _ _) (sep_r (mono_sep _ _) Hg))
   have hdd:g d=some (.cells #[pa,.int .i64 w] 98 (0,0)):=pt_get (sep_c (sep_r (mono_sep _ _) (sep_r (mono_sep _ _) Hg)))
   rw[show 0+(i:Int).toNat*1=i by omega,row_ld hgb hin]
   simp only[vFA_p]
   rw[vLoad_1 hdd (v:=.int .i64 w) rfl]
   refine h_trade (L:=L) ((sep_l HsN.mono Hg).f).lx hI (by rw[hIn];exact hw) (by rw[hIn];exact hin) hp hgi.2 ?_
   have H2:=HsN.led (L':=tradeH L w i gd p (got i)) Hg hgn1.1 hgn1.2
   have hhb:RowAt (putLed g nm.lb (tradeH L w i gd p (got i))) hb held S.L.n:=pt_get (sep_r (mono_sep _ _) H2)
   have hm:=mul_bd hp hgi
   simp only[AEnd.elim,vBin_mul]
   try simp only[vIxS_p]
   rw[w64 (x:=p*got i) (by omega) (by omega)]
   refine⟨by omega,by omega,?_⟩
   rw[row_ld hhb hin]
   simp only[vBin_sub]
   rw[w64 (x:=p*got i-held i) (by omega) (by omega)]
   refine h_hold (L:=tradeH L w i gd p (got i)) ((sep_l HsN.mono H2).f).lx hinv1 (by rw[hgn1.2,hIn];exact hin) (by omega) ?_
   have H3:=HsN.led (L':=holdH (tradeH L w i gd p (got i)) i (p*got i-held i)) H2 hgn2.1 hgn2.2
   simp only[AEnd.elim,vBin_add]
   rw[w64 (x:=left-got i) (by omega) (by omega),w64 (by omega) (by omega)]
   exact hkn _ H3
  refine key _ λg2 H2=>⟨rfl,S.L.n-(i+1),by omega,i+1,by rw[hstep];rfl,rfl,by omega,by rw[hstep];exact H2,?_⟩
  rw[hstep]
  unfold slStep
  simp only
  exact⟨inv_holdH hinv1 (by rw[hgn1.2,hIn];exact hin) _,by rw[hgn2.2,hgn1.2,hIn],by rw[hgn2.1,hgn1.1,hIg],by omega,by omega⟩
 ·have e:i=S.L.n:=by omega
  unfold b104_20
  rw[e1,e2,e3,e7]
  have hge:¬(i:Int)<(S.L.n:Int):=by omega
  simp only[vBin_lss,hge,decide_false,dIf_b]
  refine⟨λe=>absurd e (by simp),λ_=>?_⟩
  rw[e]at Hg hI hIn hIg hl1 hl2 ⊢
  refine hX g (sep_mono Hg (λ_ h=>h) λ_ h=>sep_r (mono_pt _ _) (sep_r (mono_sep _ _) h)) hI hIn hIg ⟨by omega,by omega⟩
end
end Go.Pw
set_option linter.unusedSimpArgs false
set_option linter.unusedVariables false
namespace Go.Pw
open Go Go.Proofs
theorem base_le {g:Nat->Int} {n sum:Int} {i:Nat} (hn:0<=n) (hg:0<=g i) (hs:n<=sum):base g n sum i<=g i:=by
 unfold base
 split
 ·rename_i hp
  rw[Int.tdiv_eq_ediv_of_nonneg (Int.mul_nonneg hn hg)]
  have h1:n*g i<=sum*g i:=Int.mul_le_mul_of_nonneg_right hs hg
  have h2:sum*g i/sum=g i:=Int.mul_ediv_cancel_left _ (by omega)
  have h3:=Int.ediv_le_ediv hp h1
  omega
 ·exact hg
theorem shareA_le {g:Nat->Int} {m:Int} {n i:Nat} (hm:0<=m) (hg:∀i,i<n->0<=g i) (hs:m<=sumN g n) (hi:i<n):shareA g m n i<=g i:=by
 have:=base_le (sum:=sumN g n) hm (hg i hi) hs
 unfold shareA
 simp only
 split <;> omega
theorem nextA_over {A:Auc} (h0:A.ste=0) (h:(nextA A).1=true):((nextA A).2.2.ste=2\/(nextA A).2.2.ste=1/\(nextA A).2.2.demand<=(nextA A).2.2.sup)/\(nextA A).2.2.n=A.n/\(nextA A).2.2.sup=A.sup:=by
 unfold nextA at h ⊢
 rw[if_neg (by simp[h0])]at h ⊢
 split at h
 ·rename_i h1
  rw[if_pos h1]
  exact⟨.inr ⟨rfl,h1⟩,rfl,rfl⟩
 ·rename_i h1
  split at h
  ·rename_i h2
   rw[if_neg h1,if_pos h2]
   exact⟨.inl rfl,rfl,rfl⟩
  ·cases h
theorem nextA_on {A:Auc} (h0:A.ste=0) (hr:1<=A.rnd) (h:(nextA A).1=false):(nextA A).2.2.ste=0/\(nextA A).2.2.n=A.n/\1<(nextA A).2.2.rnd:=by
 unfold nextA at h ⊢
 rw[if_neg (by simp[h0])]at h ⊢
 split at h
 ·cases h
 ·rename_i h1
  split at h
  ·cases h
  ·rename_i h2
   rw[if_neg h1,if_neg h2]
   exact⟨h0,rfl,by simp only;omega⟩
theorem nextA_ok {A:Auc} (hk:A.ok):(nextA A).2.2.ok:=by
 unfold nextA
 split
 ·exact hk
 ·split
  ·exact⟨hk.sup,hk.sta,hk.stp,hk.rnd,hk.top,⟨by simp,by simp⟩,hk.n,hk.was,hk.now,hk.one,hk.fall,hk.more⟩
  ·rename_i hd
   split
   ·exact⟨hk.sup,hk.sta,hk.stp,hk.rnd,hk.top,⟨by simp,by simp⟩,hk.n,hk.was,hk.now,hk.one,hk.fall,hk.more⟩
   ·rename_i hp
    have hr:=hk.rnd
    refine⟨hk.sup,hk.sta,hk.stp,by simp only;omega,?_,hk.ste,hk.n,λi hi=>?_,hk.now,λh=>by simp only at h;omega,λ_ i hi=>?_,λ_=>?_⟩
    ·have e:A.rnd*A.stp=(A.rnd-1)*A.stp+A.stp:=by rw[Int.sub_mul];omega
     unfold Auc.price at hp ⊢
     simp only
     rw[show A.rnd+1-1=A.rnd by omega,e]
     omega
    ·simp only;rw[if_pos hi];exact hk.now i hi
    ·simp only;rw[if_pos hi];exact Int.le_refl _
    ·simp only
     rw[sumN_congr (g':=A.now) A.n (λi hi=>if_pos hi)]
     unfold Auc.demand at hd
     omega
end Go.Pw
set_option linter.unusedSimpArgs false
set_option linter.unusedVariables false
namespace Go.Pw
open Go Go.Proofs
section
variable {h g:PH} {R:AEnd->PH->Prop} {x:Nat} {nm:Nm} {S:Hs} {C:PH->Prop}
theorem pt_grow {b:Nat} {o:Obj} (hb:h b=none) (hs:Sub h g) (hg:g b=some o) (hC:C h):(pt b o•C) g:=
 ⟨one b o,h,λx hx=>by
  by_cases e:x=b
  ·rw[e];exact hb
  ·exact absurd (by unfold one;rw[ins_ne _ _ e]) hx,one_sub hg,hs,ins_eq _ _ _,hC⟩
end
theorem saleA_bd {A:Auc} (hk:A.ok) (hs:A.ste=2\/A.ste=1/\A.demand<=A.sup):(0<=(saleA A).1/\(saleA A).1<=1099511627776)/\∀i,i<A.n->0<=(saleA A).2 i/\(saleA A).2 i<=1048576:=by
 have hp:=hk.priceB
 have hl:=last_bd hk
 unfold saleA
 split
 ·exact⟨by simp,λi _=>by simp⟩
 ·rename_i h2
  split
  ·exact⟨hp,hk.now⟩
  ·rename_i h3
   have hr:¬A.rnd=1:=λe=>h3 (.inl e)
   have hr2:1<A.rnd:=by have:=hk.rnd;omega
   have hd:A.demand<=A.sup:=by omega
   unfold Auc.last at hl
   rw[if_neg hr]at hl
   refine⟨hl,λi hi=>?_⟩
   have h1:=hk.now i hi
   have h4:=hk.was i hi
   have hf:=hk.fall hr2
   have hm:=hk.more hr2
   have hg:∀i,i<A.n->0<=A.was i-A.now i:=λi hi=>by have:=hf i hi;omega
   have hdb:=hk.sumB hk.now (Nat.le_refl _)
   unfold Auc.demand at hd ⊢
   have h5:=shareA_le (g:=λk=>A.was k-A.now k) (m:=A.sup-sumN A.now A.n) (n:=A.n) (by omega) hg (by rw[sumN_sub];omega) hi
   have h6:=shareA_bd (g:=λk=>A.was k-A.now k) (m:=A.sup-sumN A.now A.n) (n:=A.n) (i:=i) ⟨by omega,by have:=hk.sup;omega⟩ (λi hi=>by have:=hg i hi;have:=hk.was i hi;have:=hk.now i hi;omega) hi
   show 0<=A.now i+shareA (λk=>A.was k-A.now k) (A.sup-sumN A.now A.n) A.n i/\A.now i+shareA (λk=>A.was k-A.now k) (A.sup-sumN A.now A.n) A.n i<=1048576
   omega
end Go.Pw
set_option linter.unusedSimpArgs false
set_option linter.unusedVariables false
namespace Go.Pw
open Go Go.Proofs
section
variable {h g:PH} {R:AEnd->PH->Prop} {x:Nat} {nm:Nm} {S:Hs} {C:PH->Prop}
theorem h_round {gd:Nat} (H:HsN x nm S h) (hn:nm.ok S) (hk:S.ok) (hgG:gd<S.G) (hR:∀g,HsN x nm (roundH S gd) g->R (.ret (.tuple #[])) g) :
  ACalls Tryz.prog 104 #[ptr x,.int .i64 gd] h R:=by
 refine call104 ?_
 unfold sh104
 have hcl:=hk.cl
 have hn1:=hk.n1
 simp only[vNil_p,vFA_p,Nat.zero_add]
 refine H.f.sale hgG λd hd=>?_
 have H1:(HsN x nm S•pt d (.cells #[saleP nm S gd,.int .i64 (saleW S gd)] 98 (0,0))) (ins h d (.cells #[saleP nm S gd,.int .i64 (saleW S gd)] 98 (0,0))):=sep_c (pt_new hd H)
 revert H1
 generalize ins h d (.cells #[saleP nm S gd,.int .i64 (saleW S gd)] 98 (0,0))=G
 intro H1
 have hdd:=pt_get (sep_c H1)
 simp only[vFA_p,Nat.zero_add]
 unfold roundH at hR
 cases hau:S.au gd with
 | none=>
  rw[hau]at hR
  have hP:saleP nm S gd = .pointer none:=by unfold saleP;rw[hau]
  rw[vLoad_1 hdd (v:=.pointer none) (by rw[hP];rfl),vBin_nilp Tryz.underlying96,dIf_b]
  exact⟨λ_=>hR _ (sep_l HsN.mono H1),λe=>absurd e (by simp)⟩
 | some q=>
  obtain⟨A,w⟩:=q
  rw[hau]at hR
  simp only at hR
  obtain⟨hAk,hA0,hAn,hw0,hwn⟩:=hk.au gd A w hgG hau
  have hP:saleP nm S gd=ptr (nm.aa gd):=by unfold saleP;rw[hau]
  have hW:saleW S gd=w:=by unfold saleW;rw[hau]
  rw[hP,hW]at H1 hdd
  rw[vLoad_1 hdd (v:=ptr (nm.aa gd)) rfl,vBin_pnil Tryz.underlying96,dIf_b]
  refine⟨λe=>absurd e (by simp),λ_=>?_⟩
  have F1:=(sep_l HsN.mono H1).f
  rw[vLoad_1 F1.hx (show (hsHd nm S)[1]?=some (.int .i64 S.L.n)from rfl)]
  refine⟨_,_,_,_,rfl,rfl,by omega,by omega,by omega,by omega,λhb hhb=>?_⟩
  simp only[Int.toNat_natCast,row_zero,vLenS_s]
  have H2:(pt hb (rowO (λ_=>0) S.L.n)•HsN x nm S•pt d (.cells #[ptr (nm.aa gd),.int .i64 w] 98 (0,0))) (ins G hb (rowO (λ_=>0) S.L.n)):=pt_new hhb H1
  refine held_ok (F:=(_,_,_,_,_)) hgG hau hAk hcl H2 rfl rfl rfl λg3 H3=>?_
  intro r hr
  simp only[Prod.mk.injEq]at hr
  obtain⟨r0,r1,r4,r5⟩:=hr
  simp only[r0,r1,r4,r5,vFA_p,Nat.zero_add]
  have hdd3:=pt_get (sep_c (sep_r (mono_sep _ _) H3))
  rw[vLoad_1 hdd3 (v:=ptr (nm.aa gd)) rfl]
  have F3:=(sep_l HsN.mono (sep_r (mono_sep _ _) H3)).f
  refine clock_next (F3.au gd (A,w) hgG hau) hAk hA0 ?_
  simp only[AEnd.elim,vExt_20,vExt_21,vUn_not,dIf_b]
  have hok:=nextA_ok hAk
  have e3:pt hb (rowO (λi=>needA A i) S.L.n)•HsN x nm S•pt d (.cells #[ptr (nm.aa gd),.int .i64 w] 98 (0,0))=HsN x nm S•pt hb (rowO (λi=>needA A i) S.L.n)•pt d (.cells #[ptr (nm.aa gd),.int .i64 w] 98 (0,0)):=by ac_rfl
  rw[e3]at H3
  have H4:=HsN.auc (B:=(nextA A).2.2) hgG hau H3
  have hnb:∀i:Nat,0<=needA A i/\needA A i<=1152921504606846976:=λi=>needA_bd hAk i
  cases hov:(nextA A).1 with
  | false=>
   rw[hov]at hR
   simp only[if_true]at hR
   obtain⟨k0,k1,k2⟩:=nextA_on hA0 hAk.rnd hov
   refine⟨λ_=>?_,λe=>absurd e (by simp)⟩
   simp only[vLenS_s]
   refine goes_ok (F:=(_,_,_,_)) (A:=(nextA A).2.2) (w:=w) (held:=λi=>needA A i) hgG hok (by rw[k1,hAn]) k2 hk.led hnb H4 rfl rfl rfl rfl λg5 H5=>?_
   intro r2 hr2
   exact hR _ H5
  | true=>
   rw[hov]at hR
   simp only[Bool.true_eq_false,if_false]at hR
   obtain⟨k0,k1,k2⟩:=nextA_over hA0 hov
   refine⟨λe=>absurd e (by simp),λ_=>?_⟩
   revert H4
   generalize putAuc g3 (nm.aa gd) (nm.ab gd) (nextA A).2.2=g4
   intro H4
   generalize hN:(nextA A).2.2=N at *
   have F4:=(sep_l HsN.mono H4).f
   have hdd4:=pt_get (sep_c (sep_r (mono_sep _ _) H4))
   rw[vLoad_1 hdd4 (v:=ptr (nm.aa gd)) rfl]
   have hau4:(S.setAu gd (some (N,w))).au gd=some (N,w):=by simp[Hs.setAu]
   have hNn:N.n=S.L.n:=by rw[k1,hAn]
   have hsb:=saleA_bd hok k0
   refine clock_sale (F4.au gd (N,w) hgG hau4) hok k0 λgb g5 hgb hs5 hrow=>?_
   have H5:=pt_grow hgb hs5 hrow H4
   simp only[AEnd.elim,vExt_30,vExt_31,vExt_32]
   have F5:=(sep_l HsN.mono (sep_r (mono_sep _ _) H5)).f
   have hdd5:=hs5 _ _ hdd4
   rw[vLoad_1 hdd5 (v:=ptr (nm.aa gd)) rfl]
   refine clock_supply (F5.au gd (N,w) hgG hau4) ?_
   simp only[AEnd.elim,vLenS_s]
   rw[hNn]at H5 ⊢
   have e5:pt gb (.cells (row (saleA N).2 S.L.n) 3 (0,0))•HsN x nm (S.setAu gd (some (N,w)))•pt hb (rowO (λi=>needA A i) S.L.n)•pt d (.cells #[ptr (nm.aa gd),.int .i64 w] 98 (0,0)) =
     HsN x nm (S.setAu gd (some (N,w)))•pt hb (rowO (λi=>needA A i) S.L.n)•pt gb (rowO (saleA N).2 S.L.n)•pt d (.cells #[ptr (nm.aa gd),.int .i64 w] 98 (0,0)):=by ac_rfl
   rw[e5]at H5
   obtain⟨wn,hwn2⟩:∃wn:Nat,w=wn:=⟨w.toNat,by omega⟩
   subst hwn2
   have hsup:=hAk.sup
   refine sold_ok (S:=S.setAu gd (some (N,(wn:Int)))) (F:=(_,_,_,_,_,_,_)) (w:=wn) (pa:=ptr (nm.aa gd)) (held:=λi=>needA A i) (got:=(saleA N).2) (sup:=N.sup) (p:=(saleA N).1) hk.led (by show wn<S.L.n;omega) hsb.1 (by rw[k2];omega) hnb (λi hi=>hsb.2 i (by rw[hNn];exact hi)) H5 rfl rfl rfl rfl rfl rfl rfl λg6 H6 hI6 hn6 hg6 hl6=>?_
   intro r2 hr2
   simp only[Prod.mk.injEq]at hr2
   obtain⟨q0,q1,q4,q15⟩:=hr2
   simp only[q0,q1,q4,q15,vFA_p,Nat.zero_add]
   rw[Int.toNat_natCast]at hR
   have hRS:(slRun (gd:Int) wn (saleA N).1 (λi=>needA A i) (saleA N).2 ((S.setAu gd (some (N,(wn:Int)))).L,N.sup) (S.setAu gd (some (N,(wn:Int)))).L.n)=slRun (gd:Int) wn (saleA N).1 (λi=>needA A i) (saleA N).2 (S.L,A.sup) S.L.n:=by rw[k2];rfl
   rw[hRS]at H6 hI6 hn6 hg6 hl6 ⊢
   generalize slRun (gd:Int) wn (saleA N).1 (λi=>needA A i) (saleA N).2 (S.L,A.sup) S.L.n=t at *
   have hdd6:=pt_get (sep_c H6)
   rw[vLoad_1 hdd6 (v:=.int .i64 wn) rfl]
   simp only[vUn_neg]
   rw[w64 (by omega) (by omega),show (0:Int)-t.2 = -t.2 by omega]
   refine h_lock (L:=t.1) ((sep_l HsN.mono H6).f).lx hI6 (by rw[hn6];show wn<S.L.n;omega) (by omega) ?_
   simp only[AEnd.elim,vNil_p,vFA_p,Nat.zero_add]
   have hgn:=lockH_gn t.1 wn gd (-t.2)
   have H7:=HsN.led (L':=lockH t.1 wn gd (-t.2)) H6 hgn.1 hgn.2
   have F7:=(sep_l HsN.mono H7).f
   have eG:(((S.setAu gd (some (N,(wn:Int)))).setL t.1).setL (lockH t.1 wn gd (-t.2))).G=S.G:=by
    unfold Hs.G Hs.setL;simp only;rw[hgn.1,hg6];rfl
   rw[vLoad_1 F7.hx (v:=.slice (some ⟨nm.ss,0,none⟩) (((S.setAu gd (some (N,(wn:Int)))).setL t.1).setL (lockH t.1 wn gd (-t.2))).G (((S.setAu gd (some (N,(wn:Int)))).setL t.1).setL (lockH t.1 wn gd (-t.2))).G) rfl]
   refine⟨#[.pointer none,.int .i64 0],rfl,?_⟩
   refine (vIxS_p _ _ _ _ _ _ _).2 ⟨by omega,by rw[eG];omega,?_⟩
   rw[show 0+(gd:Int).toNat*2=gd*2 by omega]
   rw[vStore_p (n:=2) (v:=.agg #[.pointer none,.int .i64 0]) F7.hs rfl (by rw[saleC_size,eG];omega) (by rfl)]
   have H8:=HsN.close (i:=gd) (by rw[eG];exact hgG) H7
   have hset:=saleC_set (nm:=nm) (nm':=nm) (S:=((S.setAu gd (some (N,(wn:Int)))).setL t.1).setL (lockH t.1 wn gd (-t.2))) (S':=(((S.setAu gd (some (N,(wn:Int)))).setL t.1).setL (lockH t.1 wn gd (-t.2))).setAu gd none) (i:=gd) (by rw[eG];exact hgG) rfl
    (λk hk=>by unfold saleP Hs.setAu Hs.setL;simp[hk]) (λk hk=>by unfold saleW Hs.setAu Hs.setL;simp[hk])
   have hP8:saleP nm ((((S.setAu gd (some (N,(wn:Int)))).setL t.1).setL (lockH t.1 wn gd (-t.2))).setAu gd none) gd = .pointer none:=by unfold saleP Hs.setAu;simp
   have hW8:saleW ((((S.setAu gd (some (N,(wn:Int)))).setL t.1).setL (lockH t.1 wn gd (-t.2))).setAu gd none) gd=0:=by unfold saleW Hs.setAu;simp
   rw[hP8,hW8]at hset
   rw[show (Value.agg #[.pointer none,.int .i64 0]).cells.toList = [.pointer none,.int .i64 0]from rfl,hset]
   have eS:(((S.setAu gd (some (N,(wn:Int)))).setL t.1).setL (lockH t.1 wn gd (-t.2))).setAu gd none=(S.setAu gd none).setL (lockH t.1 wn gd (-t.2)):=by
    unfold Hs.setAu Hs.setL
    simp only[Hs.mk.injEq,true_and]
    funext k
    split <;> simp_all
   rw[eS]at H8 ⊢
   exact hR _ (sep_l HsN.mono H8)
end
end Go.Pw
set_option linter.unusedSimpArgs false
set_option linter.unusedVariables false
namespace Go.Pw
open Go Go.Proofs
def filled:List Fil->Int->Int
 | [],_=>0
 | f::fs,id=>(if f.id=id then f.am else 0)+filled fs id
theorem filled_app (id:Int):∀(a b:List Fil),filled (a++b) id=filled a id+filled b id
 | [],b=>by simp[filled]
 | f::a,b=>by simp only[List.cons_append,filled,filled_app id a b];omega
theorem filled_nn {id:Int}:∀{fs:List Fil},(∀f∈fs,0<=f.am)->0<=filled fs id
 | [],_=>by simp[filled]
 | f::fs,h=>by
  have h1:=filled_nn (id:=id) λx hx=>h x (List.mem_cons_of_mem f hx)
  have h2:=h f (by simp)
  simp only[filled]
  split <;> omega
def cutO (fs:List Fil) (o:Ord):Ord:={o with am:=o.am-filled fs o.id}
abbrev Ids (l:List Ord):Prop:=l.Pairwise λx y=>x.id≠y.id
theorem ids_at {l:List Ord} (h:Ids l) {j k:Nat} {p o:Ord} (hj:l[j]?=some p) (hk:l[k]?=some o) (ne:j≠k):p.id≠o.id:=by
 obtain⟨hj1,hj2⟩:=List.getElem?_eq_some_iff.1 hj
 obtain⟨hk1,hk2⟩:=List.getElem?_eq_some_iff.1 hk
 have hp:=List.pairwise_iff_getElem.1 h
 rcases Nat.lt_or_gt_of_ne ne with hl | hl
 ·have:=hp j k hj1 hk1 hl;rw[hj2,hk2]at this;exact this
 ·have:=hp k j hk1 hj1 hl;rw[hj2,hk2]at this;exact λe=>this e.symm
theorem ids_same {l:List Ord} (h:Ids l) {p o:Ord} (hp:p∈l) (ho:o∈l) (e:p.id=o.id):p=o:=by
 obtain⟨j,hj⟩:=List.mem_iff_getElem?.1 hp
 obtain⟨k,hk⟩:=List.mem_iff_getElem?.1 ho
 rcases Nat.decEq j k with ne | rfl
 ·exact absurd e (ids_at h hj hk ne)
 ·rw[hj]at hk;cases hk;rfl
theorem subF_map {l:List Ord} (h:Ids l) (f:Fil):subF l f=l.map (cutO [f]):=by
 unfold subF
 cases hi:idx l f.id with
 | none=>
  have hn:=idx_none hi
  have:l.map (cutO [f])=l.map id:=List.map_congr_left λo ho=>by
   have:=hn o ho
   simp[cutO,filled,Ne.symm this]
  rw[this,List.map_id]
 | some k=>
  obtain⟨hk,⟨o,ho,hoi⟩,_⟩:=idx_some hi
  simp only[ho]
  apply List.ext_getElem?
  intro j
  rw[List.getElem?_map]
  by_cases e:j=k
  ·subst e;rw[List.getElem?_set_self hk,ho];simp[cutO,filled,hoi]
  ·rw[List.getElem?_set_ne (Ne.symm e)]
   cases hj:l[j]? with
   | none=>rfl
   | some p=>
    have hne:p.id≠f.id:=by rw[<-hoi];exact ids_at h hj ho e
    simp[cutO,filled,Ne.symm hne]
theorem ids_cut {l:List Ord} (h:Ids l) (fs:List Fil):Ids (l.map (cutO fs)):=List.Pairwise.map _ (λ_ _ h=>h) h
theorem foldS_map:∀(fs:List Fil) {l:List Ord},Ids l->fs.foldl subF l=l.map (cutO fs)
 | [],l,h=>by
  have:l.map (cutO [])=l.map id:=List.map_congr_left λo _=>by simp[cutO,filled]
  rw[this,List.map_id];rfl
 | f::fs,l,h=>by
  rw[List.foldl_cons,subF_map h f,foldS_map fs (ids_cut h [f]),List.map_map]
  refine List.map_congr_left λo _=>?_
  simp only[Function.comp,cutO,filled,Int.add_zero]
  congr 1
  omega
theorem stF_out {s:Int×List Fil} {o:Ord} {id:Int} (h:o.id≠id):filled (stF s o).2 id=filled s.2 id:=by
 unfold stF
 split
 ·simp[filled_app,filled,h]
 ·rfl
theorem stF_in {s:Int×List Fil} {o:Ord} (h:0<=o.am):filled (stF s o).2 o.id<=filled s.2 o.id+o.am:=by
 unfold stF
 split
 ·simp only[filled_app,filled,if_true];omega
 ·omega
theorem foldF_out {id:Int}:∀(l:List Ord) (s:Int×List Fil),(∀o∈l,o.id≠id)->filled (l.foldl stF s).2 id=filled s.2 id
 | [],s,_=>rfl
 | o::l,s,h=>by rw[List.foldl_cons,foldF_out l _ λx hx=>h x (by simp[hx]),stF_out (h o (by simp))]
theorem foldF_in {o:Ord} (ha:0<=o.am):∀(l:List Ord) (s:Int×List Fil),Ids l->o∈l->filled (l.foldl stF s).2 o.id<=filled s.2 o.id+o.am
 | [],s,_,h=>by cases h
 | x::l,s,hI,h=>by
  have hp:=List.pairwise_cons.1 hI
  rw[List.foldl_cons]
  rcases List.mem_cons.1 h with rfl | h
  ·rw[foldF_out l _ λy hy=>(hp.1 y hy).symm]
   exact stF_in ha
  ·have:=foldF_in ha l (stF s x) hp.2 h
   rw[stF_out (hp.1 o h)]at this
   exact this
theorem ids_side {l:List Ord} (h:Ids l) (b:Bool) (p:Int):Ids (isort (sideO l b p)):=by
 have h1:Ids (sideO l b p):=List.Pairwise.filter _ (List.Pairwise.filter _ h)
 exact ((isort_perm _).pairwise_iff (λh=>Ne.symm h)).2 h1
theorem sideI_mem {l:List Ord} {b:Bool} {p:Int} {o:Ord} (ho:o∈isort (sideO l b p)):o∈l/\rightO o=true/\o.buys=b:=by
 have h1:=(isort_perm _).mem_iff.1 ho
 have h2:=List.mem_filter.1 h1
 have h3:=List.mem_filter.1 h2.1
 have h4:=h2.2
 unfold onSide at h4
 simp only[decide_eq_true_eq]at h4
 exact⟨h3.1,h3.2,h4.1⟩
theorem fillsO_in {l:List Ord} (h:Ids l) (hr:∀o∈l,rightO o=true) {p n:Int} {o:Ord} (ho:o∈l):0<=filled (fillsO l p n) o.id/\filled (fillsO l p n) o.id<=o.am:=by
 refine⟨filled_nn λf hf=>by obtain⟨_,_,_,_,_,h5,_⟩:=fillsO_mem hf;omega,?_⟩
 have hra:=rightO_iff.1 (hr o ho)
 have other:∀b,b≠o.buys->∀x∈isort (sideO l b p),x.id≠o.id:=λb hb x hx e=>by
  obtain⟨h1,_,h3⟩:=sideI_mem hx
  have:=ids_same h h1 ho e
  subst this
  exact hb h3.symm
 have own:∀b (out:List Fil),filled (runF (isort (sideO l b p)) n out) o.id<=filled out o.id+o.am:=λb out=>by
  unfold runF
  by_cases hm:o∈isort (sideO l b p)
  ·exact foldF_in (by omega) _ _ (ids_side h b p) hm
  ·rw[foldF_out _ _ λx hx e=>hm (by
    have h1:=sideI_mem hx
    have:=ids_same h h1.1 ho e
    subst this;exact hx)]
   simp only;omega
 unfold fillsO
 cases hb:o.buys with
 | true=>
  have h1:filled (runF (isort (sideO l false p)) n (runF (isort (sideO l true p)) n [])) o.id=filled (runF (isort (sideO l true p)) n []) o.id:=foldF_out _ _ (other false (by rw[hb];decide))
  have h2:=own true []
  rw[h1]
  simpa [filled]using h2
 | false=>
  have h1:filled (runF (isort (sideO l true p)) n []) o.id=filled [] o.id:=foldF_out _ _ (other true (by rw[hb];decide))
  have h2:=own false (runF (isort (sideO l true p)) n [])
  rw[h1]at h2
  simpa [filled]using h2
def leftO (B:Bk):List Ord:=(B.l.map (cutO (clearO B).fs)).filter λo=>!decide (o.am=0)
theorem clearO_l {B:Bk} (hk:B.ok):(clearO B).B = {next:=B.next,l:=leftO B}:=by
 show ({B with l:=((clearO B).fs.foldl subF B.l).filter λo=>!decide (o.am=0)}:Bk)=_
 rw[foldS_map _ hk.ids];rfl
theorem leftO_mem {B:Bk} (hk:B.ok) {o:Ord} (ho:o∈leftO B):∃x∈B.l,o=cutO (clearO B).fs x/\1<=o.am/\o.am<=x.am:=by
 obtain⟨h1,h2⟩:=List.mem_filter.1 ho
 obtain⟨x,hx,rfl⟩:=List.mem_map.1 h1
 have h3:=fillsO_in hk.ids hk.right (p:=(clearO B).p) (n:=(clearO B).n) hx
 have h4:(clearO B).fs=fillsO B.l (clearO B).p (clearO B).n:=rfl
 refine⟨x,hx,rfl,?_⟩
 simp only[Bool.not_eq_true',decide_eq_false_iff_not]at h2
 unfold cutO at h2 ⊢
 rw[h4]at h2 ⊢
 simp only at h2 ⊢
 omega
theorem clearO_ok {B:Bk} (hk:B.ok):(clearO B).B.ok:=by
 rw[clearO_l hk]
 refine⟨λo ho=>?_,?_,?_,λo ho=>?_,?_,hk.nx⟩
 ·obtain⟨x,hx,rfl,h1,h2⟩:=leftO_mem hk ho
  have:=rightO_iff.1 (hk.right x hx)
  refine rightO_iff.2 ⟨this.1,this.2.1,this.2.2.1,this.2.2.2.1,this.2.2.2.2.1,this.2.2.2.2.2.1,h1,by omega⟩
 ·exact List.Pairwise.filter _ (ids_cut hk.ids _)
 ·exact List.Pairwise.filter _ (List.Pairwise.map _ (λ_ _ h=>h) hk.pls)
 ·obtain⟨x,hx,rfl,_⟩:=leftO_mem hk ho
  exact hk.pl x hx
 ·have h1:=List.length_filter_le (λo=>!decide (o.am=0)) (B.l.map (cutO (clearO B).fs))
  rw[List.length_map]at h1
  have h2:=hk.len
  show (leftO B).length<=64
  unfold leftO
  omega
theorem matchF_inv {gd p:Int} {n:Nat} {G:Int}:∀(k:Nat) (L:Led) (bu se:List Fil),Inv L/\L.n=n/\L.goods=G->FilsOk n bu->FilsOk n se->Inv (matchF gd p k L bu se)/\(matchF gd p k L bu se).n=n/\(matchF gd p k L bu se).goods=G
 | 0,L,bu,se,h,_,_=>by cases bu <;> cases se <;> exact h
 | k+1,L,[],se,h,_,_=>by rw[matchF_nil];exact h
 | k+1,L,b::bs,[],h,_,_=>by rw[matchF_nil2];exact h
 | k+1,L,b::bs,s::ss,h,hb,hs=>by
  have h1:=hb b (by simp)
  have h2:=hs s (by simp)
  have hm1:0<min b.am s.am/\min b.am s.am<=b.am:=by omega
  have hm2:0<min b.am s.am/\min b.am s.am<=s.am:=by omega
  have hgn:=tradeH_gn L s.own.toNat b.own.toNat gd p (min b.am s.am)
  show Inv (matchF gd p k _ _ _)/\_
  exact matchF_inv k _ _ _ ⟨inv_tradeH h.1 (by rw[h.2.1];omega) (by rw[h.2.1];omega) _ _ _,by rw[hgn.2];exact h.2.1,by rw[hgn.1];exact h.2.2⟩ (hb.next hm1) (hs.next hm2)
theorem clearO_fs {S:Hs} (hk:S.ok) {gd:Nat} (hgG:gd<S.G):∀f∈(clearO (S.bk gd)).fs,FilsOk S.L.n [f]:=λf hf x hx=>by
 obtain⟨o,ho,h1,h2,h3,h4,h5⟩:=fillsO_mem (l:=(S.bk gd).l) hf
 have h6:=rightO_iff.1 h1
 have h7:=hk.own gd hgG o ho
 simp at hx
 rw[hx]
 omega
theorem splH_inv {S:Hs} (hk:S.ok) {gd:Nat} (hgG:gd<S.G):(Inv (splH S gd).L/\(splH S gd).L.n=S.L.n/\(splH S gd).L.goods=S.L.goods)/\FilsOk S.L.n (splH S gd).bu/\FilsOk S.L.n (splH S gd).se:=by
 have go:∀(fs:List Fil) (t:Spl),(∀f∈fs,FilsOk S.L.n [f])->((Inv t.L/\t.L.n=S.L.n/\t.L.goods=S.L.goods)/\FilsOk S.L.n t.bu/\FilsOk S.L.n t.se) ->
   ((Inv (fs.foldl (outF (clearO (S.bk gd)).p (S.bk gd).l) t).L/\(fs.foldl (outF (clearO (S.bk gd)).p (S.bk gd).l) t).L.n=S.L.n/\(fs.foldl (outF (clearO (S.bk gd)).p (S.bk gd).l) t).L.goods=S.L.goods) /\
    FilsOk S.L.n (fs.foldl (outF (clearO (S.bk gd)).p (S.bk gd).l) t).bu/\FilsOk S.L.n (fs.foldl (outF (clearO (S.bk gd)).p (S.bk gd).l) t).se):=λfs=>by
  induction fs with
  | nil=>intro t _ h;exact h
  | cons f fs ih=>
   intro t hf h
   have ff:=hf f (by simp)
   have f1:=ff f (by simp)
   exact ih _ (λx hx=>hf x (by simp[hx])) ⟨outF_inv ⟨f1.1,f1.2.1⟩ _ _ h.1,outF_ok ff _ _ h.2⟩
 exact go _ _ (clearO_fs hk hgG) ⟨⟨hk.led,rfl,rfl⟩,λf hf=>(by cases hf),λf hf=>(by cases hf)⟩
theorem clearH_gn {S:Hs} (hk:S.ok) {gd:Nat} (hgG:gd<S.G):Inv (clearH S gd).L/\(clearH S gd).L.n=S.L.n/\(clearH S gd).L.goods=S.L.goods:=by
 have h:=splH_inv hk hgG
 exact matchF_inv _ _ _ _ h.1 h.2.1 h.2.2
theorem clearH_ok {S:Hs} (hk:S.ok) {gd:Nat} (hgG:gd<S.G):(clearH S gd).ok:=by
 obtain⟨h1,h2,h3⟩:=clearH_gn hk hgG
 have eG:(clearH S gd).G=S.G:=by unfold Hs.G;rw[h3]
 have hb:∀i,(clearH S gd).bk i=if i=gd then (clearO (S.bk gd)).B else S.bk i:=λi=>rfl
 refine⟨h1,by rw[h2];exact hk.n1,λi hi=>?_,λi hi o ho=>?_,λi A w hi ha=>?_,hk.now⟩
 ·rw[eG]at hi
  rw[hb]
  split
  ·exact clearO_ok (hk.bk gd hgG)
  ·exact hk.bk i hi
 ·rw[eG]at hi
  rw[h2]
  rw[hb]at ho
  split at ho
  ·rw[clearO_l (hk.bk gd hgG)]at ho
   obtain⟨x,hx,rfl,_⟩:=leftO_mem (hk.bk gd hgG) ho
   exact hk.own gd hgG x hx
  ·exact hk.own i hi o ho
 ·rw[eG]at hi
  rw[h2]
  exact hk.au i A w hi ha
end Go.Pw
set_option linter.unusedSimpArgs false
set_option linter.unusedVariables false
namespace Go.Pw
open Go Go.Proofs
theorem rdRun_ok {L:Led} {A:Auc} (hv:Inv L) (hk:A.ok) (held:Nat->Int):∀k,k<=L.n->Inv (rdRun held (L,A) k).1/\(rdRun held (L,A) k).1.n=L.n/\(rdRun held (L,A) k).1.goods=L.goods/\(rdRun held (L,A) k).2.ok/\(rdRun held (L,A) k).2.ste=A.ste/\(rdRun held (L,A) k).2.n=A.n
 | 0,_=>⟨hv,rfl,rfl,hk,rfl,rfl⟩
 | k+1,hle=>by
  obtain⟨h1,h2,h3,h4,h5,h6⟩:=rdRun_ok hv hk held k (by omega)
  show Inv (rdStep held (rdRun held (L,A) k) k).1/\(rdStep held (rdRun held (L,A) k) k).1.n=L.n/\(rdStep held (rdRun held (L,A) k) k).1.goods=L.goods/\(rdStep held (rdRun held (L,A) k) k).2.ok/\(rdStep held (rdRun held (L,A) k) k).2.ste=A.ste/\(rdStep held (rdRun held (L,A) k) k).2.n=A.n
  generalize rdRun held (L,A) k=t at *
  unfold rdStep
  simp only
  have hgn:=λn=>holdH_gn t.1 k n
  have hbk:=λn=>bidA_keep t.2 (k:Int) n
  exact⟨inv_holdH h1 (by rw[h2];omega) _,by rw[(hgn _).2,h2],by rw[(hgn _).1,h3],bidA_ok h4 _ _,by rw[(hbk _).1,h5],by rw[(hbk _).2.2.1,h6]⟩
theorem slRun_ok {L:Led} (hv:Inv L) (gd:Int) {w:Nat} (hw:w<L.n) (p:Int) (held got:Nat->Int) (sup:Int):∀k,k<=L.n->Inv (slRun gd w p held got (L,sup) k).1/\(slRun gd w p held got (L,sup) k).1.n=L.n/\(slRun gd w p held got (L,sup) k).1.goods=L.goods
 | 0,_=>⟨hv,rfl,rfl⟩
 | k+1,hle=>by
  obtain⟨h1,h2,h3⟩:=slRun_ok hv gd hw p held got sup k (by omega)
  show Inv (slStep gd w p held got (slRun gd w p held got (L,sup) k) k).1/\(slStep gd w p held got (slRun gd w p held got (L,sup) k) k).1.n=L.n/\(slStep gd w p held got (slRun gd w p held got (L,sup) k) k).1.goods=L.goods
  generalize slRun gd w p held got (L,sup) k=t at *
  unfold slStep
  simp only
  have g1:=tradeH_gn t.1 w k gd p (got k)
  have g2:=holdH_gn (tradeH t.1 w k gd p (got k)) k (p*got k-held k)
  exact⟨inv_holdH (inv_tradeH h1 (by rw[h2];exact hw) (by rw[h2];omega) _ _ _) (by rw[g1.2,h2];omega) _,by rw[g2.2,g1.2,h2],by rw[g2.1,g1.1,h3]⟩
theorem roundH_ok {S:Hs} (hk:S.ok) {gd:Nat} (hgG:gd<S.G):(roundH S gd).ok/\(roundH S gd).L.n=S.L.n/\(roundH S gd).L.goods=S.L.goods/\(roundH S gd).now=S.now:=by
 unfold roundH
 cases hau:S.au gd with
 | none=>exact⟨hk,rfl,rfl,rfl⟩
 | some q=>
  obtain⟨A,w⟩:=q
  simp only
  obtain⟨hAk,hA0,hAn,hw0,hwn⟩:=hk.au gd A w hgG hau
  have hok:=nextA_ok hAk
  cases hov:(nextA A).1 with
  | false=>
   obtain⟨k0,k1,k2⟩:=nextA_on hA0 hAk.rnd hov
   simp only[if_true]
   obtain⟨r1,r2,r3,r4,r5,r6⟩:=rdRun_ok hk.led hok (λi=>needA A i) S.L.n (Nat.le_refl _)
   generalize rdRun (λi=>needA A i) (S.L,(nextA A).2.2) S.L.n=t at *
   have eG:((S.setAu gd (some (t.2,w))).setL t.1).G=S.G:=by unfold Hs.G Hs.setL;simp only;rw[r3]
   refine⟨⟨r1,by show 1<=t.1.n;rw[r2];exact hk.n1,λi hi=>hk.bk i (by rw[eG]at hi;exact hi),λi hi o ho=>?_,λi A' w' hi ha=>?_,hk.now⟩,r2,r3,rfl⟩
   ·show o.own<t.1.n;rw[r2];exact hk.own i (by rw[eG]at hi;exact hi) o ho
   ·rw[eG]at hi
    have ha2:(if i=gd then some (t.2,w)else S.au i)=some (A',w'):=ha
    show A'.ok/\A'.ste=0/\A'.n=t.1.n/\0<=w'/\w'<t.1.n
    rw[r2]
    split at ha2
    ·cases ha2
     exact⟨r4,by rw[r5,k0],by rw[r6,k1,hAn],hw0,hwn⟩
    ·exact hk.au i A' w' hi ha2
  | true=>
   simp only[Bool.true_eq_false,if_false]
   obtain⟨r1,r2,r3⟩:=slRun_ok hk.led gd (w:=w.toNat) (by omega) (saleA (nextA A).2.2).1 (λi=>needA A i) (saleA (nextA A).2.2).2 A.sup S.L.n (Nat.le_refl _)
   generalize slRun (gd:Int) w.toNat (saleA (nextA A).2.2).1 (λi=>needA A i) (saleA (nextA A).2.2).2 (S.L,A.sup) S.L.n=t at *
   have g1:=lockH_gn t.1 w.toNat gd (-t.2)
   have eG:((S.setAu gd none).setL (lockH t.1 w.toNat gd (-t.2))).G=S.G:=by unfold Hs.G Hs.setL;simp only;rw[g1.1,r3]
   refine⟨⟨inv_lockH r1 (by rw[r2];omega) _ _,by show 1<=(lockH t.1 w.toNat gd (-t.2)).n;rw[g1.2,r2];exact hk.n1,λi hi=>hk.bk i (by rw[eG]at hi;exact hi),λi hi o ho=>?_,λi A' w' hi ha=>?_,hk.now⟩,by show (lockH t.1 w.toNat gd (-t.2)).n=_;rw[g1.2,r2],by show (lockH t.1 w.toNat gd (-t.2)).goods=_;rw[g1.1,r3],rfl⟩
   ·show o.own<(lockH t.1 w.toNat gd (-t.2)).n;rw[g1.2,r2];exact hk.own i (by rw[eG]at hi;exact hi) o ho
   ·rw[eG]at hi
    have ha2:(if i=gd then none else S.au i)=some (A',w'):=ha
    show A'.ok/\A'.ste=0/\A'.n=(lockH t.1 w.toNat gd (-t.2)).n/\0<=w'/\w'<(lockH t.1 w.toNat gd (-t.2)).n
    rw[g1.2,r2]
    split at ha2
    ·cases ha2
    ·exact hk.au i A' w' hi ha2
theorem tickRun_ok {S:Hs} (hk:S.ok):∀k,k<=S.G->(tickRun S k).ok/\(tickRun S k).L.n=S.L.n/\(tickRun S k).L.goods=S.L.goods/\(tickRun S k).now=S.now
 | 0,_=>⟨hk,rfl,rfl,rfl⟩
 | k+1,hle=>by
  obtain⟨h1,h2,h3,h4⟩:=tickRun_ok hk k (by omega)
  have eG:(tickRun S k).G=S.G:=by unfold Hs.G;rw[h3]
  obtain⟨c1,c2,c3⟩:=clearH_gn h1 (gd:=k) (by rw[eG];omega)
  have ck:=clearH_ok h1 (gd:=k) (by rw[eG];omega)
  have eG2:(clearH (tickRun S k) k).G=S.G:=by unfold Hs.G;rw[c3,h3]
  obtain⟨r1,r2,r3,r4⟩:=roundH_ok ck (gd:=k) (by rw[eG2];omega)
  exact⟨r1,by rw[<-h2,<-c2];exact r2,by rw[<-h3,<-c3];exact r3,by rw[<-h4];exact r4⟩
def Hs.setNow (S:Hs) (v:Int):Hs:={S with now:=v}
theorem setNow_ok {S:Hs} (hk:S.ok) {v:Int} (hv:0<=v/\v<=9007199254740992):(S.setNow v).ok:=⟨hk.led,hk.n1,hk.bk,hk.own,hk.au,hv⟩
theorem tickH_ok {S:Hs} (hk:S.ok):(tickH S).2.2.ok/\(tickH S).2.2.L.n=S.L.n/\(tickH S).2.2.L.goods=S.L.goods/\0<=(tickH S).1/\(tickH S).1<=9007199254740992/\((tickH S).2.1=0\/(tickH S).2.1=2):=by
 unfold tickH
 have hn:=hk.now
 split
 ·exact⟨hk,rfl,rfl,by simp,by simp,by simp⟩
 ·have h1:=tickRun_ok (S:=S.setNow (S.now+1)) (setNow_ok hk (by omega)) S.G (Nat.le_refl _)
  obtain⟨a,b,c,d⟩:=h1
  have e:(S.setNow (S.now+1)).now=S.now+1:=rfl
  rw[e]at d
  have d2:(tickRun {S with now:=S.now+1} S.G).now=S.now+1:=d
  refine⟨a,b,c,?_,?_,.inl rfl⟩
  ·show 0<=(tickRun {S with now:=S.now+1} S.G).now;rw[d2];omega
  ·show (tickRun {S with now:=S.now+1} S.G).now<=_;rw[d2];omega
section
variable {h g:PH} {R:AEnd->PH->Prop} {x:Nat} {nm:Nm} {S:Hs} {C:PH->Prop}
theorem HsN.now (H:(HsN x nm S•C) h) (v:Int):(HsN x nm (S.setNow v)•C) (ins h x (hsO nm (S.setNow v))):=by
 unfold HsN at H ⊢
 rw[sep_assoc]at H ⊢
 have e1:saO nm (S.setNow v)=saO nm S:=rfl
 have e2:bkP nm (S.setNow v)=bkP nm S:=rfl
 have e3:auP nm (S.setNow v)=auP nm S:=rfl
 have e4:(S.setNow v).G=S.G:=rfl
 have e5:(S.setNow v).L=S.L:=rfl
 rw[e1,e2,e3,e4,e5]
 exact pt_put H
theorem Nm.ok.to {S':Hs} (hn:nm.ok S) (e:S'.L.goods=S.L.goods):nm.ok S':=by
 have eG:S'.G=S.G:=by unfold Hs.G;rw[e]
 exact⟨λi hi=>hn.cb i (by rw[eG]at hi;exact hi),by rw[eG];exact hn.cap⟩
theorem h_tick {who:Value} {o:OpV} (H:HsN x nm S h) (hn:nm.ok S) (hk:S.ok) (hR:∀g,HsN x nm (tickH S).2.2 g->R (.ret (.tuple #[.int .i64 (tickH S).1,.int .i64 (tickH S).2.1])) g) :
  ACalls Tryz.prog 63 #[ptr x,who,o.v] h R:=by
 refine call63 ?_
 unfold sh63
 rw[show Value.cells o.v=o.a from rfl]
 refine vNew_i λc hc=>?_
 have Hc:(HsN x nm S•pt c (.cells o.a 25 (0,0))) (ins h c (.cells o.a 25 (0,0))):=sep_c (pt_new hc H)
 revert Hc
 generalize ins h c (.cells o.a 25 (0,0))=G
 intro Hc
 have HG:=sep_l HsN.mono Hc
 have F:=HG.f
 have hg:=hk.g
 unfold tickH at hR
 simp only[vNil_p,vFA_p,Nat.zero_add]
 rw[vLoad_1 F.hx (show (hsHd nm S)[3]?=some (.int .i64 S.now)from rfl),vBin_eql,dIf_b]
 by_cases hm:S.now=9007199254740992
 ·rw[if_pos hm]at hR
  simp only[hm,decide_true]
  exact⟨λ_=>hR _ HG,λe=>absurd e (by simp)⟩
 ·rw[if_neg hm]at hR
  simp only[hm,decide_false]
  refine⟨λe=>absurd e (by simp),λ_=>?_⟩
  have hnow:=hk.now
  rw[vLoad_1 F.hx (show (hsHd nm S)[3]?=some (.int .i64 S.now)from rfl),vBin_add,w64 (by omega) (by omega)]
  rw[vStore_1 F.hx (by show 3<6;omega) rfl]
  have H2:=HsN.now Hc (S.now+1)
  have e1:(Obj.cells ((hsHd nm S).setIfInBounds 3 (.int .i64 (S.now+1))) 85 (0,0))=hsO nm (S.setNow (S.now+1)):=rfl
  rw[e1]
  have h1k:=setNow_ok hk (v:=S.now+1) (by omega)
  have hn1:nm.ok (S.setNow (S.now+1)):=hn.to rfl
  have hRe:tickRun {S with now:=S.now+1} S.G=tickRun (S.setNow (S.now+1)) S.G:=rfl
  simp only[hRe]at hR
  have hgS:(S.setNow (S.now+1)).L.goods=S.L.goods:=rfl
  have hGS:(S.setNow (S.now+1)).G=S.G:=rfl
  generalize S.setNow (S.now+1)=T at *
  have F2:=(sep_l HsN.mono H2).f
  rw[vLoad_1 F2.hx (show (hsHd nm T)[2]?=some (.int .i64 T.L.goods)from rfl)]
  rw[hgS,hg.1]
  refine lf_intro (λm s' g=>∃i:Nat,s' = .int .i64 i/\m=S.G-i/\i<=S.G/\HsN x nm (tickRun T i) g) S.G ⟨0,rfl,rfl,by omega,sep_l HsN.mono H2⟩ ?_
  rintro m s' g ⟨i,rfl,rfl,hi,Hg⟩
  by_cases hin:i<S.G
  ·obtain⟨t1,t2,t3,t4⟩:=tickRun_ok h1k i (by rw[hGS];omega)
   have eG:(tickRun T i).G=S.G:=by rw[<-hGS];unfold Hs.G;rw[t3]
   have hstep:tickRun T (i+1)=roundH (clearH (tickRun T i) i) i:=rfl
   have hn2:nm.ok (tickRun T i):=hn1.to t3
   generalize tickRun T i=U at *
   have key:∀(kn:(Value×Value)->Value->PH->Prop) x0,(∀g2,HsN x nm (roundH (clearH U i) i) g2->kn (ptr x,.int .i64 S.G) (.int .i64 ((i:Int)+1)) g2) ->
     b63_5 (λc h=>R (.pan c) h) x0 (ptr x,.int .i64 S.G) kn (.int .i64 i) g:=by
    intro kn x0 hkn
    unfold b63_5
    have hlt:(i:Int)<(S.G:Int):=by omega
    simp only[vBin_lss,hlt,decide_true,dIf_b]
    refine⟨λ_=>?_,λe=>absurd e (by simp)⟩
    refine h_clear Hg hn2 t1 (by rw[eG];exact hin) λg2 Hg2=>?_
    simp only[AEnd.elim]
    have c1:=clearH_gn t1 (gd:=i) (by rw[eG];exact hin)
    refine h_round Hg2 (hn2.to c1.2.2) (clearH_ok t1 (by rw[eG];exact hin)) (by unfold Hs.G;rw[c1.2.2];show i<U.G;rw[eG];exact hin) λg3 Hg3=>?_
    simp only[AEnd.elim,vBin_add]
    rw[w64 (by omega) (by omega)]
    exact hkn _ Hg3
   exact key _ _ λg2 H3=>⟨rfl,S.G-(i+1),by omega,i+1,rfl,rfl,by omega,by rw[hstep];exact H3⟩
  ·have e:i=S.G:=by omega
   subst e
   unfold b63_5
   simp only[vBin_lss,dIf_b]
   refine⟨λe=>absurd e (by simp),λ_=>?_⟩
   intro r hr
   simp only[hr,vNil_p,vFA_p,Nat.zero_add]
   rw[vLoad_1 Hg.f.hx (show (hsHd nm (tickRun T S.G))[3]?=some (.int .i64 (tickRun T S.G).now)from rfl)]
   exact hR _ Hg
end
end Go.Pw
set_option linter.unusedSimpArgs false
set_option linter.unusedVariables false
namespace Go.Pw
open Go Go.Proofs
def actF (k:Int):Option Nat:=
 if k=1 then some 63 else if k=2 then some 64 else if k=3 then some 66 else if k=4 then some 68 else if k=5 then some 70 else
 if k=6 then some 72 else if k=7 then some 73 else if k=8 then some 74 else if k=9 then some 75 else if k=10 then some 76 else none
def fnV:Option Nat->Value
 | some f=>.func (.func f) #[] #[]
 | none=>.nilFunc
def mapE (k:Int) (f born:Nat):MapEntry:={key:=.int .i64 k,val:=.func (.func f) #[] #[],born:=born}
def actsL:List MapEntry:=[mapE 1 63 0,mapE 2 64 1,mapE 3 66 2,mapE 4 68 3,mapE 5 70 4,mapE 6 72 5,mapE 7 73 6,mapE 8 74 7,mapE 9 75 8,mapE 10 76 9]
theorem findNow_cons (k n:Int) (f b i:Nat) (es:List MapEntry):Instr.findNow (.int .i64) (.int .i64 k) (mapE n f b::es) i=if k=n then some (some (i,.func (.func f) #[] #[]))else Instr.findNow (.int .i64) (.int .i64 k) es (i+1):=by
 unfold mapE
 by_cases e:k=n
 ·subst e
  simp[Instr.findNow,Instr.sameNow]
 ·have e2:(k==n)=false:=by simpa using e
  simp[Instr.findNow,Instr.sameNow,e,e2]
theorem acts_find (k:Int):∃r,Instr.findNow (.int .i64) (.int .i64 k) actsL 0=some r/\(match r with | some (_,v)=>v | none=>.nilFunc)=fnV (actF k):=by
 by_cases h1:k=1
 ·subst h1;exact⟨_,rfl,rfl⟩
 by_cases h2:k=2
 ·subst h2;exact⟨_,rfl,rfl⟩
 by_cases h3:k=3
 ·subst h3;exact⟨_,rfl,rfl⟩
 by_cases h4:k=4
 ·subst h4;exact⟨_,rfl,rfl⟩
 by_cases h5:k=5
 ·subst h5;exact⟨_,rfl,rfl⟩
 by_cases h6:k=6
 ·subst h6;exact⟨_,rfl,rfl⟩
 by_cases h7:k=7
 ·subst h7;exact⟨_,rfl,rfl⟩
 by_cases h8:k=8
 ·subst h8;exact⟨_,rfl,rfl⟩
 by_cases h9:k=9
 ·subst h9;exact⟨_,rfl,rfl⟩
 by_cases h10:k=10
 ·subst h10;exact⟨_,rfl,rfl⟩
 unfold actsL actF
 simp only[findNow_cons,h1,h2,h3,h4,h5,h6,h7,h8,h9,h10,if_false]
 exact⟨none,rfl,rfl⟩
section
variable {h g:PH} {R:AEnd->PH->Prop} {x:Nat} {nm:Nm} {S:Hs} {C:PH->Prop}
theorem h_acts {k:Int} (hR:R (.ret (fnV (actF k))) h):ACalls Tryz.prog 33 #[.int .i64 k] h R:=by
 refine ACalls.drop (call33 ?_)
 unfold sh33
 intro b hb
 refine⟨b,#[],0,rfl,ins_eq _ _ _,rfl,by rfl,?_⟩
 refine⟨b,_,_,rfl,ins_eq _ _ _,rfl,by rfl,?_⟩
 refine⟨b,_,_,rfl,ins_eq _ _ _,rfl,by rfl,?_⟩
 refine⟨b,_,_,rfl,ins_eq _ _ _,rfl,by rfl,?_⟩
 refine⟨b,_,_,rfl,ins_eq _ _ _,rfl,by rfl,?_⟩
 refine⟨b,_,_,rfl,ins_eq _ _ _,rfl,by rfl,?_⟩
 refine⟨b,_,_,rfl,ins_eq _ _ _,rfl,by rfl,?_⟩
 refine⟨b,_,_,rfl,ins_eq _ _ _,rfl,by rfl,?_⟩
 refine⟨b,_,_,rfl,ins_eq _ _ _,rfl,by rfl,?_⟩
 refine⟨b,_,_,rfl,ins_eq _ _ _,rfl,by rfl,?_⟩
 simp only[ins_ins]
 obtain⟨r,h1,h2⟩:=acts_find k
 refine⟨b,_,_,r,rfl,ins_eq _ _ _,rfl,h1,?_⟩
 rw[<-h2]at hR
 refine⟨h,sub_ins _ hb,?_⟩
 cases r with
 | none=>exact hR
 | some p=>exact hR
theorem fn_neq {K:Value->Prop} (f:Nat):vBin Tryz.prog .neq 87 (.func (.func f) #[] #[]) .nilFunc K↔K (.bool true):=vBin_of λx y=>by kernel_rfl
theorem nofn_neq {K:Value->Prop}:vBin Tryz.prog .neq 87 .nilFunc .nilFunc K↔K (.bool false):=vBin_of λx y=>by kernel_rfl
theorem payL_gn (L:Led) (i:Nat) (n:Int):(payL L i n).2.goods=L.goods/\(payL L i n).2.n=L.n:=by unfold payL;(repeat' split) <;> exact⟨rfl,rfl⟩
theorem takeL_gn (L:Led) (i:Nat) (n:Int):(takeL L i n).2.goods=L.goods/\(takeL L i n).2.n=L.n:=by unfold takeL;(repeat' split) <;> exact⟨rfl,rfl⟩
theorem storeL_gn (L:Led) (i:Nat) (g n:Int):(storeL L i g n).2.goods=L.goods/\(storeL L i g n).2.n=L.n:=by unfold storeL;(repeat' split) <;> exact⟨rfl,rfl⟩
theorem fetchL_gn (L:Led) (i:Nat) (g n:Int):(fetchL L i g n).2.goods=L.goods/\(fetchL L i g n).2.n=L.n:=by unfold fetchL;(repeat' split) <;> exact⟨rfl,rfl⟩
variable {who:Nat} {o:OpV}
theorem h_pay (H:HsN x nm S h) (hk:S.ok) (hw:who<S.L.n) (hR:∀g,HsN x nm (S.setL (payL S.L who o.am).2) g->R (.ret (.tuple #[.int .i64 0,.int .i64 (payL S.L who o.am).1])) g) :
  ACalls Tryz.prog 64 #[ptr x,.int .i64 who,o.v] h R:=by
 refine call64 ?_
 unfold sh64
 rw[show Value.cells o.v=o.a from rfl]
 refine vNew_i λc hc=>?_
 have Hc:(HsN x nm S•pt c (.cells o.a 25 (0,0))) (ins h c (.cells o.a 25 (0,0))):=sep_c (pt_new hc H)
 revert Hc
 generalize ins h c (.cells o.a 25 (0,0))=G
 intro Hc
 have F:=(sep_l HsN.mono Hc).f
 have hcc:=pt_get (sep_c Hc)
 simp only[vNil_p,vFA_p,Nat.zero_add,F.lx.ld]
 rw[vLoad_1 hcc (show o.a[2]?=some (.int .i64 o.am)from rfl)]
 refine pay_ok F.hl hk.led.small hw ?_
 simp only[AEnd.elim]
 have hgn:=payL_gn S.L who o.am
 exact hR _ (sep_l HsN.mono (HsN.led Hc hgn.1 hgn.2))
theorem h_take (H:HsN x nm S h) (hk:S.ok) (hw:who<S.L.n) (hR:∀g,HsN x nm (S.setL (takeL S.L who o.am).2) g->R (.ret (.tuple #[.int .i64 0,.int .i64 (takeL S.L who o.am).1])) g) :
  ACalls Tryz.prog 66 #[ptr x,.int .i64 who,o.v] h R:=by
 refine call66 ?_
 unfold sh66
 rw[show Value.cells o.v=o.a from rfl]
 refine vNew_i λc hc=>?_
 have Hc:(HsN x nm S•pt c (.cells o.a 25 (0,0))) (ins h c (.cells o.a 25 (0,0))):=sep_c (pt_new hc H)
 revert Hc
 generalize ins h c (.cells o.a 25 (0,0))=G
 intro Hc
 have F:=(sep_l HsN.mono Hc).f
 have hcc:=pt_get (sep_c Hc)
 simp only[vNil_p,vFA_p,Nat.zero_add,F.lx.ld]
 rw[vLoad_1 hcc (show o.a[2]?=some (.int .i64 o.am)from rfl)]
 refine take_ok F.hl hk.led.small hw ?_
 simp only[AEnd.elim]
 have hgn:=takeL_gn S.L who o.am
 exact hR _ (sep_l HsN.mono (HsN.led Hc hgn.1 hgn.2))
theorem h_store (H:HsN x nm S h) (hk:S.ok) (hw:who<S.L.n) (hR:∀g,HsN x nm (S.setL (storeL S.L who o.good o.am).2) g->R (.ret (.tuple #[.int .i64 0,.int .i64 (storeL S.L who o.good o.am).1])) g) :
  ACalls Tryz.prog 68 #[ptr x,.int .i64 who,o.v] h R:=by
 refine call68 ?_
 unfold sh68
 rw[show Value.cells o.v=o.a from rfl]
 refine vNew_i λc hc=>?_
 have Hc:(HsN x nm S•pt c (.cells o.a 25 (0,0))) (ins h c (.cells o.a 25 (0,0))):=sep_c (pt_new hc H)
 revert Hc
 generalize ins h c (.cells o.a 25 (0,0))=G
 intro Hc
 have F:=(sep_l HsN.mono Hc).f
 have hcc:=pt_get (sep_c Hc)
 simp only[vNil_p,vFA_p,Nat.zero_add,F.lx.ld]
 rw[vLoad_1 hcc (show o.a[1]?=some (.int .i64 o.good)from rfl),vLoad_1 hcc (show o.a[2]?=some (.int .i64 o.am)from rfl)]
 refine store_ok F.hl hk.led.small hw ?_
 simp only[AEnd.elim]
 have hgn:=storeL_gn S.L who o.good o.am
 exact hR _ (sep_l HsN.mono (HsN.led Hc hgn.1 hgn.2))
theorem h_fetch (H:HsN x nm S h) (hk:S.ok) (hw:who<S.L.n) (hR:∀g,HsN x nm (S.setL (fetchL S.L who o.good o.am).2) g->R (.ret (.tuple #[.int .i64 0,.int .i64 (fetchL S.L who o.good o.am).1])) g) :
  ACalls Tryz.prog 70 #[ptr x,.int .i64 who,o.v] h R:=by
 refine call70 ?_
 unfold sh70
 rw[show Value.cells o.v=o.a from rfl]
 refine vNew_i λc hc=>?_
 have Hc:(HsN x nm S•pt c (.cells o.a 25 (0,0))) (ins h c (.cells o.a 25 (0,0))):=sep_c (pt_new hc H)
 revert Hc
 generalize ins h c (.cells o.a 25 (0,0))=G
 intro Hc
 have F:=(sep_l HsN.mono Hc).f
 have hcc:=pt_get (sep_c Hc)
 simp only[vNil_p,vFA_p,Nat.zero_add,F.lx.ld]
 rw[vLoad_1 hcc (show o.a[1]?=some (.int .i64 o.good)from rfl),vLoad_1 hcc (show o.a[2]?=some (.int .i64 o.am)from rfl)]
 refine fetch_ok F.hl hk.led.small hw ?_
 simp only[AEnd.elim]
 have hgn:=fetchL_gn S.L who o.good o.am
 exact hR _ (sep_l HsN.mono (HsN.led Hc hgn.1 hgn.2))
end
structure Did where
 n:Int
 e:Int
 S:Hs
def actH (S:Hs) (who:Nat) (o:OpV):Did:=
 if o.kind=1 then ⟨(tickH S).1,(tickH S).2.1,(tickH S).2.2⟩else
 if o.kind=2 then ⟨0,(payL S.L who o.am).1,S.setL (payL S.L who o.am).2⟩else
 if o.kind=3 then ⟨0,(takeL S.L who o.am).1,S.setL (takeL S.L who o.am).2⟩else
 if o.kind=4 then ⟨0,(storeL S.L who o.good o.am).1,S.setL (storeL S.L who o.good o.am).2⟩else
 if o.kind=5 then ⟨0,(fetchL S.L who o.good o.am).1,S.setL (fetchL S.L who o.good o.am).2⟩else
 if o.kind=6 then ⟨0,(offerH S who o).1,(offerH S who o).2⟩else
 if o.kind=7 then ⟨0,(wantH S who o).1,(wantH S who o).2⟩else
 if o.kind=8 then ⟨0,(putH S who o).1,(putH S who o).2⟩else
 if o.kind=9 then ⟨0,(amendH S who o).1,(amendH S who o).2⟩else
 if o.kind=10 then ⟨0,(cancelH S who o).1,(cancelH S who o).2⟩else ⟨0,90,S⟩
theorem putH_gn (S:Hs) (who:Nat) (o:OpV):(putH S who o).2.L.goods=S.L.goods/\(putH S who o).2.L.n=S.L.n:=by
 unfold putH
 simp only
 repeat' split
 all_goals first | exact⟨rfl,rfl⟩ | skip
 have h1:=holdH_gn S.L who (coverC (decide (o.side=0)) (termsH S who o).p o.am)
 have h2:=lockH_gn (holdH S.L who (coverC (decide (o.side=0)) (termsH S who o).p o.am)) who o.good (coverG (decide (o.side=0)) (termsH S who o).p o.am)
 exact⟨h2.1.trans h1.1,h2.2.trans h1.2⟩
theorem amendH_gn (S:Hs) (who:Nat) (o:OpV):(amendH S who o).2.L.goods=S.L.goods/\(amendH S who o).2.L.n=S.L.n:=by
 unfold amendH
 simp only
 repeat' split
 all_goals first | exact⟨rfl,rfl⟩ | skip
 exact⟨(lockH_gn _ _ _ _).1.trans (holdH_gn _ _ _).1,(lockH_gn _ _ _ _).2.trans (holdH_gn _ _ _).2⟩
theorem cancelH_gn (S:Hs) (who:Nat) (o:OpV):(cancelH S who o).2.L.goods=S.L.goods/\(cancelH S who o).2.L.n=S.L.n:=by
 unfold cancelH
 simp only
 repeat' split
 all_goals first | exact⟨rfl,rfl⟩ | exact holdH_gn _ _ _ | exact lockH_gn _ _ _ _
theorem wantH_gn (S:Hs) (who:Nat) (o:OpV):(wantH S who o).2.L.goods=S.L.goods/\(wantH S who o).2.L.n=S.L.n:=by
 unfold wantH
 simp only
 repeat' split
 all_goals first | exact⟨rfl,rfl⟩ | exact holdH_gn _ _ _ | (simp only;repeat' split)
 all_goals first | exact⟨rfl,rfl⟩ | exact holdH_gn _ _ _
theorem offerH_gn (S:Hs) (who:Nat) (o:OpV):(offerH S who o).2.L.goods=S.L.goods/\(offerH S who o).2.L.n=S.L.n:=by
 unfold offerH
 repeat' split
 all_goals first | exact⟨rfl,rfl⟩ | exact lockL_gn _ _ _ _
end Go.Pw
