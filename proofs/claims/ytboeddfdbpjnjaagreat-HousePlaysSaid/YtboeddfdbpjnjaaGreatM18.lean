/- Texts of this claim, one behind the other. -/
import Derived.Test.YtboeddfdbpjnjaaGreatM3
import Derived.Test.YtboeddfdbpjnjaaGreatM15
set_option linter.unusedSimpArgs false
set_option linter.unusedVariables false
namespace Go.Pw
open Go Go.Proofs
def wS (s:Bool) (r:Nat):Nat:=if s then 9223372036854775808+r else r
def Il:Nat:=9218868437227405312
theorem R0 (s:Bool) (r:Nat):Ieee.double.word s r=wS s r:=by
 have a:Ieee.double.signWeight=9223372036854775808:=by decide +kernel
 unfold Ieee.Format.word wS;rw[a]
theorem Kd {s:Bool} {r:Nat} (a:r<9223372036854775808):dat (wS s r)=if r<4503599627370496 then .number s r (-1074)else if r<9218868437227405312 then .number s (4503599627370496+r%4503599627370496) (-1074+(r/4503599627370496-1:Nat))else if r=9218868437227405312 then .infinity s else .nan s (r-9218868437227405312):=by
 unfold wS;cases s with
 | true=>simp only[if_true];exact Ru a
 | false=>simp only[Ba,if_false];exact LZ a
theorem Qh (w:Ieee.Toward) (s:Bool) {k d:Nat} (a:0<k):w.cut s (k*2^d) d=k:=by
 have b:0<2^d:=Nat.two_pow_pos d
 have e:d<=(k*2^d).log2:=by
  rw[Nat.le_log2 (Nat.pos_iff_ne_zero.1 (Nat.mul_pos a b))];exact Nat.le_mul_of_pos_left _ a
 unfold Ieee.Toward.cut;simp only;rw[Nat.min_eq_left (by omega),Nat.one_shiftLeft,Nat.mul_div_cancel _ b,Nat.mul_mod_left];have f:¬2^d<2*0:=by omega
 have c:(2^d==2*0)=false:=by
  rw[beq_eq_false_iff_ne];omega
 cases w <;> simp[c]
theorem TI {k d:Nat} (f:0<k):(k*2^d).log2=k.log2+d:=by
 have e:0<2^d:=Nat.two_pow_pos d;have h0:k*2^d≠0:=Nat.pos_iff_ne_zero.1 (Nat.mul_pos f e);rw[Nat.log2_eq_iff h0,Nat.pow_add,Nat.pow_add,Nat.pow_add];have a:=Nat.log2_self_le (n:=k) (by omega);have b:=Nat.lt_log2_self (n:=k);refine⟨Nat.mul_le_mul_right _ a,?_⟩;have c:k*2^d<2^(k.log2+1)*2^d:=Nat.mul_lt_mul_of_pos_right b e;rw[Nat.pow_succ]at c
 calc k*2^d<2^k.log2*2*2^d:=c
  _=2^k.log2*2^d*2^1:=by rw[Nat.pow_one,Nat.mul_assoc,Nat.mul_assoc,Nat.mul_comm 2]
theorem Jc {s:Bool} {k d:Nat} {i j:Int} (a:4503599627370496<=k/\k<9007199254740992) (hi:-1074<=i) (c:j=i-d):Ieee.double.nearest s (k*2^d) j=wS s (min ((i+1074).toNat*4503599627370496+k) Il):=by
 have e:0<2^d:=Nat.two_pow_pos d;have h0:k*2^d≠0:=Nat.pos_iff_ne_zero.1 (Nat.mul_pos (by omega) e);have o:Ieee.double.binade=4503599627370496:=by decide +kernel
 have n:Ieee.double.infRung=9218868437227405312:=by decide +kernel
 have m:Ieee.double.leastPlace = -1074:=by decide +kernel
 have l:Ieee.double.fractionBits=52:=rfl
 have b:k.log2=52:=by
  rw[Nat.log2_eq_iff (by omega)];exact⟨a.1,a.2⟩
 unfold Ieee.Format.nearest;rw[if_neg h0];simp only;rw[TI (by omega),b,m,l,o,n,R0,c];have f:max (i-(d:Int)+((52+d:Nat):Int)-((52:Nat):Int)) (-1074)=i:=by omega
 rw[f];have h:(i-(d:Int)-i).toNat=0:=by omega
 have g:(i-(i-(d:Int))).toNat=d:=by omega
 rw[h,g,Nat.shiftLeft_zero,Qh _ _ (by omega)]
 congr 3
theorem OM {s:Bool} {k d:Nat} {j:Int} (a:0<k/\k<4503599627370496) (b:j = -1074-d):Ieee.double.nearest s (k*2^d) j=wS s k:=by
 have c:0<2^d:=Nat.two_pow_pos d;have h0:k*2^d≠0:=Nat.pos_iff_ne_zero.1 (Nat.mul_pos (by omega) c);have m:Ieee.double.binade=4503599627370496:=by decide +kernel
 have l:Ieee.double.infRung=9218868437227405312:=by decide +kernel
 have i:Ieee.double.leastPlace = -1074:=by decide +kernel
 have h:Ieee.double.fractionBits=52:=rfl
 have n:k.log2<52:=by
  rw[Nat.log2_lt (by omega)];exact a.2
 unfold Ieee.Format.nearest;rw[if_neg h0];simp only;rw[TI (by omega),i,h,m,l,R0,b];have e:max (-1074-(d:Int)+((k.log2+d:Nat):Int)-((52:Nat):Int)) (-1074) = -1074:=by omega
 rw[e];have g:(-1074-(d:Int) - -1074).toNat=0:=by omega
 have f:(-1074-(-1074-(d:Int))).toNat=d:=by omega
 rw[g,f,Nat.shiftLeft_zero,Qh _ _ (by omega)]
 congr 1
 have:((-1074:Int) - -1074).toNat=0:=by omega
 rw[this];omega
theorem ON (s:Bool) (j:Int):Ieee.double.nearest s 0 j=wS s 0:=by
 unfold Ieee.Format.nearest;rw[if_pos rfl,R0]
def DW (r:Nat):Nat:=if r<4503599627370496 then 2*r else r+4503599627370496
def FL (r:Nat):Nat:=DW (DW (DW (DW (DW (DW r)))))
theorem MX:DW 0=0:=if_pos (by omega)
theorem bP:FL 0=0:=by
 unfold FL;rw[MX,MX,MX,MX,MX,MX]
theorem p52:(4503599627370496:Nat)=2^52:=by decide
theorem Sb (s:Bool) (m:Nat) (i:Int):Ieee.Datum.sum (.number s m i) (.number s m i)=some (.number s (2*m) i):=by
 unfold Ieee.Datum.sum Ieee.signed;simp only;have d:(i-min i i).toNat=0:=by omega
 have c:min i i=i:=by omega
 rw[d,c,Nat.shiftLeft_zero];cases s with
 | true=>
  simp only[if_true]
  by_cases h:m=0
  ·subst h;rfl
  ·have:¬(-(m:Int) + -(m:Int)=0):=by omega
   rw[if_neg this]
   congr 1
   have b:decide (-(m:Int) + -(m:Int)<0)=true:=by simp;omega
   have a:(-(m:Int) + -(m:Int)).natAbs=2*m:=by omega
   rw[b,a]
 | false=>
  simp only[Ba,if_false]
  by_cases h:m=0
  ·subst h;rfl
  ·have:¬((m:Int)+(m:Int)=0):=by omega
   rw[if_neg this]
   congr 1
   have b:decide ((m:Int)+(m:Int)<0)=false:=by simp;omega
   have a:((m:Int)+(m:Int)).natAbs=2*m:=by omega
   rw[b,a]
theorem X2 {s:Bool} {r:Nat} (a:r<9214364837600034816):Ieee.double.add (wS s r) (wS s r)=some (wS s (DW r)):=by
 show ((dat (wS s r)).sum (dat (wS s r))).map Ieee.double.write=_;rw[Kd (by omega)];unfold DW
 by_cases h:r<4503599627370496
 ·rw[if_pos h,if_pos h,Sb]
  show some (Ieee.double.nearest s (2*r) (-1074))=_
  congr 1
  rcases Nat.eq_zero_or_pos r with h0 | h0
  ·subst h0;exact ON s _
  ·rcases Nat.lt_or_ge (2*r) 4503599627370496 with h1 | h1
   ·have:=OM (s:=s) (k:=2*r) (d:=0) (j:=-1074) ⟨by omega,h1⟩ (by omega)
    simpa using this
   ·have:=Jc (s:=s) (k:=2*r) (d:=0) (i:=-1074) (j:=-1074) ⟨h1,by omega⟩ (by omega) (by omega)
    simp only[Nat.pow_zero,Nat.mul_one]at this;rw[this]
    congr 1
    unfold Il;omega
 ·rw[if_neg h,if_neg h,if_pos (by omega),Sb]
  show some (Ieee.double.nearest s (2*(4503599627370496+r%4503599627370496)) (-1074+(r/4503599627370496-1:Nat)))=_
  congr 1
  have:=Jc (s:=s) (k:=4503599627370496+r%4503599627370496) (d:=1) (i:=-1074+(r/4503599627370496-1:Nat)+1) (j:=-1074+(r/4503599627370496-1:Nat)) ⟨by omega,by omega⟩ (by omega) (by omega);rw[Nat.pow_one,Nat.mul_comm]at this;rw[this]
  congr 1
  have e:(-1074+((r/4503599627370496-1:Nat):Int)+1+1074).toNat=r/4503599627370496:=by omega
  rw[e];unfold Il;omega
theorem fC {s:Bool} {r:Nat} (j:r<Il):HE (wS s r)=wS s (min (FL r) Il):=by
 have n:∃m i,dat (wS s r) = .number s m i/\HE (wS s r)=Ieee.double.nearest s (m*2^52) (i + -46)/\(if r<4503599627370496 then m=r/\i = -1074 else m=4503599627370496+r%4503599627370496/\i = -1074+(r/4503599627370496-1:Nat)):=by
  have t:∀m i,dat (wS s r) = .number s m i->HE (wS s r)=Ieee.double.nearest s (m*2^52) (i + -46):=λm i n=>by
   have e:Ieee.double.mul (wS s r) C64=some (Ieee.double.nearest s (m*4503599627370496) (i + -46)):=by
    show ((dat (wS s r)).product (dat C64)).map Ieee.double.write=_;rw[n,bR];show some (Ieee.double.nearest (s ^^ false) _ _)=_;simp
   unfold HE;rw[e,Option.getD_some,p52]
  have a:=Kd (s:=s) (r:=r) (by unfold Il at j;omega)
  by_cases h:r<4503599627370496
  ·rw[if_pos h]at a
   exact⟨_,_,a,t _ _ a,by rw[if_pos h];exact⟨rfl,rfl⟩⟩
  ·rw[if_neg h,if_pos (show r<9218868437227405312 from j)]at a
   exact⟨_,_,a,t _ _ a,by rw[if_neg h];exact⟨rfl,rfl⟩⟩
 obtain⟨m,i,_,e,f⟩:=n;rw[e];unfold Il at j
 by_cases h:r<4503599627370496
 ·rw[if_pos h]at f
  obtain⟨rfl,rfl⟩:=f
  rcases Nat.eq_zero_or_pos m with h0 | h0
  ·have z:m*2^52=0:=by rw[h0,Nat.zero_mul]
   have u:wS s (min (FL m) Il)=wS s 0:=by rw[h0,bP,Nat.zero_min]
   rw[z,ON,u]
  ·have b:∀(e k:Nat),m*2^52=k*2^(46+e)->4503599627370496<=k/\k<9007199254740992->FL m=e*4503599627370496+k->Ieee.double.nearest s (m*2^52) (-1074 + -46)=wS s (min (FL m) Il):=λe k y x w=>by
    have v:(-1074+(e:Int)+1074).toNat=e:=by omega
    rw[y,Jc (i:=-1074+e) x (by omega) (by omega),w,v]
   have d0:∀q p:Nat,q<4503599627370496->p=2*q->DW q=p:=λq p l g=>by rw[g];exact if_pos l
   have d1:∀q p:Nat,4503599627370496<=q->p=q+4503599627370496->DW q=p:=λq p l g=>by rw[g];exact if_neg (by omega)
   rcases Nat.lt_or_ge (64*m) 4503599627370496 with c | c
   ·have o:FL m=64*m:=by
     unfold FL;rw[d0 m (2*m) (by omega) (by omega),d0 (2*m) (4*m) (by omega) (by omega),d0 (4*m) (8*m) (by omega) (by omega),d0 (8*m) (16*m) (by omega) (by omega),d0 (16*m) (32*m) (by omega) (by omega),d0 (32*m) (64*m) (by omega) (by omega)]
    rw[o,show m*2^52=(64*m)*2^46 by omega,OM (d:=46) ⟨by omega,c⟩ (by omega)]
    congr 1
    unfold Il;omega
   ·rcases Nat.lt_or_ge (32*m) 4503599627370496 with c1 | c1
    ·refine b 0 (64*m) (by omega) (by omega) ?_
     unfold FL;rw[d0 m (2*m) (by omega) (by omega),d0 (2*m) (4*m) (by omega) (by omega),d0 (4*m) (8*m) (by omega) (by omega),d0 (8*m) (16*m) (by omega) (by omega),d0 (16*m) (32*m) (by omega) (by omega),d0 (32*m) (64*m) (by omega) (by omega)];omega
    ·rcases Nat.lt_or_ge (16*m) 4503599627370496 with c2 | c2
     ·refine b 1 (32*m) (by omega) (by omega) ?_
      unfold FL;rw[d0 m (2*m) (by omega) (by omega),d0 (2*m) (4*m) (by omega) (by omega),d0 (4*m) (8*m) (by omega) (by omega),d0 (8*m) (16*m) (by omega) (by omega),d0 (16*m) (32*m) (by omega) (by omega),d1 (32*m) (32*m+4503599627370496) (by omega) (by omega)];omega
     ·rcases Nat.lt_or_ge (8*m) 4503599627370496 with c3 | c3
      ·refine b 2 (16*m) (by omega) (by omega) ?_
       unfold FL;rw[d0 m (2*m) (by omega) (by omega),d0 (2*m) (4*m) (by omega) (by omega),d0 (4*m) (8*m) (by omega) (by omega),d0 (8*m) (16*m) (by omega) (by omega),d1 (16*m) (16*m+4503599627370496) (by omega) (by omega),d1 (16*m+4503599627370496) (16*m+9007199254740992) (by omega) (by omega)];omega
      ·rcases Nat.lt_or_ge (4*m) 4503599627370496 with c4 | c4
       ·refine b 3 (8*m) (by omega) (by omega) ?_
        unfold FL;rw[d0 m (2*m) (by omega) (by omega),d0 (2*m) (4*m) (by omega) (by omega),d0 (4*m) (8*m) (by omega) (by omega),d1 (8*m) (8*m+4503599627370496) (by omega) (by omega),d1 (8*m+4503599627370496) (8*m+9007199254740992) (by omega) (by omega),d1 (8*m+9007199254740992) (8*m+13510798882111488) (by omega) (by omega)];omega
       ·rcases Nat.lt_or_ge (2*m) 4503599627370496 with c5 | c5
        ·refine b 4 (4*m) (by omega) (by omega) ?_
         unfold FL;rw[d0 m (2*m) (by omega) (by omega),d0 (2*m) (4*m) (by omega) (by omega),d1 (4*m) (4*m+4503599627370496) (by omega) (by omega),d1 (4*m+4503599627370496) (4*m+9007199254740992) (by omega) (by omega),d1 (4*m+9007199254740992) (4*m+13510798882111488) (by omega) (by omega),d1 (4*m+13510798882111488) (4*m+18014398509481984) (by omega) (by omega)];omega
        ·refine b 5 (2*m) (by omega) (by omega) ?_
         unfold FL;rw[d0 m (2*m) (by omega) (by omega),d1 (2*m) (2*m+4503599627370496) (by omega) (by omega),d1 (2*m+4503599627370496) (2*m+9007199254740992) (by omega) (by omega),d1 (2*m+9007199254740992) (2*m+13510798882111488) (by omega) (by omega),d1 (2*m+13510798882111488) (2*m+18014398509481984) (by omega) (by omega),d1 (2*m+18014398509481984) (2*m+22517998136852480) (by omega) (by omega)];omega
 ·rw[if_neg h]at f
  obtain⟨rfl,rfl⟩:=f;have d1:∀q p:Nat,4503599627370496<=q->p=q+4503599627370496->DW q=p:=λq p l g=>by rw[g];exact if_neg (by omega)
  have o:FL r=r+6*4503599627370496:=by
   unfold FL;rw[d1 r (r+4503599627370496) (by omega) (by omega),d1 (r+4503599627370496) (r+9007199254740992) (by omega) (by omega),d1 (r+9007199254740992) (r+13510798882111488) (by omega) (by omega),d1 (r+13510798882111488) (r+18014398509481984) (by omega) (by omega),d1 (r+18014398509481984) (r+22517998136852480) (by omega) (by omega),d1 (r+22517998136852480) (r+6*4503599627370496) (by omega) (by omega)]
  rw[Jc (i:=-1074+(r/4503599627370496-1:Nat)+6) ⟨by omega,by omega⟩ (by omega) (by omega),o]
  congr 2
  have e:(-1074+((r/4503599627370496-1:Nat):Int)+6+1074).toNat=r/4503599627370496+5:=by omega
  rw[e];omega
theorem qv (k:Nat):4503599627370496<=4503599627370496*2^k:=Nat.le_mul_of_pos_right _ (Nat.two_pow_pos k)
theorem ak {a b:Int} (h:¬b<a):(some (compare a b)==some Ordering.gt)=false:=by
 have:=mt Rv.1 h
 simpa using this
theorem n8 {a b:Int} (h:b<a):(some (compare a b)==some Ordering.gt)=true:=by
 rw[Rv.2 h];rfl
theorem WH (m n:Nat) (i j:Int):(Ieee.Datum.number false m i).order (.number false n j)=some (compare ((m <<< (i-min i j).toNat:Nat):Int) ((n <<< (j-min i j).toNat:Nat):Int)):=rfl
theorem n9 {r:Nat} (g:r<=Il):(Gr (wS false r) C40==some .gt)=decide (C40<r):=by
 unfold Il at g;rw[FG,VP,Kd (by omega)];have b:C40=4787326403894837248:=rfl;rw[b]
 by_cases h:r<4503599627370496
 ·rw[if_pos h,WH,decide_eq_false (by omega:¬4787326403894837248<r)]
  refine ak ?_;obtain⟨t,a⟩:∃t,(-12-min (-1074) (-12):Int).toNat=t:=⟨_,rfl⟩;rw[show (-1074-min (-1074) (-12):Int).toNat=0 by omega,a,Nat.shiftLeft_eq,Nat.shiftLeft_eq];have:=qv t;omega
 ·rw[if_neg h]
  by_cases d:r<9218868437227405312
  ·rw[if_pos d,WH]
   obtain⟨q,i⟩:∃q,q=r/4503599627370496:=⟨_,rfl⟩;obtain⟨f,k⟩:∃f,f=r%4503599627370496:=⟨_,rfl⟩;have e:r=4503599627370496*q+f:=by omega
   have j:f<4503599627370496:=by omega
   rw[<-i,<-k]
   have key:((4503599627370496 <<< (-12-min (-1074+((q-1:Nat):Int)) (-12)).toNat:Nat):Int)<(((4503599627370496+f) <<< (-1074+((q-1:Nat):Int)-min (-1074+((q-1:Nat):Int)) (-12)).toNat:Nat):Int)↔4787326403894837248<r:=by
    rw[Nat.shiftLeft_eq,Nat.shiftLeft_eq]
    rcases Nat.lt_or_ge q 1063 with c | c
    ·obtain⟨t,a⟩:∃t,(-12-min (-1074+((q-1:Nat):Int)) (-12)).toNat=t+1:=⟨(-12-min (-1074+((q-1:Nat):Int)) (-12)).toNat-1,by omega⟩
     rw[show (-1074+((q-1:Nat):Int)-min (-1074+((q-1:Nat):Int)) (-12)).toNat=0 by omega,a,Nat.pow_succ];have l:=qv t;omega
    ·rw[show (-12-min (-1074+((q-1:Nat):Int)) (-12)).toNat=0 by omega]
     rcases Nat.eq_or_lt_of_le c with c1 | c1
     ·rw[show (-1074+((q-1:Nat):Int)-min (-1074+((q-1:Nat):Int)) (-12)).toNat=0 by omega]
      omega
     ·obtain⟨t,a⟩:∃t,(-1074+((q-1:Nat):Int)-min (-1074+((q-1:Nat):Int)) (-12)).toNat=t+1:=⟨(-1074+((q-1:Nat):Int)-min (-1074+((q-1:Nat):Int)) (-12)).toNat-1,by omega⟩
      rw[a,Nat.pow_succ,<-Nat.mul_assoc];have l:4503599627370496+f<=(4503599627370496+f)*2^t:=Nat.le_mul_of_pos_right _ (Nat.two_pow_pos t);omega
   by_cases c:4787326403894837248<r
   ·rw[decide_eq_true c];exact n8 (key.2 c)
   ·rw[decide_eq_false c];exact ak (mt key.1 c)
  ·rw[if_neg d,if_pos (by omega),decide_eq_true (by omega:4787326403894837248<r)]
   rfl
theorem L4 (s:Bool) (u:Nat):Ieee.signed s 0 u=0:=by unfold Ieee.signed;cases s <;> simp
theorem Wm {a b:Int}:(some (compare a b) != some Ordering.eq)=decide (a≠b):=by
 by_cases h:a=b
 ·subst h;simp[compare,compareOfLessAndEq]
 ·have:compare a b≠.eq:=by
   intro e;simp only[compare,compareOfLessAndEq]at e
   split at e
   ·cases e
   ·try rw[if_neg h]at e
    cases e
  simp[h,this]
theorem Zm (d e:Ieee.Datum):(d.order e != some .eq)=(e.order d != some .eq):=by
 cases d with
 | nan s t=>cases e <;> rfl
 | infinity s=>cases e with
  | nan=>rfl
  | infinity t=>cases s <;> cases t <;> rfl
  | number t n j=>cases s <;> rfl
 | number s m i=>cases e with
  | nan=>rfl
  | infinity t=>cases t <;> rfl
  | number t n j=>
   simp only[Ieee.Datum.order];rw[Wm,Wm,Int.min_comm j i];simp only[ne_eq,decide_not]
   congr 1
   simp only[eq_comm]
theorem Zl (d:Ieee.Datum) (k:Int):(d.order (.number true 0 k) != some .eq)=(d.order (.number false 0 k) != some .eq):=by
 cases d with
 | nan s t=>rfl
 | infinity s=>cases s <;> rfl
 | number s m i=>
  simp only[Ieee.Datum.order];rw[L4,L4]
theorem Wk (s:Bool):dat (wS s 0) = .number s 0 (-1074):=by rw[Kd (by omega),if_pos (by omega)]
theorem UU {x:Nat} {n:Int} (h:(dat x).toInt .zero=some n) (p:0<=n):(Gr (FloatKind.f64.nearest n) x != some .eq)=(Gr x (Hf x) != some .eq):=by
 cases b:dat x with
 | nan s t=>rw[b]at h;cases h
 | infinity s=>rw[b]at h;cases h
 | number s m i=>
  rw[b]at h;obtain⟨c,g⟩:∃c,Ieee.Toward.zero.cut s (m <<< i.toNat) (-i).toNat=c:=⟨_,rfl⟩;have e:(Ieee.Datum.number s m i).integral .zero = .number s c 0:=by rw[<-g];rfl
  have l:(Ieee.Datum.number s m i).toInt .zero=some (Ieee.signed s c 0):=by
   unfold Ieee.Datum.toInt;rw[e]
  rw[l]at h;have a:Ieee.signed s c 0=n:=Option.some.inj h
  have k:Hf x=Ieee.double.nearest s c 0:=by
   unfold Hf;rw[b,e];rfl
  have j:FloatKind.f64.nearest n=Ieee.double.nearest (decide (n<0)) n.natAbs 0:=rfl;unfold Ieee.signed at a;rw[Nat.shiftLeft_zero]at a;rw[FG,FG,k,j,Zm];have d:decide (n<0)=false:=decide_eq_false (by omega);rw[d];cases s with
  | false=>
   simp only[Ba,if_false]at a;rw[<-a,Int.natAbs_natCast]
  | true=>
   simp only[if_true]at a;have o:c=0:=by omega
   have f:n=0:=by omega
   rw[o,f,Int.natAbs_zero,ON,ON,Wk,Wk,Zl]
theorem fA (x y t:Nat):(dat ((Question.nanBits .f64 x y).cut t)).isNaN=true:=by
 have e:∃s r,(Question.nanBits .f64 x y).cut t=wS s r/\9218868437227405312<r/\r<9223372036854775808:=by
  refine⟨decide (t%2=1),9218868437227405312+1+t/2%4503599627370495,?_,by omega,by omega⟩;show t%2*2^63+0x7ff0000000000000+1+(t/2)%(2^52-1)=_;unfold wS
  by_cases h:t%2=1
  ·simp only[h,B6,if_true];omega
  ·have:t%2=0:=by omega
   simp only[this,show ¬(0=1)by omega,BW,Ba,if_false]
   try omega
 obtain⟨s,r,e,b,a⟩:=e;rw[e,Kd a,if_neg (by omega),if_neg (by omega),if_neg (by omega)]
 rfl
section
variable {h:PH} {R:RT} {b:Nat}
theorem O2 (a:R (.ret (.bool (dat b).isNaN)) h):A7 Tryz.prog 162 #[.float .f64 b] h R:=by
 refine hQ ?_;unfold kJ;rw[JQ,QO];cases c:(dat b).isNaN with
 | true=>rw[c]at a;exact a
 | false=>rw[c]at a;exact a
theorem Sw (g:(dat b).isNaN=false) (n:R (.ret (.bool (dat b).isInfinity)) h):A7 Tryz.prog 163 #[.float .f64 b] h R:=by
 refine hJ ?_;unfold kI gAW pnW;refine O2 ?_;rw[g];simp only[AK.elim,Bm,Bool.not_false,AZ,C7,CI,ne_eq,Bx,C1,and_true,Al,cond_true]
 have j:∀r,(dat r).isNaN=(dat b).isInfinity->AA Tryz.prog 162 #[.float .f64 r] h (λk l=>AP (.bool true) k (.bool false) λt11=>R (.ret t11) l) (λc h=>R (.pan c) h):=λr f=>by
  refine O2 ?_;rw[f];simp only[AK.elim,Al,cond_true];exact n
 have e:FloatKind.f64.format.sub b b=((dat b).sum (dat b).opposite).map Ieee.double.write:=rfl;refine⟨_,_,_,_,rfl,rfl,rfl,λr f=>?_,λf t=>?_⟩
 ·have a:FloatKind.f64.format.sub b b=some r:=f
  rw[e]at a
  have key:(dat r).isNaN=(dat b).isInfinity:=by
   cases d:dat b with
   | nan s t=>rw[d]at g;cases g
   | infinity s=>rw[d]at a;cases s <;> cases a
   | number s m i=>
    rw[d]at a
    have h0:Ieee.signed s m (i-min i i).toNat+Ieee.signed (!s) m (i-min i i).toNat=0:=by
     unfold Ieee.signed;cases s <;> simp <;> omega
    have:∃q,r=wS q 0:=by
     simp only[Ieee.Datum.opposite,Ieee.Datum.sum,h0,Int.natAbs_zero,Option.map_some,Option.some.injEq]at a;refine⟨_,a.symm.trans (ON _ _)⟩
    obtain⟨q,rfl⟩:=this;rw[Wk];rfl
  simpa only[C7,Al,cond_true]using j r key
 ·have a:FloatKind.f64.format.sub b b=none:=f
  rw[e]at a
  have key:(dat ((Question.nanBits .f64 b b).cut t)).isNaN=(dat b).isInfinity:=by
   rw[fA];cases d:dat b with
   | nan s t=>rw[d]at g;cases g
   | infinity s=>rfl
   | number s m i=>rw[d]at a;cases a
  simpa only[C7,Al,cond_true]using j _ key
theorem Gf {s:Bool} {q:Nat} {i:Int} {Kp:KP} {g:Value->PH->Prop} {d:Value->V2->PH->Prop} (f:q<9214364837600034816) (hi:0<=i/\i<6)
  (j:d (.int .i64 6) (.float .f64 (wS s (DW q)),.int .i64 (i+1)) h):Lq Kp g (.int .i64 6) d (.float .f64 (wS s q),.int .i64 i) h:=by
 unfold Lq ivW;rw[AC,AB];refine⟨λ_=>?_,λe=>absurd (of_decide_eq_false e) (by omega)⟩;refine⟨_,_,_,_,rfl,rfl,rfl,λr c=>?_,λc t=>?_⟩
 ·have a:Ieee.double.add (wS s q) (wS s q)=some r:=c
  rw[X2 f]at a;cases a;simp only[AG];rw[w64 (by omega) (by omega)];exact j
 ·have a:Ieee.double.add (wS s q) (wS s q)=none:=c
  rw[X2 f]at a;cases a
theorem Jr (r:Nat):DW r<=r+4503599627370496:=by unfold DW;split <;> omega
theorem Js (r:Nat):r<=DW r:=by unfold DW;split <;> omega
theorem QE (G:b<18446744073709551616) (a:R (.ret (.tuple #[.int .i64 (B8 b).1,.int .i64 (B8 b).2])) h):A7 Tryz.prog 127 #[.float .f64 b,.int .i64 6] h R:=by
 refine ij ?_;unfold kw N8 eXW gAW gGW ivW pnW;simp only[AC,At,show ¬((6:Int)<0)by omega,show ¬((20:Int)<6)by omega,BW,AZ,C7,CI,ne_eq,Bx,C1,and_true,Al,cond_false,AB,Ba];refine⟨trivial,?_⟩;refine O2 ?_;unfold B8 at a;simp only[AK.elim,AB];cases g:(dat b).isNaN with
 | true=>
  rw[g]at a;exact⟨λ_=>a,λe=>absurd e (by simp)⟩
 | false=>
  rw[g]at a;refine nF ?_;refine Sw g ?_;simp only[AK.elim,AB];cases hi:(dat b).isInfinity with
  | true=>
   rw[hi]at a;exact⟨λ_=>a,λe=>absurd e (by simp)⟩
  | false=>
   rw[hi]at a;simp only[Ba,if_false]at a;refine nF ?_;rw[Pz,AB];cases h0:(Gr b 0==some .lt)with
   | true=>
    rw[h0]at a;exact⟨λ_=>a,λe=>absurd e (by simp)⟩
   | false=>
    rw[h0]at a;simp only[Ba,if_false]at a;refine nF ?_
    obtain⟨s,r,rfl,k⟩:∃s r,b=wS s r/\r<Il:=by
     have:∃s r,b=wS s r/\r<9223372036854775808:=by
      rcases Q1 G with h | ⟨r,k,rfl⟩
      ·exact⟨false,b,rfl,h⟩
      ·exact⟨true,r,rfl,k⟩
     obtain⟨s,r,rfl,k⟩:=this;refine⟨s,r,rfl,?_⟩;unfold Il;rw[Kd k]at g hi
     rcases Nat.lt_or_ge r 9218868437227405312 with c | c
     ·exact c
     ·rw[if_neg (by omega),if_neg (by omega)]at g hi
      split at hi
      ·cases hi
      ·rename_i L
       rw[if_neg L]at g;cases g
    have z:s=true->r=0:=λe=>by
     subst e;unfold Il at k
     rcases Nat.eq_zero_or_pos r with c | c
     ·exact c
     ·exfalso
      have u:∃m i,dat (wS true r) = .number true m i/\0<m:=by
       rw[Kd (by omega)]
       split
       ·exact⟨_,_,rfl,c⟩
       ·first | exact⟨_,_,rfl,by omega⟩ | (rw[if_pos (by omega)];exact⟨_,_,rfl,by omega⟩)
      obtain⟨m,i,o,l⟩:=u;rw[FG,o,lr]at h0;simp only[Ieee.Datum.order,L4]at h0;unfold Ieee.signed at h0;simp only[if_true]at h0;rw[Nat.shiftLeft_eq]at h0;have T:0<m*2^(i-min i (-1074)).toNat:=Nat.mul_pos l (Nat.two_pow_pos _);rw[bW.2 (by omega)]at h0;cases h0
    rw[JR,AB,show (4787326403894837248:Nat)=C40 from rfl]
    have j:∀q,q<=Il->(s=true->q=0)->(Gr (wS s q) C40==some .gt)=decide (C40<q):=λq D C=>by
     cases s with
     | false=>exact n9 D
     | true=>
      rw[C rfl,FG,Wk,VP];simp only[Ieee.Datum.order,L4];unfold Ieee.signed;simp only[Ba,if_false];rw[show decide (C40<0)=false from by simp];exact ak (Int.not_lt.2 (Int.natCast_nonneg _))
    have K:C40=4787326403894837248:=rfl;have l:=fC (s:=s) k;have w:s=true->FL r=0:=λe=>by rw[z e];exact bP
    have I:r<=FL r:=by
     unfold FL;have S:=Js r;have Q:=Js (DW r);have P:=Js (DW (DW r));have O:=Js (DW (DW (DW r)));have N:=Js (DW (DW (DW (DW r))));have M:=Js (DW (DW (DW (DW (DW r)))));omega
    have H:=j (min (FL r) Il) (Nat.min_le_right _ _) (λe=>by rw[w e];exact Nat.zero_min _);rw[l,H]at a;have A:Il=9218868437227405312:=rfl;rw[j r (by omega) z]
    by_cases F:C40<r
    ·rw[if_pos (by simp only[CF];omega)]at a
     exact⟨λ_=>a,λe=>absurd (of_decide_eq_false e) (by omega)⟩
    refine⟨λe=>absurd (of_decide_eq_true e) F,λ_=>?_⟩;have S:=Jr r;have Q:=Jr (DW r);have P:=Jr (DW (DW r));have O:=Jr (DW (DW (DW r)));have N:=Jr (DW (DW (DW (DW r))));have M:=Jr (DW (DW (DW (DW (DW r)))))
    have J:min (FL r) Il=FL r:=by
     unfold FL;omega
    rw[J]at a l;refine Jd 7 ?_;refine Di λp d=>Gf (by omega) (by omega) (d _ _ ?_);refine Di λp d=>Gf (by omega) (by omega) (d _ _ ?_);refine Di λp d=>Gf (by omega) (by omega) (d _ _ ?_);refine Di λp d=>Gf (by omega) (by omega) (d _ _ ?_);refine Di λp d=>Gf (by omega) (by omega) (d _ _ ?_);refine Di λp d=>Gf (by omega) (by omega) (d _ _ ?_);rw[RZ];unfold Lq ivW;rw[AC,AB];refine⟨λe=>absurd (of_decide_eq_true e) (by omega),λ_=>?_⟩;intro ρ hρ;rw[show ρ 0=Value.float .f64 (wS s (FL r))from hρ];rw[JR,AB,j (FL r) (by omega) w]
    by_cases v:C40<FL r
    ·rw[if_pos (by simpa using v)]at a
     exact⟨λ_=>a,λe=>absurd (of_decide_eq_false e) (by omega)⟩
    refine⟨λe=>absurd (of_decide_eq_true e) v,λ_=>?_⟩;rw[if_neg (by simpa using v)]at a
    obtain⟨y,m,i,o⟩:∃y m i,dat (wS s r) = .number y m i:=by
     cases o:dat (wS s r)with
     | nan s t=>rw[o]at g;cases g
     | infinity s=>rw[o]at hi;cases hi
     | number s m i=>exact⟨s,m,i,rfl⟩
    obtain⟨n,f,x,E⟩:=M7 o h0 (by rw[l,j (FL r) (by omega) w];exact decide_eq_false v);rw[l]at f;rw[f]at a;have ts:=UU f x;refine⟨_,_,n,rfl,f,?_,?_,?_⟩
    ·show (-9223372036854775808:Int)<=n
     omega
    ·show n<=(9223372036854775807:Int)
     omega
    refine⟨_,n,rfl,?_⟩;refine (JQ _ _ _).2 ?_;rw[ts,AB];cases B:(Gr (wS s (FL r)) (Hf (wS s (FL r))) != some .eq)with
    | true=>
     rw[B]at a;exact⟨λ_=>a,λe=>absurd e (by simp)⟩
    | false=>
     rw[B]at a;exact⟨λe=>absurd e (by simp),λ_=>a⟩
end
end Go.Pw
