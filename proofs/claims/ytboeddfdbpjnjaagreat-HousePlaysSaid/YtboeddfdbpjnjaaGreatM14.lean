/- Texts of this claim, one behind the other. -/
import Derived.Test.YtboeddfdbpjnjaaGreatM3
import Derived.Test.YtboeddfdbpjnjaaGreatM5
import Derived.Test.YtboeddfdbpjnjaaGreatM9
import Derived.Test.YtboeddfdbpjnjaaGreatM10
import Derived.Test.YtboeddfdbpjnjaaGreatM13
set_option linter.unusedSimpArgs false
set_option linter.unusedVariables false
namespace Go.Pw
open Go Go.Proofs
inductive Rd (α:Type) where
 | ok (n:α) (next:Nat)
 | bad (e:Int)
def rdN (s:List UInt8):Nat->Nat->Nat->Nat->Rd Nat
 | 0,i,n,at_=>.bad 11
 | fuel+1,i,n,at_=>match s[at_]? with
  | none=>.bad 10
  | some c=>
   if 128<=c.toNat then (if i=7 then .bad 11 else rdN s fuel (i+1) (n+c.toNat%128*128^i) (at_+1))
   else if (c.toNat=0/\0<i)\/9007199254740992<n+c.toNat%128*128^i then .bad 11 else .ok (n+c.toNat%128*128^i) (at_+1)
def Ch (s:List UInt8) (at_:Nat):Rd Nat:=rdN s 8 0 0 at_
section
variable {P:Program} {K:Value->Prop}
theorem SV {t:TypeId} {n k:Int} (h0:0<=n) (g:0<=k) (f:k<=49) (h:n<128):A6 P .shl t (.int .i64 n) (.int .i64 k) K↔K (.int .i64 (n*2^k.toNat)):=by
 refine Bi λ_ _=>?_;have e:min k.toNat 64=k.toNat:=by omega
 have b:2^k.toNat<=2^49:=Nat.pow_le_pow_right (by omega) (by omega)
 have b2:(2:Int)^k.toNat<=562949953421312:=by
  have:((2^k.toNat:Nat):Int)<=((2^49:Nat):Int):=Int.ofNat_le.2 b
  simpa using this
 have a:(0:Int)<=(2:Int)^k.toNat:=Int.le_of_lt (Int.pow_pos (by omega));have j:n*2^k.toNat<=127*562949953421312:=Int.mul_le_mul (by omega) b2 a (by omega);have i:0<=n*2^k.toNat:=Int.mul_nonneg h0 a;have c:IntKind.i64.wrap (n*2^k.toNat)=n*2^k.toNat:=w64 (by omega) (by omega);have d:¬k<0:=by omega
 simp[eqGuard,binOp,Op.shift,IntKind.bits,d,e,c]
 rfl
theorem Yq {t:TypeId} {n M:Nat} (a:n ||| M=n+M) (b:n+M<9223372036854775808):A6 P .or t (.int .i64 n) (.int .i64 M) K↔K (.int .i64 (n+M:Nat)):=by
 have key:(BitVec.ofInt 64 (n:Int) ||| BitVec.ofInt 64 (M:Int)).toNat=n+M:=by
  rw[BitVec.toNat_or,Ey (by omega) (by omega),Ey (by omega) (by omega)];exact a
 refine Bi λ_ _=>?_;show some (Value.int .i64 (IntKind.i64.wrap ((BitVec.ofInt 64 (n:Int) ||| BitVec.ofInt 64 (M:Int)).toNat)))=_;rw[key,w64 (by omega) (by omega)]
theorem Zn {n m i:Nat} (h0:n<2^i):n ||| (m*2^i)=n+m*2^i:=by
 rw[Nat.or_comm,Nat.mul_comm,<-Nat.two_pow_add_eq_or_of_lt h0];omega
theorem qn (i:Nat):2^(7*i)=128^i:=by rw[Nat.pow_mul]
end
def ja (h:PH) (p:Nat) (s:ByteArray) (at_:Nat):Prop:=h p=some (.cells #[.string s,.int .i64 at_] 135 (0,0))
def IE (h:PH) (p:Nat) (s:ByteArray) (at_:Nat):PH:=ins h p (.cells #[.string s,.int .i64 at_] 135 (0,0))
def Qd (e:Int):List PanicEntry:=[{v:=.iface 178 (.int .i64 e),recovered:=false}]
section
variable {h:PH} {R:RT} {p:Nat} {s:ByteArray}
theorem Xc {at_:Nat} (z:ja h p s at_) (W:s.size<9223372036854775807)
  (A:∀n next,Ch s.data.toList at_ = .ok n next->R (.ret (.int .i64 n)) (IE h p s next))
  (a:∀e j,Ch s.data.toList at_ = .bad e->R (.pan (Qd e)) (IE h p s j)) :
  A7 Tryz.prog 60 #[ptr p] h R:=by
 refine o7 ?_;unfold qB eXW ivW pnW;have h0:IE h p s at_=h:=GC z;refine AL (λm I g=>∃(i n j:Nat),I=(.int .i64 0,.int .i64 n,.int .i64 i)/\m=8-i/\i<8/\n<128^i/\g=IE h p s j/\rdN s.data.toList (8-i) i n j=Ch s.data.toList at_) 8 ⟨0,0,at_,rfl,rfl,by omega,by omega,h0.symm,rfl⟩ ?_;rintro m I g ⟨i,n,j,rfl,rfl,hi,hn,rfl,hrd⟩;have q:IE h p s j p=some (.cells #[.string s,.int .i64 j] 135 (0,0)):=AD _ _ _;have q0:(#[Value.string s,.int .i64 j]:Array Value)[0+0]?=some (.string s):=rfl;have q1:(#[Value.string s,.int .i64 j]:Array Value)[0+1]?=some (.int .i64 j):=rfl;obtain⟨G,D⟩:∃G,8-i=G+1:=⟨7-i,by omega⟩;rw[D,rdN]at hrd;cases y:s.data.toList[j]? with
 | none=>
  rw[y]at hrd
  have C:s.size<=j:=by
   have:=List.getElem?_eq_none_iff.1 y;rw[Array.length_toList]at this;exact this
  unfold Wu gAW gGW ivW;simp only[BO,AH,A5 q q0,A5 q q1,Dp,By,AB,CF,D9];refine⟨λ_=>?_,λw=>absurd (by omega) w⟩;simp only[SU];exact⟨_,_,rfl,a 10 j hrd.symm⟩
 | some c=>
  rw[y]at hrd;simp only at hrd
  have C:j<s.size:=by
   have:=(Bc.1 y).1;rw[Array.length_toList]at this;exact this
  have E:s.data[j]?=some c:=by rw[<-Array.getElem?_toList];exact y
  have O:c.toNat<256:=c.toNat_lt;unfold Wu gAW gGW ivW;simp only[BO,AH,A5 q q0,A5 q q1,Dp,By,AB,CF,D9];refine⟨λx=>absurd x (by omega),λ_=>?_⟩;refine⟨s,.i64,j,c,rfl,rfl,by omega,by simpa using E,?_⟩;simp only[Ct,AG];rw[w64 (by omega) (by omega),w64 (by omega) (by omega)];refine (Aw q (by simp) rfl).2 ?_
  have o:ins (IE h p s j) p (.cells ((#[Value.string s,.int .i64 j]:Array Value).setIfInBounds (0+1) (.int .i64 ((j:Int)+1))) 135 (0,0))=IE h p s (j+1):=by
   show ins (ins _ _ _) _ _=_;rw[An];rfl
  rw[o];rw[Mp _ (by omega) (by omega)];simp only[CG];rw[w64 (by omega) (by omega),SV (by omega) (by omega) (by omega) (by omega)]
  have V:((c.toNat:Int)%128*2^((7:Int)*(i:Int)).toNat)=((c.toNat%128*2^(7*i):Nat):Int):=by
   rw[show ((7:Int)*(i:Int)).toNat=7*i by omega];simp
  have P:(c.toNat%128)*2^(7*i)<=127*2^49:=Nat.mul_le_mul (by omega) (Nat.pow_le_pow_right (by omega) (by omega));have u:n<2^(7*i):=by rw[qn];exact hn
  have B:2^(7*i)<=2^49:=Nat.pow_le_pow_right (by omega) (by omega);rw[V,Yq (Zn u) (by omega)];rw[qn]at P u B ⊢;generalize X:n+c.toNat%128*128^i=N at hrd ⊢;have S:N<=72057594037927936:=by omega
  simp only[By,AB,CF,D9];refine⟨λx=>?_,λw=>?_⟩
  ·rw[if_pos (by omega)]at hrd
   simp only[BC,AB,CF,D9];refine⟨λU=>?_,λU=>?_⟩
   ·rw[if_pos (by omega)]at hrd
    exact⟨_,_,rfl,a 11 (j+1) hrd.symm⟩
   ·rw[if_neg (by omega)]at hrd
    rw[w64 (by omega) (by omega)];refine⟨by trivial,8-(i+1),by omega,i+1,N,j+1,rfl,rfl,by omega,?_,rfl,?_⟩
    ·have Z:128^(i+1)=128*128^i:=by rw[Nat.pow_succ,Nat.mul_comm]
     have Y:c.toNat%128*128^i<=127*128^i:=Nat.mul_le_mul_right _ (by omega);omega
    ·rw[show 8-(i+1)=G by omega];exact hrd
  ·rw[if_neg (by omega)]at hrd
   obtain⟨l,k⟩:∃l,l=decide ((c.toNat:Int)=0):=⟨_,rfl⟩;obtain⟨b1,f⟩:∃b1,b1=decide (0<(i:Int)):=⟨_,rfl⟩;obtain⟨b2,d⟩:∃b2,b2=decide (9007199254740992<(N:Int)):=⟨_,rfl⟩;have M:∀{K:Value->Prop},A6 Tryz.prog .eql 3 (.int .i64 (c.toNat:Int)) (.int .i64 0) K↔K (.bool l):=λ{K}=>by rw[k];exact BC _ _ _ _
   have L:∀{K:Value->Prop},A6 Tryz.prog .gtr 3 (.int .i64 (i:Int)) (.int .i64 0) K↔K (.bool b1):=λ{K}=>by rw[f];exact At _ _ _ _
   have J:∀{K:Value->Prop},A6 Tryz.prog .gtr 3 (.int .i64 (N:Int)) (.int .i64 9007199254740992) K↔K (.bool b2):=λ{K}=>by rw[d];exact At _ _ _ _
   have Q:(l&&b1||b2)=true->Ch s.data.toList at_ = .bad 11:=λb=>by
    rw[k,f,d]at b;simp only[Bool.or_eq_true,Bool.and_eq_true,CF]at b;rw[if_pos (by omega)]at hrd;exact hrd.symm
   have T:(l&&b1||b2)=false->Ch s.data.toList at_ = .ok N (j+1):=λb=>by
    rw[k,f,d]at b;simp only[Bool.or_eq_false_iff,Bool.and_eq_false_iff,D9]at b;rw[if_neg (by omega)]at hrd;exact hrd.symm
   clear k f d hrd;have H:Ch s.data.toList at_ = .bad 11->∃t v,Value.iface 178 (.int .i64 11) = .iface t v/\R (.pan [{v:=.iface t v,recovered:=false}]) (IE h p s (j+1)):=λb=>⟨_,_,rfl,a 11 (j+1) b⟩
   have good:Ch s.data.toList at_ = .ok N (j+1)->exq (λρ=>ρ 2) (.int .i64 (N:Int)) (λr F=>R (.ret (r 2)) F) (IE h p s (j+1)):=λb=>by
    intro r z;rw[show r 2=_ from z];exact A N (j+1) b
   cases l <;> cases b1 <;> cases b2 <;> simp only[M,L,J,AZ,C7,Al,cond_true,cond_false,AB,Ba,Bool.true_eq_false,ne_eq,Bx,CJ,C1,forall_const,true_and,and_true,nA,PB,SU] <;>
    first | exact good (T rfl) | exact H (Q rfl)
end
section
variable {h:PH} {R:RT} {K:Value->Prop}
theorem YN {e:Int} (a:R (.ret (.int .i64 e)) h):A7 Tryz.prog 59 #[.iface 178 (.int .i64 e)] h R:=by
 refine oC ?_;unfold qC ivW;refine⟨.tuple #[.int .i64 e,.bool true],by kernel_rfl,?_⟩;simp[a]
theorem jR (e:Int):A6 Tryz.prog .neq 20 (.iface 178 (.int .i64 e)) .nilIface K↔K (.bool true):=Bi λx y=>by kernel_rfl
theorem jQ:A6 Tryz.prog .neq 20 .nilIface .nilIface K↔K (.bool false):=Bi λx y=>by cases x <;> cases y <;> kernel_rfl
structure S3 (h g:PH) (e:TypeId) (a b c:Nat) (v4 v5 v6:Value):Prop where
 sub:Sub h g
 a0:h a=none
 b0:h b=none
 c0:h c=none
 ga:g a=some (.cells #[v4] e (0,0))
 gb:g b=some (.cells #[v5] 3 (0,0))
 gc:g c=some (.cells #[v6] 30 (0,0))
 ab:a≠b
 ac:a≠c
 bc:b≠c
variable {g:PH} {e:TypeId} {a b c:Nat} {v4 v5 v6:Value}
end
section
variable {h:PH} {R:RT} {K:Value->Prop} {p:Nat} {s:ByteArray}
theorem Un {s:List UInt8}:∀(a i n at_ m next:Nat),rdN s a i n at_ = .ok m next->next<=s.length
 | 0,i,n,at_,m,next,h=>by simp[rdN]at h
 | a+1,i,n,at_,m,next,h=>by
  rw[rdN]at h;cases b:s[at_]? with
  | none=>rw[b]at h;cases h
  | some c=>
   rw[b]at h;simp only at h;have d:=(Bc.1 b).1
   split at h
   ·split at h
    ·cases h
    ·exact Un a _ _ _ _ _ h
   ·split at h
    ·cases h
    ·cases h;omega
theorem ZX {j n:Nat} (c:ja h p s j) (l:s.size<4611686018427387904) (o:j<4611686018427387904) (m:n<=1048576)
  (d:¬s.size<j+n->R (.ret (.string (s.extract j (j+n)))) (IE h p s (j+n))) (b:s.size<j+n->R (.pan (Qd 10)) h) :
  A7 Tryz.prog 61 #[ptr p,.int .i64 n] h R:=by
 refine nz ?_;unfold qA ivW pnW;have q0:(#[Value.string s,.int .i64 j]:Array Value)[0+0]?=some (.string s):=rfl;have q1:(#[Value.string s,.int .i64 j]:Array Value)[0+1]?=some (.int .i64 j):=rfl;simp only[BO,AH,A5 c q0,A5 c q1,Dp,Ao];rw[w64 (by omega) (by omega)];simp only[At,AB,CF,D9];refine⟨λk=>⟨_,_,rfl,b (by omega)⟩,λi=>?_⟩;simp only[AG];rw[w64 (by omega) (by omega)];refine (Aw c (by simp) rfl).2 ?_;have a:ins h p (.cells ((#[Value.string s,.int .i64 j]:Array Value).setIfInBounds (0+1) (.int .i64 ((j:Int)+(n:Int)))) 135 (0,0))=IE h p s (j+n):=rfl;rw[a];have e:IE h p s (j+n) p=some (.cells #[.string s,.int .i64 (j+n:Nat)] 135 (0,0)):=AD _ _ _;have g:(#[Value.string s,.int .i64 (j+n:Nat)]:Array Value)[0+0]?=some (.string s):=rfl;have f:(#[Value.string s,.int .i64 (j+n:Nat)]:Array Value)[0+1]?=some (.int .i64 (j+n:Nat)):=rfl;simp only[A5 e g,A5 e f,Ao];rw[w64 (by omega) (by omega)];refine⟨s,rfl,.i64,_,rfl,by omega,by omega,.i64,_,rfl,by omega,by omega,?_⟩;rw[BR,show (((j+n:Nat):Int)-(n:Int)).toNat=j by omega];exact d (by omega)
variable {g:PH} {e:TypeId} {a b c:Nat} {v4 v5 v6:Value}
end
theorem WD {s:List UInt8}:∀(a i n at_:Nat) (e:Int),rdN s a i n at_ = .bad e->e=10\/e=11
 | 0,i,n,at_,e,h=>by rw[rdN]at h;cases h;exact .inr rfl
 | a+1,i,n,at_,e,h=>by
  rw[rdN]at h;cases b:s[at_]? with
  | none=>rw[b]at h;cases h;exact .inl rfl
  | some c=>
   rw[b]at h;simp only at h
   split at h
   ·split at h
    ·cases h;exact .inr rfl
    ·exact WD a _ _ _ _ h
   ·split at h
    ·cases h;exact .inr rfl
    ·cases h
def Kl (h:PH) (v:Value) (l:List (ByteArray×ByteArray)):Prop:=
 ∃p cap,v = .slice p l.length cap/\l.length<=cap/\∀i a,l[i]?=some a->∃b off c e fr,p=some ⟨b,off,none⟩/\h b=some (.cells c e fr)/\off+i*2+2<=c.size/\c.extract (off+i*2) (off+i*2+2)=#[.string a.1,.string a.2]
section
variable {h:PH} {R:RT}
theorem Kl.ld {v:Value} {l:List (ByteArray×ByteArray)} (k:Kl h v l) {i:Nat} {a:ByteArray×ByteArray} (j:l[i]?=some a):∀{K:Value->Prop},(AR 2 v (.int .i64 i) λt=>A0 (some 2) t h K)↔K (.agg #[.string a.1,.string a.2]):=λ{K}=>by
 obtain⟨p,cap,rfl,g,f⟩:=k;obtain⟨b,off,c,e,fr,rfl,o,m,n⟩:=f i a j;have hi:=(Bc.1 j).1;rw[B9,show off+(i:Int).toNat*2=off+i*2 by omega,AI o m,n];exact⟨λd=>d.2.2,λd=>⟨by omega,by omega,d⟩⟩
theorem Kl.len {v:Value} {l:List (ByteArray×ByteArray)} (a:Kl h v l) {K:Value->Prop}:Ap v K↔K (.int .i64 l.length):=by
 obtain⟨p,cap,rfl,_⟩:=a;exact BQ _ _ _
def Fc (L:Led) (n:Nat):List (ByteArray×ByteArray):=(List.range n).map λi=>(KV i,⟨(KT L i).toArray⟩)
theorem ZE {v g:Value} {l c:List (ByteArray×ByteArray)} (k:Kl h v l) (d:Kl h g c) (J:l.length<4611686018427387904) (I:l=c->R (.ret (.bool true)) h) (C:l≠c->R (.ret (.bool false)) h) :
  A7 Tryz.prog 15 #[v,g] h R:=by
 refine ou ?_;unfold qg eXW ivW pnW;simp only[k.len,d.len,BB,AB];refine⟨λB=>C λe=>by rw[e]at B;simp at B,λH=>?_⟩
 have G:l.length=c.length:=by
  have:((l.length:Int)=(c.length:Int)):=by simpa using H
  omega
 refine AL (λm z g'=>∃i:Nat,z=(.bool false,.int .i64 i)/\m=l.length-i/\i<=l.length/\g'=h/\∀j,j<i->l[j]?=c[j]?) l.length ⟨0,rfl,rfl,by omega,rfl,λj n=>absurd n (by omega)⟩ ?_;rintro m z g' ⟨i,rfl,rfl,hi,rfl,hall⟩
 by_cases u:i<l.length
 ·obtain⟨a,o⟩:∃a,l[i]?=some a:=⟨_,Bu u⟩
  obtain⟨b,x⟩:∃b,c[i]?=some b:=⟨_,Bu (by omega)⟩
  have key:∀(q:V2->V2->PH->Prop) Kp y (p:Value->PH->Prop),(a=b->q (v,g) (.bool false,.int .i64 ((i:Int)+1)) g')->(a≠b->p (.bool false) g') ->
    UE Kp y p (v,g) q (.bool false,.int .i64 i) g':=by
   intro q Kp y p F E;unfold UE GB ivW;have t:(i:Int)<(l.length:Int):=by omega
   simp only[k.len,AC,t,B6,AB];refine nT ?_;rw[k.ld o,d.ld x,dr];simp only[AB,AG];rw[w64 (by omega) (by omega)];refine⟨λf=>E λe=>by rw[e]at f;simp at f,λw=>F ?_⟩;have:a.1=b.1/\a.2=b.2:=by simpa using w
   exact Prod.ext this.1 this.2
  refine key _ _ _ _ (λe=>⟨rfl,l.length-(i+1),by omega,i+1,rfl,rfl,by omega,rfl,λj n=>?_⟩) (λD=>?_)
  ·by_cases ej:j=i
   ·subst ej;rw[o,x,e]
   ·exact hall j (by omega)
  ·intro r A
   rw[show r 4=_ from A];exact C λe=>D (by rw[e,x]at o;cases o;rfl)
 ·have e:i=l.length:=by omega
  subst e;unfold UE GB ivW;have s:¬((l.length:Int)<(l.length:Int)):=by omega
  simp only[k.len,AC,s,BW,AB];refine nF ?_;intro r A
  exact I (List.ext_getElem? λj=>by
   by_cases n:j<l.length
   ·exact hall j n
   ·rw[List.getElem?_eq_none (by omega),List.getElem?_eq_none (by omega)])
theorem Kn {P:Program} {K:Value->Prop} {t:TypeId} (c:P.underlying t=some .bool) (a b:Bool):A6 P .neq t (.bool a) (.bool b) K↔K (.bool (!(a==b))):=
 R3 (λ_ _=>DI (λ_ h=>by cases h) (λh=>by cases h)) rfl (by
  show Az P (Op.equalIn (9999+1) t _ _)=_;rw[Op.equalIn];exact Dh (DU c) rfl)
end
section
variable {h:PH} {R:RT} {s:ByteArray}
theorem dy {at_:Nat} (T:s.size<4611686018427387000) (V:at_<4611686018427387904)
  (k:R (.ret (match Ch s.data.toList at_ with
   | .ok n next=>.tuple #[.int .i64 n,.int .i64 next,.int .i64 0]
   | .bad e=>.tuple #[.int .i64 0,.int .i64 0,.int .i64 e])) h):A7 Tryz.prog 41 #[.string s,.int .i64 at_] h R:=by
 refine oM ?_;unfold qL eXW ivW pnW;refine AL (λm B g=>∃(i n:Nat),B=(.int .i64 0,.int .i64 0,.int .i64 0,.int .i64 n,.int .i64 (128^i:Nat),.int .i64 i)/\m=8-i/\i<=8/\n<128^i/\g=h/\rdN s.data.toList (8-i) i n (at_+i)=Ch s.data.toList at_) 8 ⟨0,0,rfl,rfl,by omega,by omega,rfl,rfl⟩ ?_;rintro m B g ⟨i,n,rfl,rfl,hi,hn,rfl,hrd⟩
 by_cases X:i<8
 ·obtain⟨z,w⟩:∃z,8-i=z+1:=⟨7-i,by omega⟩
  rw[w,rdN]at hrd;have G:128^i<=128^7:=Nat.pow_le_pow_right (by omega) (by omega);have v:(i:Int)<8:=by omega
  unfold Wv gAW gGW ivW;simp only[AC,v,B6,AB];refine nT ?_;simp only[AG];rw[w64 (by omega) (by omega)];simp only[Dp,By,AB,CF,D9];cases t:s.data.toList[at_+i]? with
  | none=>
   rw[t]at hrd
   have u:s.size<=at_+i:=by
    have:=List.getElem?_eq_none_iff.1 t;rw[Array.length_toList]at this;exact this
   refine⟨λ_=>?_,λp=>absurd (by omega) p⟩;intro r a;simp only[Prod.mk.injEq]at a;rw[a.1,a.2.1,a.2.2];rw[<-hrd]at k;exact k
  | some c=>
   rw[t]at hrd;simp only at hrd
   have u:at_+i<s.size:=by
    have:=(Bc.1 t).1;rw[Array.length_toList]at this;exact this
   have x:s.data[at_+i]?=some c:=by rw[<-Array.getElem?_toList];exact t
   have H:c.toNat<256:=c.toNat_lt;refine⟨λq=>absurd q (by omega),λ_=>?_⟩;refine⟨s,.i64,_,c,rfl,rfl,by omega,by rw[show ((at_:Int)+(i:Int)).toNat=at_+i by omega];exact x,?_⟩;simp only[Ct];rw[w64 (by omega) (by omega),J0 _ _ _ _ (by omega)];have S:((c.toNat:Int).tmod 128)=((c.toNat%128:Nat):Int):=by rw[Int.tmod_eq_emod_of_nonneg (by omega)];omega
   have U:(c.toNat%128)*128^i<=127*128^7:=Nat.mul_le_mul (by omega) G;have Q:((c.toNat%128:Nat):Int)*((128^i:Nat):Int)=((c.toNat%128*128^i:Nat):Int):=by rw[Int.natCast_mul]
   rw[S];simp only[CG];rw[Q,w64 (by omega) (by omega)];simp only[AG];have P:(n:Int)+((c.toNat%128*128^i:Nat):Int)=((n+c.toNat%128*128^i:Nat):Int):=by omega
   rw[P,w64 (by omega) (by omega)];have O:128^(i+1)=128*128^i:=by rw[Nat.pow_succ,Nat.mul_comm]
   have Y:c.toNat%128*128^i<=127*128^i:=Nat.mul_le_mul_right _ (by omega);have M:((128^i:Nat):Int)*128=((128^(i+1):Nat):Int):=by rw[O];omega
   rw[M,w64 (by omega) (by omega)];generalize W:n+c.toNat%128*128^i=N at hrd ⊢;simp only[By,AB,CF,D9];refine⟨λq=>?_,λp=>?_⟩
   ·rw[if_pos (by omega)]at hrd
    rw[w64 (by omega) (by omega)];refine⟨by trivial,8-(i+1),by omega,i+1,N,rfl,rfl,by omega,by omega,by trivial,?_⟩
    by_cases y:i=7
    ·rw[if_pos y]at hrd
     subst y;rw[<-hrd]
     rfl
    ·rw[if_neg y]at hrd
     rw[show 8-(i+1)=z by omega,show at_+(i+1)=at_+i+1 by omega];exact hrd
   ·rw[if_neg (by omega)]at hrd
    obtain⟨o,j⟩:∃o,o=decide ((c.toNat:Int)=0):=⟨_,rfl⟩;obtain⟨b1,f⟩:∃b1,b1=decide (0<(i:Int)):=⟨_,rfl⟩;obtain⟨b2,d⟩:∃b2,b2=decide (9007199254740992<(N:Int)):=⟨_,rfl⟩;have E:∀{K:Value->Prop},A6 Tryz.prog .eql 3 (.int .i64 (c.toNat:Int)) (.int .i64 0) K↔K (.bool o):=λ{K}=>by rw[j];exact BC _ _ _ _
    have D:∀{K:Value->Prop},A6 Tryz.prog .gtr 3 (.int .i64 (i:Int)) (.int .i64 0) K↔K (.bool b1):=λ{K}=>by rw[f];exact At _ _ _ _
    have C:∀{K:Value->Prop},A6 Tryz.prog .gtr 3 (.int .i64 (N:Int)) (.int .i64 9007199254740992) K↔K (.bool b2):=λ{K}=>by rw[d];exact At _ _ _ _
    have I:(o&&b1||b2)=true->Ch s.data.toList at_ = .bad 11:=λb=>by
     rw[j,f,d]at b;simp only[Bool.or_eq_true,Bool.and_eq_true,CF]at b;rw[if_pos (by omega)]at hrd;exact hrd.symm
    have J:(o&&b1||b2)=false->Ch s.data.toList at_ = .ok N (at_+i+1):=λb=>by
     rw[j,f,d]at b;simp only[Bool.or_eq_false_iff,Bool.and_eq_false_iff,D9]at b;rw[if_neg (by omega)]at hrd;exact hrd.symm
    clear j f d hrd
    have A:Ch s.data.toList at_ = .bad 11->exq (λρ=>(ρ 4,ρ 5,ρ 6)) (Value.int .i64 0,Value.int .i64 0,Value.int .i64 11) (λr l=>R (.ret (.tuple #[(r 4),(r 5),(r 6)])) l) g:=λb=>by
     intro r a;simp only[Prod.mk.injEq]at a;rw[a.1,a.2.1,a.2.2];rw[b]at k;exact k
    have good:Ch s.data.toList at_ = .ok N (at_+i+1)->exq (λρ=>(ρ 4,ρ 5,ρ 6)) (Value.int .i64 (N:Int),Value.int .i64 (IntKind.i64.wrap (((at_:Int)+(i:Int))+1)),Value.int .i64 0) (λr l=>R (.ret (.tuple #[(r 4),(r 5),(r 6)])) l) g:=λb=>by
     intro r a;simp only[Prod.mk.injEq]at a;rw[a.1,a.2.1,a.2.2,w64 (by omega) (by omega)];rw[b]at k;exact k
    have F:IntKind.i64.wrap ((at_:Int)+(i:Int))=(at_:Int)+(i:Int):=w64 (by omega) (by omega)
    cases o <;> cases b1 <;> cases b2 <;> simp only[E,D,C,AZ,C7,Al,cond_true,cond_false,AB,Ba,Bool.true_eq_false,ne_eq,Bx,CJ,C1,forall_const,true_and,and_true,nA,PB,AG,F] <;>
     first | exact good (J rfl) | exact A (I rfl)
 ·have L:i=8:=by omega
  subst L;unfold Wv gAW gGW ivW;simp only[AC,AB];refine⟨λe=>absurd e (by decide),λ_=>?_⟩;intro r a;rw[<-hrd]at k;exact k
end
end Go.Pw
namespace Go.Pw
open Go Go.Proofs
structure KA where
 free:Nat->Int
 kept:Nat->Int
 stamp:Int
 reply:ByteArray
def KA.cells (a:KA):Array Value:=#[.int .i64 (a.free 0),.int .i64 (a.free 1),.int .i64 (a.free 2),.int .i64 (a.free 3),.int .i64 (a.free 4),.int .i64 (a.kept 0),.int .i64 (a.kept 1),.int .i64 (a.kept 2),.int .i64 (a.kept 3),.int .i64 (a.kept 4),.int .i64 a.stamp,.string a.reply]
def rOf (L:Led) (i:Nat):KA where
 free:=λp=>if p=0 then L.f i 0-L.f i 1 else L.f i (1+p)-L.f i (5+p)
 kept:=λp=>if p=0 then L.f i 1 else L.f i (5+p)
 stamp:=L.f i 10
 reply:=L.r i
def jS (L:Led) (p i:Nat):Int:=if p=0 then L.f i 0 else L.f i (1+p)
theorem dx (L:Led) (p i:Nat):(rOf L i).free p+(rOf L i).kept p=jS L p i:=by
 simp only[rOf,jS];split <;> omega
def JO (h:PH) (q:Nat) (v:Value) (L:Led):Prop:=∃c cap,v = .agg #[.int .i64 L.goods,.slice (some ⟨q,0,none⟩) L.n cap]/\h q=some (.cells c 165 (0,0))/\c.size=cap*12/\L.n<=cap /\
 ∀i,i<L.n->c.extract (i*12) (i*12+12)=(rOf L i).cells
theorem JO.sub {h g:PH} {q:Nat} {v:Value} {L:Led} (f:JO h q v L) (d:Sub h g):JO g q v L:=by
 obtain⟨c,cap,a,b,e⟩:=f;exact⟨c,cap,a,d _ _ b,e⟩
theorem KA.at_free (a:KA) {p:Nat} (b:p<=4):a.cells[p]?=some (.int .i64 (a.free p)):=match p,b with
 | 0,_=>rfl
 | 1,_=>rfl
 | 2,_=>rfl
 | 3,_=>rfl
 | 4,_=>rfl
 | n+5,h=>absurd h (by omega)
theorem KA.at_kept (a:KA) {p:Nat} (b:p<=4):a.cells[5+p]?=some (.int .i64 (a.kept p)):=match p,b with
 | 0,_=>rfl
 | 1,_=>rfl
 | 2,_=>rfl
 | 3,_=>rfl
 | 4,_=>rfl
 | n+5,h=>absurd h (by omega)
theorem ZY {L:Led} (a:L.small) {p i:Nat} (b:p<=4) (hi:i<L.n):-1099511627776<=(rOf L i).free p/\(rOf L i).free p<=1099511627776/\0<=(rOf L i).kept p/\(rOf L i).kept p<=1099511627776:=by
 simp only[rOf]
 split
 ·have:=a.num i 0 hi (by omega)
  have:=a.num i 1 hi (by omega);omega
 ·have:=a.num i (1+p) hi (by omega)
  have:=a.num i (5+p) hi (by omega);omega
section
variable {h:PH} {R:RT}
theorem dp {i:Nat} (hi:i<100) (b:R (.ret (.string (KV i))) h):A7 Tryz.prog 136 #[.int .i64 i] h R:=by
 refine A7.drop (iT ?_);unfold kj jq9 ivW;rw[Fx _ _ _ _ (by omega)];have d:((i:Int).tdiv 10)=((i/10:Nat):Int):=by rw[Int.tdiv_eq_ediv_of_nonneg (by omega)];omega
 have c:((i:Int).tmod 10)=((i%10:Nat):Int):=by rw[Int.tmod_eq_emod_of_nonneg (by omega)];omega
 rw[d,w64 (by omega) (by omega)];simp only[AG,Ct];rw[w64 (by omega) (by omega),E2 (n:=48+i/10) (by omega) (by omega),J0 _ _ _ _ (by omega),c];simp only[AG,Ct];rw[w64 (by omega) (by omega),E2 (n:=48+i%10) (by omega) (by omega)];refine⟨by omega,_,TY _ _,λq a=>?_⟩;refine .inr ⟨q,0,2,2,_,_,_,[UInt8.ofNat (48+i/10),UInt8.ofNat (48+i%10)],rfl,AD _ _ _,rfl,rfl,?_⟩;show A6 _ _ _ _ _ _;rw[Dg _ _ _ (by simp[ByteArray.size])];refine⟨h,AT _ a,?_⟩
 have:(⟨#[97,99,99,116,47]⟩:ByteArray)++⟨[UInt8.ofNat (48+i/10),UInt8.ofNat (48+i%10)].toArray⟩=KV i:=by
  apply ByteArray.ext;rw[ByteArray.data_append]
  rfl
 rw[this];exact b
end
theorem KA.one (a:KA):a.cells.toList.all Value.oneCell'=true:=rfl
theorem JO.ldA {h:PH} {q i:Nat} {v:Value} {L:Led} {K:Value->Prop} (e:JO h q v L) (hi:i<L.n):A0 (some 12) (.pointer (some ⟨q,i*12,none⟩)) h K↔K (.agg (rOf L i).cells):=by
 obtain⟨c,cap,rfl,f,b,d,a⟩:=e;rw[AI f (by rw[b,<-Nat.succ_mul];exact Nat.mul_le_mul_right _ (by omega)),a i hi]
section
variable {h:PH} {R:RT} {q:Nat} {vL:Array Value} {L:Led}
theorem JO.val (a:JO h q (.agg vL) L):∃cap,vL=#[.int .i64 L.goods,.slice (some ⟨q,0,none⟩) L.n cap]/\L.n<=cap:=by
 obtain⟨_,cap,c,_,_,b,_⟩:=a;exact⟨cap,by cases c;rfl,b⟩
end
theorem JO.two {h:PH} {q:Nat} {a:Array Value} {L:Led} (b:JO h q (.agg a) L):a.size=2/\a.toList.all Value.oneCell'=true/\a.extract 0 (0+2)=a:=by
 obtain⟨cap,rfl,_⟩:=b.val;exact⟨rfl,rfl,rfl⟩
section
variable {h h0:PH} {R:RT} {s:Value} {bs:List UInt8}
theorem Sn {q:Nat} {vL:Array Value} {L:Led} (hr:JO h q (.agg vL) L) (hi:Inv L) (hR:∀g s,OB 42 2 h L.n (Ee L L.n) g s->R (.ret s) g):A7 Tryz.prog 88 #[.agg vL] h R:=by
 refine nO ?_;unfold pO eXW ivW pnW;have two:=hr.two;have f:=hi.small;have hgd:=hi.gd;have hg0:=hi.g0;have hcl:=hi.cl;obtain⟨cap,e0,hcap⟩:=hr.val;simp only[Value.cells];refine Ai λt1 G V s1 S=>?_;have hrG:=hr.sub s1;have l1:∀{g:PH},Sub G g->∀{K:Value->Prop},A0 none (.pointer (some ⟨t1,0+1,none⟩)) g K↔K (.slice (some ⟨q,0,none⟩) L.n cap):=λ{g} f {K}=>A5 (f _ _ S) (by rw[e0];rfl);have U:∀{g:PH},Sub G g->∀{K:Value->Prop},A0 none (.pointer (some ⟨t1,0+0,none⟩)) g K↔K (.int .i64 L.goods):=λ{g} f {K}=>A5 (f _ _ S) (by rw[e0];rfl);refine AL (λm I g=>∃(i:Nat) (H:Value),I=(H,.int .i64 i)/\m=L.n-i/\i<=L.n/\OB 42 2 G i (Ee L i) g H) L.n ⟨0,.slice none 0 0,rfl,rfl,by omega,Sub.refl G,rfl,.inl ⟨rfl,rfl,rfl⟩⟩ ?_;rintro m I g ⟨i,H,rfl,rfl,hle,hob⟩
 by_cases d:i<L.n
 ·have key:∀(t:Value->V2->PH->Prop) Kp x0,(∀F B,OB 42 2 G (i+1) (Ee L (i+1)) F B->t (ptr t1) (B,.int .i64 ((i:Int)+1)) F) ->
    Tz Kp x0 (ptr t1) t (H,.int .i64 i) g:=by
   intro t Kp x0 hk;unfold Tz KM zq4 zq5 eXW ivW;have hlt:(i:Int)<(L.n:Int):=by omega
   simp only[AH,l1 hob.sub,BQ,AC,hlt,B6,AB,B9];refine⟨λ_=>⟨by omega,by omega,?_⟩,λe=>absurd e (by simp)⟩;rw[show 0+(i:Int).toNat*12=i*12 by omega,(hrG.sub hob.sub).ldA d];refine Ai λc E0 hc sc hcc=>?_;refine AN (cs:=(rOf L i).cells) hcc (by rfl) (by rfl) (KA.one _) ?_;have b:(ins E0 c (.cells (rOf L i).cells 165 (0,0))) c=some (.cells (rOf L i).cells 165 (0,0)):=AD _ _ _;have w:Sub g (ins E0 c (.cells (rOf L i).cells 165 (0,0))):=Sub.put sc hc;revert b w;generalize (ins E0 c (.cells (rOf L i).cells 165 (0,0)))=E;intro b w;have D:Sub G E:=hob.sub.trans w;have b10:=f.num i 10 d (by omega);have b0:=f.num i 0 d (by omega);have b1:=f.num i 1 d (by omega);have X:∀{K:Value->Prop},A0 none (.pointer (some ⟨c,0+10,none⟩)) E K↔K (.int .i64 (L.f i 10)):=λ{K}=>A5 b rfl;have x0':∀{K:Value->Prop},A0 none (.pointer (some ⟨c,0+0+(0:Int).toNat*1,none⟩)) E K↔K (.int .i64 (L.f i 0-L.f i 1)):=λ{K}=>A5 b rfl;have W:∀{K:Value->Prop},A0 none (.pointer (some ⟨c,0+5+(0:Int).toNat*1,none⟩)) E K↔K (.int .i64 (L.f i 1)):=λ{K}=>A5 b rfl;have N:∀{K:Value->Prop},A0 none (.pointer (some ⟨c,0+11,none⟩)) E K↔K (.string (L.r i)):=λ{K}=>A5 b rfl;have i0:(0:Int)<=0:=by omega
   have i5:(0:Int)<((5:Nat):Int):=by omega
   simp only[AH,X,EX,i0,i5,true_and,x0',W,AG];rw[show L.f i 0-L.f i 1+L.f i 1=L.f i 0 by omega,w64 (by omega) (by omega)];refine DH b10.1 (by omega) ?_;simp only[AK.elim,x0',W,true_and];refine DH b0.1 (by omega) ?_;simp only[AK.elim,W,true_and];have z0:(⟨(Br (L.f i 10).toNat).toArray⟩:ByteArray)=⟨(C9 [L.f i 10]).toArray⟩:=by simp[C9]
   have le:∀l:List Int,(∀x∈l,0<=x/\x<=1099511627776)->l.length<=20->(C9 l).length<=1000:=λl hl h20=>by
    have:=Td hl;omega
   rw[z0,NM (le _ (by simp;omega) (by simp)) b0.1 (by omega)];refine DH b1.1 (by omega) ?_;simp only[AK.elim];rw[NM (le _ (by simp;omega) (by simp)) b1.1 (by omega)];have bg:∀o,o=2\/o=6->∀(j:Nat),(j:Int)<L.goods->0<=L.f i (o+j)/\L.f i (o+j)<=1099511627776:=λo ho j hj=>f.num i (o+j) d (by omega)
   have Z:∀(o:Nat),o=2\/o=6->∀j:Nat,(j:Int)<=L.goods->∀x∈(List.range j).map (λj=>L.f i (o+j)),0<=x/\x<=1099511627776:=λo ho j hj x a=>by
    obtain⟨y,hy,rfl⟩:=List.mem_map.1 a;have:=List.mem_range.1 hy;exact bg o ho y (by omega)
   have hd:∀x∈[L.f i 10,L.f i 0,L.f i 1],0<=x/\x<=1099511627776:=by simp;omega
   have hG:(L.goods.toNat:Int)=L.goods:=by omega
   refine AL (λm I g'=>∃j:Nat,I=(.string ⟨(C9 ([L.f i 10,L.f i 0,L.f i 1]++(List.range j).map (λj=>L.f i (2+j)))).toArray⟩,.int .i64 ((j:Int)+1))/\m=L.goods.toNat-j/\(j:Int)<=L.goods/\g'=E) L.goods.toNat ⟨0,rfl,rfl,by omega,rfl⟩ ?_;rintro m I g' ⟨j,rfl,rfl,hj,rfl⟩
   by_cases J:(j:Int)<L.goods
   ·have u:∀(t:V4->V2->PH->Prop) Kp x2,t (ptr t1,H,.int .i64 i,ptr c) (.string ⟨(C9 ([L.f i 10,L.f i 0,L.f i 1]++(List.range (j+1)).map (λj=>L.f i (2+j)))).toArray⟩,.int .i64 ((j:Int)+1+1)) g' ->
      Ty Kp x2 (ptr t1,H,.int .i64 i,ptr c) t (.string ⟨(C9 ([L.f i 10,L.f i 0,L.f i 1]++(List.range j).map (λj=>L.f i (2+j)))).toArray⟩,.int .i64 ((j:Int)+1)) g':=by
     intro t Kp x2 A;unfold Ty ivW;have z:(j:Int)+1<=L.goods:=by omega
     have bF:=ZY f (p:=j+1) (by omega) d;have bA:=dx L (j+1) i;have T:=bg 2 (.inl rfl) j J;have aj:jS L (j+1) i=L.f i (2+j):=by simp only[jS];rw[if_neg (by omega),show 1+(j+1)=2+j by omega]
     simp only[AH,U D,EI,z,B6,AB,EX];refine⟨λ_=>⟨by omega,by omega,?_⟩,λe=>absurd e (by simp)⟩;rw[show 0+0+((j:Int)+1).toNat*1=j+1 by omega,A5 b ((rOf L i).at_free (p:=j+1) (by omega))];refine⟨by omega,by omega,?_⟩;rw[show 0+5+((j:Int)+1).toNat*1=5+(j+1)by omega,A5 b ((rOf L i).at_kept (p:=j+1) (by omega))];simp only[AG];rw[bA,aj,w64 (by omega) (by omega)];refine DH T.1 (by omega) ?_;simp only[AK.elim]
     rw[NM (le _ (λx a=>by
      rcases List.mem_append.1 a with a | a
      ·exact hd x a
      ·exact Z 2 (.inl rfl) j (by omega) x a) (by simp;omega)) T.1 (by omega)]
     try simp only[AG]
     rw[w64 (by omega) (by omega)];rw[List.range_succ,List.map_append,<-List.append_assoc]at A;exact A
    exact u _ _ _ ⟨rfl,L.goods.toNat-(j+1),by omega,j+1,by simp,rfl,by omega,rfl⟩
   ·have M:j=L.goods.toNat:=by omega
    subst M;unfold Ty ivW;have k:¬((L.goods.toNat:Int)+1<=L.goods):=by omega
    simp only[AH,U D,EI,k,BW,AB];refine nF ?_;intro r C;simp only[Prod.mk.injEq]at C;obtain⟨r1,r3,r4,r5,r6⟩:=C;rw[r1,r3,r4,r5,r6];refine AL (λm I F=>∃j:Nat,I=(.string ⟨(C9 ([L.f i 10,L.f i 0,L.f i 1]++(List.range L.goods.toNat).map (λj=>L.f i (2+j))++(List.range j).map (λj=>L.f i (6+j)))).toArray⟩,.int .i64 ((j:Int)+1))/\m=L.goods.toNat-j/\(j:Int)<=L.goods/\F=g') L.goods.toNat ⟨0,by simp,rfl,by omega,rfl⟩ ?_;rintro m I F ⟨j,rfl,rfl,hj,rfl⟩
    by_cases J:(j:Int)<L.goods
    ·have u:∀(t:V4->V2->PH->Prop) Kp x2,t (ptr t1,H,.int .i64 i,ptr c) (.string ⟨(C9 ([L.f i 10,L.f i 0,L.f i 1]++(List.range L.goods.toNat).map (λj=>L.f i (2+j))++(List.range (j+1)).map (λj=>L.f i (6+j)))).toArray⟩,.int .i64 ((j:Int)+1+1)) F ->
       PE Kp x2 (ptr t1,H,.int .i64 i,ptr c) t (.string ⟨(C9 ([L.f i 10,L.f i 0,L.f i 1]++(List.range L.goods.toNat).map (λj=>L.f i (2+j))++(List.range j).map (λj=>L.f i (6+j)))).toArray⟩,.int .i64 ((j:Int)+1)) F:=by
      intro t Kp x2 A;unfold PE ivW;have z:(j:Int)+1<=L.goods:=by omega
      have T:=bg 6 (.inr rfl) j J;have aj:(rOf L i).kept (j+1)=L.f i (6+j):=by simp only[rOf];rw[if_neg (by omega),show 5+(j+1)=6+j by omega]
      simp only[AH,U D,EI,z,B6,AB,EX];refine⟨λ_=>⟨by omega,by omega,?_⟩,λe=>absurd e (by simp)⟩;rw[show 0+5+((j:Int)+1).toNat*1=5+(j+1)by omega,A5 b ((rOf L i).at_kept (p:=j+1) (by omega)),aj];refine DH T.1 (by omega) ?_;simp only[AK.elim]
      rw[NM (le _ (λx a=>by
       rcases List.mem_append.1 a with a | a
       ·rcases List.mem_append.1 a with a | a
        ·exact hd x a
        ·exact Z 2 (.inl rfl) _ (by omega) x a
       ·exact Z 6 (.inr rfl) j (by omega) x a) (by simp;omega)) T.1 (by omega)]
      simp only[AG];rw[w64 (by omega) (by omega)];rw[List.range_succ (n:=j),List.map_append,<-List.append_assoc]at A;exact A
     exact u _ _ _ ⟨rfl,L.goods.toNat-(j+1),by omega,j+1,by simp,rfl,by omega,rfl⟩
    ·have M:j=L.goods.toNat:=by omega
     subst M;unfold PE ivW;have k:¬((L.goods.toNat:Int)+1<=L.goods):=by omega
     simp only[AH,U D,EI,k,BW,AB];refine nF ?_;intro r2 P;simp only[Prod.mk.injEq]at P;obtain⟨q1,q3,q4,q5,q6⟩:=P;rw[q1,q3,q4,q5,q6];simp only[AH,N];have hrep:=hi.rep i d;refine dp (by omega) ?_;simp only[AK.elim,N,true_and];refine ZQ (by omega) ?_;simp only[AK.elim];have hN:[L.f i 10,L.f i 0,L.f i 1]++(List.range L.goods.toNat).map (λj=>L.f i (2+j))++(List.range L.goods.toNat).map (λj=>L.f i (6+j))=FH L i:=rfl;rw[hN];have k:=le (FH L i) (QQ hi d) (by rw[OK];omega);have h10:=Cs (n:=(L.r i).size) (by omega);have hzz:(L.r i).data.toList.length=(L.r i).size:=by rw[Array.length_toList];rfl
     rw[Dg _ _ _ (by simp only[ByteArray.size,List.size_toArray,List.length_append];have:=hzz;simp only[ByteArray.size]at *;omega)]
     have e3:(⟨(C9 (FH L i)).toArray⟩:ByteArray)++⟨(Br (L.r i).size++(L.r i).data.toList).toArray⟩=⟨(KT L i).toArray⟩:=by
      apply ByteArray.ext;rw[ByteArray.data_append,KT];simp
     rw[e3];refine⟨#[.string (KV i),.string ⟨(KT L i).toArray⟩],rfl,by omega,_,Ol _ _,λq' Q=>⟨by omega,by omega,rfl,?_⟩⟩;have hsG:Sub g (ins F q' (.cells #[.string (KV i),.string ⟨(KT L i).toArray⟩] 42 (0,0))):=w.trans (AT _ Q)
     refine Db (m:=1) (news:=[.string (KV i),.string ⟨(KT L i).toArray⟩]) (hob.up hsG) (by simp only[roomBytes];omega) (by omega) rfl
      (λK' hk'=>.inr (.inr ⟨rfl,q',0,1,1,_,_,_,rfl,AD _ _ _,by simp,λv hv=>?_,hk'⟩)) (λb' off l cc' a gg' cap f=>?_) λh6 s6 O=>?_
     ·have:v = .string (KV i)\/v = .string ⟨(KT L i).toArray⟩:=by simpa using hv
      rcases this with rfl | rfl <;> rfl
     ·cases a
      intro e
      rcases hob.buf with⟨V,_⟩ | ⟨g3,c3,cap3,V,h2,_⟩
      ·rw[V]at f;cases f
      ·rw[V]at f;cases f
       have:=w _ _ h2;rw[<-e,Q]at this;cases this
     ·simp only[AG]
      rw[w64 (by omega) (by omega)];rw[<-KF]at O;exact hk h6 s6 O
  exact key _ _ _ λF B Y=>⟨rfl,L.n-(i+1),by omega,i+1,B,rfl,rfl,by omega,Y⟩
 ·have e:i=L.n:=by omega
  subst e;unfold Tz KM zq4 zq5 eXW ivW;have k:¬((L.n:Int)<(L.n:Int)):=by omega
  simp only[AH,l1 hob.sub,BQ,AC,k,BW,AB];refine nF ?_;intro r C;rw[show r 3=_ from C];exact hR _ _ (hob.base s1)
end
end Go.Pw
