/- Texts of this claim, one behind the other. -/
import Derived.Test.YtboeddfdbpjnjaaGreatM5
import Derived.Test.YtboeddfdbpjnjaaGreatM6
import Derived.Test.YtboeddfdbpjnjaaGreatM14
import Derived.Test.YtboeddfdbpjnjaaGreatM15
import Derived.Test.YtboeddfdbpjnjaaGreatM16
import Derived.Test.YtboeddfdbpjnjaaGreatM17
import Derived.Test.YtboeddfdbpjnjaaGreatM18
set_option linter.unusedSimpArgs false
set_option linter.unusedVariables false
namespace Go.Pw
open Go Go.Proofs
theorem dE {K:Value->Prop} (a b c d:Value):Aa (.tuple #[a,b,c,d]) 0 K↔K a:=by simp[IZ]
theorem dD {K:Value->Prop} (a b c d:Value):Aa (.tuple #[a,b,c,d]) 1 K↔K b:=by simp[IZ]
theorem dC {K:Value->Prop} (a b c d:Value):Aa (.tuple #[a,b,c,d]) 2 K↔K c:=by simp[IZ]
theorem dB {K:Value->Prop} (a b c d:Value):Aa (.tuple #[a,b,c,d]) 3 K↔K d:=by simp[IZ]
theorem UJ {i:Nat} {fs:List Fil} (h:∀f∈fs,0<=f.am) (k:Nat):0<=amF i (fs.take k)/\amF i (fs.take k)<=amF i fs:=by
 have d:∀a b:List Fil,amF i (a++b)=amF i a+amF i b:=λa b=>by
  induction a with
  | nil=>simp[amF]
  | cons f a ih=>simp only[List.cons_append,amF,ih];omega
 have e:=d (fs.take k) (fs.drop k);rw[List.take_append_drop]at e;have j:=Kk (i:=i) (fs:=fs.take k) λf c=>h f (List.mem_of_mem_take c);have g:=Kk (i:=i) (fs:=fs.drop k) λf c=>h f (List.mem_of_mem_drop c);omega
theorem SM {i:Nat}:∀{fs:List Fil},(∀f∈fs,0<=f.am/\f.am<=1048576)->amF i fs<=1048576*fs.length
 | [],_=>by simp[amF]
 | f::fs,h=>by
  have c:=SM (i:=i) (fs:=fs) λx a=>h x (by simp[a]);have b:=h f (by simp);simp only[amF,List.length_cons]
  split <;> omega
theorem X0 {n i:Nat}:∀{fs:List Fil},BH n fs->amF i fs<=Cn fs
 | [],_=>by simp[amF,Cn]
 | f::fs,h=>by
  have c:=X0 (i:=i) (fs:=fs) λx a=>h x (by simp[a]);have b:=h f (by simp);simp only[amF,Cn]
  split <;> omega
section
variable {S:Hs} {gd:Nat} {FB FS:List Fil}
theorem eP (j:S.ok) (d:pE S gd FB FS) (t:gd<S.G) (k:Nat):(∀a q,a<S.L.n->q<5->-1125899906842624<=Ay (GA gd (AE (S.bk gd)).p (S.bk gd).l ((FB++FS).take k) S.L) a q/\Ay (GA gd (AE (S.bk gd)).p (S.bk gd).l ((FB++FS).take k) S.L) a q<=1125899906842624)/\IL S.L (GA gd (AE (S.bk gd)).p (S.bk gd).l ((FB++FS).take k) S.L):=by
 have n:=j.bk gd t;have P:=j.g;have J:=j.cl;have l:∀o∈(S.bk gd).l,0<=o.own:=λo I=>(Am.1 (n.right o I)).2.2.1;have D:∀f∈FB,0<=f.am/\f.am<=1048576:=λf b=>by have:=d.okB f b;omega
 have C:∀f∈FS,0<=f.am/\f.am<=1048576:=λf b=>by have:=d.okS f b;omega
 have A:FB.length+FS.length<=128:=by
  have s:=Gy (S.bk gd).l (AE (S.bk gd)).p (AE (S.bk gd)).n;have B:DK (S.bk gd).l (AE (S.bk gd)).p (AE (S.bk gd)).n=FB++FS:=d.fs;rw[B,List.length_append]at s;have:=n.len;omega
 have m:=d.p0;generalize h:(AE (S.bk gd)).p=p at *;have c:=d.capB;rw[h]at c
 have y:p*Cn FB<=17592186044416:=by
  have s:=R6 (f:=λi=>amF i FB*p) (g:=λ_=>1099511627776) S.L.n λi hi=>by
   have B:=c i hi;have T:=j.led.small.num i 1 hi (by omega);rw[Int.mul_comm];show p*amF i FB<=1099511627776;omega
  rw[Ky,X1 d.okB,Int.mul_comm]at s
  have z:∀k:Nat,AS (λ_=>(1099511627776:Int)) k=k*1099511627776:=λk=>by
   induction k with
   | zero=>rfl
   | succ k ih=>simp only[AS,ih];omega
  rw[z]at s;have:(S.L.n:Int)*1099511627776<=16*1099511627776:=Int.mul_le_mul_of_nonneg_right (by omega) (by omega);omega
 have F:∀f∈FB.take k,Ea (S.bk gd).l true p f:=λf b=>by rw[<-h];exact d.oB f (List.mem_of_mem_take b)
 have E:∀f∈FS.take (k-FB.length),Ea (S.bk gd).l false p f:=λf b=>by rw[<-h];exact d.oS f (List.mem_of_mem_take b)
 have e:GA gd p (S.bk gd).l ((FB++FS).take k) S.L=GA gd p (S.bk gd).l (FS.take (k-FB.length)) (GA gd p (S.bk gd).l (FB.take k) S.L):=by
  rw[List.take_append];unfold GA;rw[List.foldl_append]
 rw[e];have w:=IG (p:=p) n.ids (show gd<4 by omega) l (FB.take k) S.L F;have v:=IG (p:=p) n.ids (show gd<4 by omega) l (FS.take (k-FB.length)) (GA gd p (S.bk gd).l (FB.take k) S.L) E;refine⟨λa q u H=>?_,Dw (w 0).2.2 (v 0).2.2⟩;obtain⟨M,L,_⟩:=w a;obtain⟨b1,b2,_⟩:=v a;have x:=UJ (i:=a) (λf b=>(D f b).1) k;have G:=UJ (i:=a) (λf b=>(C f b).1) (k-FB.length);have O:=SM (i:=a) D;have N:=SM (i:=a) C;have Q:=MR j u H
 rcases Nat.eq_zero_or_pos q with rfl | hq0
 ·rw[b1,M]
  simp only[if_true,Ba,if_false];have Z:=Int.mul_le_mul_of_nonneg_left x.2 m.1;have Y:=Int.mul_nonneg m.1 x.1;have X:=c a u;have W:=j.led.small.num a 1 u (by omega)
  have K:amF a (FS.take (k-FB.length))<=Cn FB:=by
   have:=X0 (i:=a) d.okS;have:=d.tot;omega
  have V:=Int.mul_le_mul_of_nonneg_left K m.1;have U:=Int.mul_nonneg m.1 G.1;omega
 ·obtain⟨r,rfl⟩:∃r,q=r+1:=⟨q-1,by omega⟩
  rw[b2 r (by omega),L r (by omega)];simp only[if_true,Ba,if_false]
  split <;> omega
theorem bi (g:S.ok) (h:pE S gd FB FS) (b:gd<S.G):eqC (GA gd (AE (S.bk gd)).p (S.bk gd).l (FB++FS) S.L) (CU S gd).L:=by
 have k:=g.bk gd b;have y:=g.g;have f:∀o∈(S.bk gd).l,0<=o.own:=λo t=>(Am.1 (k.right o t)).2.2.1;have n:=Tl g b;obtain⟨_,u,i⟩:=F0 g b
 have e:GA gd (AE (S.bk gd)).p (S.bk gd).l (FB++FS) S.L=GA gd (AE (S.bk gd)).p (S.bk gd).l FS (GA gd (AE (S.bk gd)).p (S.bk gd).l FB S.L):=by
  unfold GA;rw[List.foldl_append]
 rw[e];have m:=IG (p:=(AE (S.bk gd)).p) k.ids (show gd<4 by omega) f FB S.L h.oB;have l:=IG (p:=(AE (S.bk gd)).p) k.ids (show gd<4 by omega) f FS (GA gd (AE (S.bk gd)).p (S.bk gd).l FB S.L) h.oS;have d:=Dw (m 0).2.2 (l 0).2.2;refine bI (by rw[u,d.1]) (by rw[i,d.2.1]) (λa j q x=>?_) (λa=>by rw[n.1,d.2.2.2]) (by rw[n.2,d.2.2.1]);rw[d.1]at j;obtain⟨w,v,_⟩:=m a;obtain⟨b1,b2,_⟩:=l a;have h0:∀L:Led,Ay L a 0=L.f a 0:=λL=>by unfold Ay;rw[if_pos rfl]
 have s:∀(L:Led) r,Ay L a (r+1)=L.f a (2+r):=λL r=>by unfold Ay;rw[if_neg (by omega),show r+1+1=2+r by omega]
 rcases Nat.eq_zero_or_pos q with rfl | hq0
 ·rw[b1,w,h0,h0,h.cash a j]
  simp only[if_true,Ba,if_false];omega
 ·obtain⟨r,rfl⟩:∃r,q=r+1:=⟨q-1,by omega⟩
  rw[b2 r (by omega),v r (by omega),s,s,h.goods a r j (by omega)];simp only[if_true,Ba,if_false]
  by_cases c:r=gd
  ·simp only[c,if_true];omega
  ·simp only[c,if_false];omega
end
section
variable {h g:PH} {R:RT} {C:PH->Prop} {S:Hs} {Lv Bv Sv:Value} {bs ss:Nat->Value} {gd:Nat}
def StD (h:PH) (S:Hs) (Lv Bv Sv:Value) (bs ss:Nat->Value) (b a:Value) (gd:Nat):PH->Prop:=λq=>RHp q S Lv Bv Sv bs ss/\Sub h q/\BG q b 6 (AE (S.bk gd)).B.l.length (ordsC (AE (S.bk gd)).B.l)/\BG q a 3 (AE (S.bk gd)).fs.length (DR (AE (S.bk gd)).fs)
theorem StD.mono {e d:Value}:C3 (StD h S Lv Bv Sv bs ss e d gd):=λa b c H=>⟨H.1.sub c,H.2.1.trans c,H.2.2.1.sub c,H.2.2.2.sub c⟩
theorem aR {gd:Nat} {p:Int} {f:Fil} {was:List Ord} {L:Led} {k:Nat} {o:Ord} (a:was[k]?=some o):inC gd p f (was.take (k+1)) L=if o.id=f.id then Ix gd p (inC gd p f (was.take k) L) f o else inC gd p f (was.take k) L:=by
 have e:was.take (k+1)=was.take k ++ [o]:=by rw[List.take_add_one,a];rfl
 unfold inC;rw[e,List.foldl_append];rfl
theorem QY {gd:Nat} {p:Int} {f:Fil} {was:List Ord} {L:Led} {k:Nat} {o:Ord} (i:Ids was) (c:was[k]?=some o) (d:o.id=f.id):inC gd p f (was.take k) L=L:=Od λx b=>by
 obtain⟨j,l,e⟩:=List.mem_take_iff_getElem.1 b;have a:was[j]?=some x:=by rw[Bu (by omega),e]
 rw[<-d];exact Rg i a c (by omega)
theorem bf {t10 i:Nat} {t4 M u:Value} {cs:Array Value} {f:Fil} {d:Led} {x2:V7->PH->Prop} (K:S.ok) (z:gd<S.G) (hf:(AE (S.bk gd)).fs[i]?=some f) (hfam:0<=f.am/\f.am<=1048576)
  (A:(∀a q,a<S.L.n->q<5->-1125899906842624<=Ay d a q/\Ay d a q<=1125899906842624)/\IL S.L d)
  (H:XS t10 cs ((S.setBk gd (AE (S.bk gd)).B).setL d) (StD h S Lv Bv Sv bs ss M u gd) C g)
  (hX:∀g' s,XS t10 s ((S.setBk gd (AE (S.bk gd)).B).setL (inC gd (AE (S.bk gd)).p f (S.bk gd).l d)) (StD h S Lv Bv Sv bs ss M u gd) C g'->x2 (.int .i64 gd,t4,bs gd,.int .i64 (AE (S.bk gd)).p,u,ptr t10,.int .i64 i) g') :
  lf (Mg (λc h=>R (.pan c) h) x2) (.int .i64 gd,t4,bs gd,.int .i64 (AE (S.bk gd)).p,u,ptr t10,.int .i64 i) (.int .i64 0) g:=by
 have I:=K.bk gd z;have hG:=K.g;have hcl:=K.cl;have hlen:=I.len;have hp:=Lb I
 refine AL (λm s' g=>∃(k:Nat) (cs:Array Value),s' = .int .i64 k/\m=(S.bk gd).l.length-k/\k<=(S.bk gd).l.length/\XS t10 cs ((S.setBk gd (AE (S.bk gd)).B).setL (inC gd (AE (S.bk gd)).p f ((S.bk gd).l.take k) d)) (StD h S Lv Bv Sv bs ss M u gd) C g) (S.bk gd).l.length
  ⟨0,cs,rfl,rfl,by omega,H⟩ ?_
 rintro m s' g ⟨k,cs,rfl,em,hkl,Hg⟩;obtain⟨Hr,hsub,_,HF⟩:=XS.b Hg StD.mono;have Y:=Hr.b gd z;generalize hpv:(AE (S.bk gd)).p=p at *
 by_cases P:k<(S.bk gd).l.length
 ·obtain⟨o,D⟩:=Bp (l:=(S.bk gd).l) (k:=k) P
  have w:=aR (gd:=gd) (p:=p) (f:=f) (L:=d) D;have hro:=Am.1 (I.right o (List.mem_of_getElem? D));have hown:=K.own gd z o (List.mem_of_getElem? D);obtain⟨j,B⟩:∃j:Nat,o.own=j:=⟨o.own.toNat,by omega⟩
  have key:∀J:V7->Value->PH->Prop,(∀g' s,XS t10 s ((S.setBk gd (AE (S.bk gd)).B).setL (inC gd p f ((S.bk gd).l.take (k+1)) d)) (StD h S Lv Bv Sv bs ss M u gd) C g'->J (.int .i64 gd,t4,bs gd,.int .i64 p,u,ptr t10,.int .i64 i) (.int .i64 ((k:Int)+1)) g') ->
    Mg (λc h=>R (.pan c) h) x2 (.int .i64 gd,t4,bs gd,.int .i64 p,u,ptr t10,.int .i64 i) J (.int .i64 k) g:=by
   intro J y;unfold Mg jq5 ivW;have E:(k:Int)<((S.bk gd).l.length:Int):=by omega
   have w1:IntKind.i64.wrap ((k:Int)+1)=(k:Int)+1:=w64 (by omega) (by omega);have wg:IntKind.i64.wrap (1+(gd:Int))=((gd+1:Nat):Int):=by rw[w64 (by omega) (by omega)];omega
   obtain⟨b,off,q1,q2⟩:=EV Y D;obtain⟨b2,off2,q3,q4⟩:=W9 HF hf;have y0:=(q2 g (Sub.refl g)).1 0 (.int .i64 o.id) (by omega) rfl;have y1:=(q2 g (Sub.refl g)).1 1 (.int .i64 o.own) (by omega) rfl;have y5:=(q2 g (Sub.refl g)).1 5 (.bool o.buys) (by omega) rfl;have z0:=q4 g (Sub.refl g) 0 (.int .i64 f.id) (by omega) rfl;have z2:=q4 g (Sub.refl g) 2 (.int .i64 f.am) (by omega) rfl;rw[Nat.add_zero]at y0 z0;simp only[Y.lens,AC,E,B6,AB];refine nT ?_;simp only[q1,q3,AH,Nat.add_zero,y0,z0,BB,AB]
   by_cases c:o.id=f.id
   ·rw[if_pos c,QY I.ids D c]at w
    rw[QY I.ids D c]at Hg;rw[w]at y;refine⟨λe=>absurd e (by simp[c]),λ_=>?_⟩
    -- t gives,whatever the sign
    have t:∀n:Int,n=KG f o->(A0 (some 5) (ptr t10) g λt74=>AR 6 (bs gd) (.int .i64 k) λt77=>vFA 1 t77 λt78=>A0 none t78 g λt79=>A6 Tryz.prog .add 3 (.int .i64 1) (.int .i64 gd) λt81=>AA Tryz.prog 125 #[t74,t79,t81,.int .i64 n] g (λt83 U=>A9 5 (ptr t10) t83 U λF=>A0 (some 5) (ptr t10) F λt84=>AR 6 (bs gd) (.int .i64 k) λt87=>vFA 1 t87 λt88=>A0 none t88 F λt89=>A6 Tryz.prog .mul 3 (.int .i64 p) (.int .i64 n) λt92=>A6 Tryz.prog .sub 3 (.int .i64 0) t92 λt93=>AA Tryz.prog 125 #[t84,t89,(.int .i64 0),t93] F (λt94 T=>A9 5 (ptr t10) t94 T λQ=>J (.int .i64 gd,t4,bs gd,.int .i64 p,u,ptr t10,.int .i64 i) (.int .i64 ((k:Int)+1)) Q) (λc h=>R (.pan c) h)) (λc h=>R (.pan c) h)):=λn hn=>by
     have hnb:-1048576<=n/\n<=1048576:=by rw[hn];unfold KG;split <;> omega
     have hmul:-1152921504606846976<=p*n/\p*n<=1152921504606846976:=by
      rcases Int.le_total 0 n with h0 | h0
      ·have:=Dc hp (show 0<=n/\n<=1048576 by omega);omega
      ·have:=Dc hp (show 0<=-n/\-n<=1048576 by omega)
       rw[Int.mul_neg]at this;omega
     rw[XS.load Hg StD.mono];simp only[q1,AH,y1,AG,wg,CG,Ao];rw[B,w64 (x:=p*n) (by omega) (by omega),w64 (x:=0-p*n) (by omega) (by omega)];have hLn:d.n=S.L.n:=A.2.1;have ho1:=A.1 j (gd+1) (by omega) (by omega);have G:((S.setBk gd (AE (S.bk gd)).B).setL d).G<=4:=by show d.goods.toNat<=4;rw[A.2.2.1];omega
     refine XS.give Hg StD.mono (i:=j) (p:=gd+1) (n:=n) (by show j<d.n;omega) (by omega) (by show d.n<=16;omega) G (by show _<=Ay d j (gd+1)+n/\Ay d j (gd+1)+n<=_;omega) λg2 cs2 H2=>?_;rw[XS.load H2 StD.mono];obtain⟨Z,_,_,_⟩:=XS.b H2 StD.mono;obtain⟨X,r,O,N⟩:=EV (Z.b gd z) D;have y1':=(N g2 (Sub.refl g2)).1 1 (.int .i64 o.own) (by omega) rfl;have V:Value.pointer (some ⟨X,r,none⟩) = .pointer (some ⟨b,off,none⟩):=((q1 (λv=>v = .pointer (some ⟨X,r,none⟩))).1 ((O (λv=>v = .pointer (some ⟨X,r,none⟩))).2 rfl)).symm;injection V with e1
     injection e1 with e2
     injection e2 with e3 e4
     subst e3;subst e4;rw[y1',B];have eh:Ay (BZ d j (gd+1) n) j 0=Ay d j 0:=by rw[DT (by omega) _ (by omega),if_neg (by omega)]
     have ho0:=A.1 j 0 (by omega) (by omega);refine XS.give H2 StD.mono (i:=j) (p:=0) (n:=0-p*n) (by show j<d.n;omega) (by omega) (by show d.n<=16;omega) G (by show _<=Ay (BZ d j (gd+1) n) j 0+(0-p*n)/\Ay (BZ d j (gd+1) n) j 0+(0-p*n)<=_;rw[eh];omega) λg3 W H3=>?_;refine y g3 W ?_
     have eF:Ix gd p d f o=BZ (BZ d j (gd+1) n) j 0 (0-p*n):=by
      unfold Ix;rw[<-hn,B,BR]
     rw[eF];exact H3
    simp only[z2,q1,AH,y5,Bm,AB,Ao];rw[w64 (x:=0-f.am) (by omega) (by omega)];have bp:=t f.am;have bn:=t (0-f.am);simp only[q1,AH,w1,AG]at bp bn ⊢;cases hb:o.buys with
    | true=>exact⟨λe=>absurd e (by simp),λ_=>bp (by unfold KG;rw[hb];rfl)⟩
    | false=>exact⟨λ_=>bn (by unfold KG;rw[hb];rfl),λe=>absurd e (by simp)⟩
   ·rw[if_neg c]at w
    rw[w]at y;refine⟨λ_=>?_,λe=>absurd e (by simp[c])⟩;rw[AG,w1];exact y g cs Hg
  exact key _ λg' s H'=>⟨rfl,(S.bk gd).l.length-(k+1),by omega,k+1,s,rfl,rfl,by omega,H'⟩
 ·have e:k=(S.bk gd).l.length:=by omega
  subst e;unfold Mg jq5 ivW;have E:¬((S.bk gd).l.length:Int)<((S.bk gd).l.length:Int):=by omega
  simp only[Y.lens,AC,E,BW,AB];refine nF ?_;rw[List.take_length]at Hg;exact hX g cs Hg
end
section
variable {h g:PH} {R:RT} {C:PH->Prop} {S:Hs} {Lv Bv Sv:Value} {bs ss:Nat->Value} {gd:Nat}
theorem Uo (H:RHp h S Lv Bv Sv bs ss) (F:S.ok) (z:Snd S) (k:gd<S.G) (hR:∀g v,Sub h g->RH g v (CU S gd)->R (.ret v) g) :
  A7 Tryz.prog 122 #[.agg (rhA S.L.goods S.now Lv Bv Sv),.int .i64 gd] h R:=by
 refine ip ?_;unfold lB zq1 Ep eXW ivW pnW;rw[show Value.cells (.agg (rhA S.L.goods S.now Lv Bv Sv))=rhA S.L.goods S.now Lv Bv Sv from rfl];refine Ai λt2 g1 _ s1 k2=>AX λt4 h4=>?_;have hG:=F.g;have hcl:=F.cl;have V:=F.bk gd k;have D:C3 λq=>RHp q S Lv Bv Sv bs ss/\Sub h q/\q t2=some (rhO S.L.goods S.now Lv Bv Sv):=λa b z H=>⟨H.1.sub z,H.2.1.trans z,z _ _ H.2.2⟩;have H4:(pt t4 (.cells rh0 52 (0,0))•(λq=>RHp q S Lv Bv Sv bs ss/\Sub h q/\q t2=some (rhO S.L.goods S.now Lv Bv Sv))) (ins g1 t4 (.cells rh0 52 (0,0))):=Ar h4 ⟨H.sub s1,s1,k2⟩;revert H4;generalize ins g1 t4 (.cells rh0 52 (0,0))=g2;intro H4;have St:∀g,(pt t4 (.cells rh0 52 (0,0))•(λq=>RHp q S Lv Bv Sv bs ss/\Sub h q/\q t2=some (rhO S.L.goods S.now Lv Bv Sv))) g->RHp g S Lv Bv Sv bs ss/\Sub h g/\g t2=some (rhO S.L.goods S.now Lv Bv Sv):=λg H=>AF D H;obtain⟨Hr,hsub,k22⟩:=St g2 H4;have z3:=λK=>A5 (K:=K) k22 (show (rhA S.L.goods S.now Lv Bv Sv)[3]?=some Bv from rfl);obtain⟨b,off,q1,q2⟩:=Hr.book k;simp only[AH,Ad,Nat.add_zero,z3,q1,(q2 g2 (Sub.refl g2)).1,(q2 g2 (Sub.refl g2)).2]
 refine fr (X:=V2) (val:=λx=>.tuple #[x.1,.int .i64 (AE (S.bk gd)).p,.int .i64 (AE (S.bk gd)).n,x.2]) (Q:=λx q=>RB q x.1 (AE (S.bk gd)).B/\BG q x.2 3 (AE (S.bk gd)).fs.length (DR (AE (S.bk gd)).fs)) (BX H4) D
  (λq l R' hR'=>Xe (l.1.b gd k) V λg' v s z hv hf=>hR' g' (v,s) z ⟨hv,hf⟩) λx g3 H5=>?_
 obtain⟨v,s⟩:=x;simp only[dE,dD,dC,dB];have J:C3 λq=>BG q s 3 (AE (S.bk gd)).fs.length (DR (AE (S.bk gd)).fs)/\RHp q S Lv Bv Sv bs ss/\Sub h q/\q t2=some (rhO S.L.goods S.now Lv Bv Sv):=B3 BG.mono D;have H5':((λq=>RB q v (AE (S.bk gd)).B/\BG q s 3 (AE (S.bk gd)).fs.length (DR (AE (S.bk gd)).fs)/\RHp q S Lv Bv Sv bs ss/\Sub h q/\q t2=some (rhO S.L.goods S.now Lv Bv Sv))•pt t4 (.cells rh0 52 (0,0))) g3:=AU H5 (λq l=>⟨l.1.1,l.1.2,l.2⟩) λ_ h=>h;obtain⟨d,rfl,o1,H6⟩:=RB.get H5' J;refine AX λt6 h6=>?_;refine AN (cs:=rbA d (AE (S.bk gd)).B.next) (AD _ _ _) (by rfl) (by rfl) (by rw[List.all_eq_true];exact one2 o1) ?_;rw[An];have H7:=Ar (o:=.cells (rbA d (AE (S.bk gd)).B.next) 110 (0,0)) h6 H6;revert H7;generalize ins g3 t6 (.cells (rbA d (AE (S.bk gd)).B.next) 110 (0,0))=g4;intro H7;have hmR:=B3 (BG.mono (v:=d) (esz:=6) (n:=(AE (S.bk gd)).B.l.length) (cs:=ordsC (AE (S.bk gd)).B.l)) J;obtain⟨_,_,Hr4,_,k24⟩:=AJ hmR (AF (A8 _ _) H7);rw[AI k24 (off:=0) (n:=5) (by show 0+5<=5;omega),show (rhA S.L.goods S.now Lv Bv Sv).extract 0 (0+5)=rhA S.L.goods S.now Lv Bv Sv from rfl];refine Io H7 (A8 _ _) Hr4 hcl (by omega) λg5 t10 Lv' Z Sv' H8=>?_;have k10:=CP.k H8;simp only[AH,Ad];rw[A5 k10 (v:=Z) rfl,AI (AM (AF (A8 _ _) H8)) (off:=0) (n:=2) (by show 0+2<=2;omega),show (rbA d (AE (S.bk gd)).B.next).extract 0 (0+2)=rbA d (AE (S.bk gd)).B.next from rfl];refine NY (B:=(AE (S.bk gd)).B) H8 k o1 λg6 H9=>?_;have e9:∀X T A P:PH->Prop,X•T•A•P=X•A•T•P:=λ_ _ _ _=>by ac_rfl
 rw[e9]at H9
 have H9':(CP t10 (S.setBk gd (AE (S.bk gd)).B) Lv' Z Sv' (F8 bs gd d) ss•StD h S Lv Bv Sv bs ss d s gd•pt t6 (.cells (rbA d (AE (S.bk gd)).B.next) 110 (0,0))•pt t4 (.cells rh0 52 (0,0))) g6:=
  AU H9 (λ_ h=>h) λ_ h=>AU h (λq l=>⟨l.2.2.1,l.2.2.2.1,l.1,l.2.1⟩) λ_ h=>h
 have Y:=bU H9' (λq l=>⟨λj hj=>by
  unfold F8 Hs.setBk
  by_cases c:j=gd
  ·subst c;simp only[if_true];exact l.2.2.1
  ·simp only[c,if_false];exact l.1.b j hj,λj A w hj ha=>l.1.a j A w hj ha⟩) StD.mono
 obtain⟨u,t,W⟩:=Tk F z k;have N:=W.fs;have e0:(S.setBk gd (AE (S.bk gd)).B)=(S.setBk gd (AE (S.bk gd)).B).setL (GA gd (AE (S.bk gd)).p (S.bk gd).l ((u++t).take 0) S.L):=rfl;rw[e0]at Y;have G:(AE (S.bk gd)).fs.length=(u++t).length:=by rw[N]
 have hle:(AE (S.bk gd)).fs.length<=128:=by
  have h1:=Gy (S.bk gd).l (AE (S.bk gd)).p (AE (S.bk gd)).n;have h2:=V.len;show (DK (S.bk gd).l (AE (S.bk gd)).p (AE (S.bk gd)).n).length<=128;omega
 refine AL (λm s' g=>∃(i:Nat) (cs:Array Value),s' = .int .i64 i/\m=(AE (S.bk gd)).fs.length-i/\i<=(AE (S.bk gd)).fs.length/\XS t10 cs ((S.setBk gd (AE (S.bk gd)).B).setL (GA gd (AE (S.bk gd)).p (S.bk gd).l ((u++t).take i) S.L)) (StD h S Lv Bv Sv bs ss d s gd) (pt t6 (.cells (rbA d (AE (S.bk gd)).B.next) 110 (0,0))•pt t4 (.cells rh0 52 (0,0))) g) (AE (S.bk gd)).fs.length
  ⟨0,_,rfl,rfl,by omega,Y⟩ ?_
 rintro m s' g ⟨i,cs,rfl,em,hi,Hg⟩;obtain⟨_,hsubg,_,HF⟩:=XS.b Hg StD.mono
 by_cases hin:i<(AE (S.bk gd)).fs.length
 ·obtain⟨f,hf⟩:∃f,(AE (S.bk gd)).fs[i]?=some f:=⟨_,Bu hin⟩
  have U:(u++t)[i]?=some f:=by rw[<-N];exact hf
  have hst:GA gd (AE (S.bk gd)).p (S.bk gd).l ((u++t).take (i+1)) S.L=inC gd (AE (S.bk gd)).p f (S.bk gd).l (GA gd (AE (S.bk gd)).p (S.bk gd).l ((u++t).take i) S.L):=by
   have e:(u++t).take (i+1)=(u++t).take i ++ [f]:=by rw[List.take_add_one,U];rfl
   rw[e];unfold GA;rw[List.foldl_append];rfl
  have O:0<=f.am/\f.am<=1048576:=by
   rcases List.mem_append.1 (List.mem_of_getElem? U)with h1 | h1
   ·have:=W.okB f h1;omega
   ·have:=W.okS f h1;omega
  have key:∀(kn:V6->Value->PH->Prop) x0,(∀g' p,XS t10 p ((S.setBk gd (AE (S.bk gd)).B).setL (GA gd (AE (S.bk gd)).p (S.bk gd).l ((u++t).take (i+1)) S.L)) (StD h S Lv Bv Sv bs ss d s gd) (pt t6 (.cells (rbA d (AE (S.bk gd)).B.next) 110 (0,0))•pt t4 (.cells rh0 52 (0,0))) g'->kn (.int .i64 gd,ptr t4,bs gd,.int .i64 (AE (S.bk gd)).p,s,ptr t10) (.int .i64 ((i:Int)+1)) g') ->
    Pg (λc h=>R (.pan c) h) x0 (.int .i64 gd,ptr t4,bs gd,.int .i64 (AE (S.bk gd)).p,s,ptr t10) kn (.int .i64 i) g:=by
   intro kn x0 M;unfold Pg eXW ivW;have E:(i:Int)<((AE (S.bk gd)).fs.length:Int):=by omega
   have w1:IntKind.i64.wrap ((i:Int)+1)=(i:Int)+1:=w64 (by omega) (by omega);simp only[HF.lens,AC,E,B6,AB];refine nT ?_;refine bf F k hf O (eP F W k i) Hg λg' p H'=>?_;intro r I;simp only[Prod.mk.injEq]at I;obtain⟨r1,r4,r5,r7,r9,y,r11⟩:=I;simp only[r1,r4,r5,r7,r9,y,r11,AG,w1];rw[hst]at M;exact M g' p H'
  exact key _ _ λg' p H'=>⟨rfl,(AE (S.bk gd)).fs.length-(i+1),by omega,i+1,p,rfl,rfl,by omega,H'⟩
 ·have e:i=(AE (S.bk gd)).fs.length:=by omega
  subst e;unfold Pg eXW ivW;have E:¬((AE (S.bk gd)).fs.length:Int)<((AE (S.bk gd)).fs.length:Int):=by omega
  simp only[HF.lens,AC,E,BW,AB];refine nF ?_;intro r I;simp only[Prod.mk.injEq]at I;obtain⟨r4,y⟩:=I;simp only[r4,y];rw[G,List.take_length]at Hg;refine XS.ret (K:=λrv h'=>R (.ret rv) h') Hg StD.mono rfl λg' v l hv=>?_;exact hR g' v l.2.1 (hv.eqL (L:=(CU S gd).L) (bi F W k))
end
def ET (L:Led) (w gd:Nat) (p:Int) (got:Nat->Int):Nat->Led
 | 0=>L
 | k+1=>FV (ET L w gd p got k) w k gd p (got k)
theorem Np {L:Led} {s b gd:Nat} {p n:Int} (j:gd<4) (a:Nat):Ay (FV L s b gd p n) a 0=Ay L a 0+(if a=s then p*n else 0)-(if a=b then p*n else 0) /\
  (∀r,r<4->Ay (FV L s b gd p n) a (r+1)=Ay L a (r+1)+(if a=b/\r=gd then n else 0)-if a=s/\r=gd then n else 0)/\IL L (FV L s b gd p n):=by
 have z:∀(M:Led) (i:Nat) (x:Int) (a:Nat),Ay (BZ M i 0 x) a 0=if a=i then Ay M i 0+x else Ay M a 0:=λM i x a=>by
  rw[DT (by omega) a (by omega)]
  by_cases e:a=i
  ·rw[if_pos ⟨e,rfl⟩,if_pos e]
  ·rw[if_neg (λh=>e h.1),if_neg e]
 have g:∀(M:Led) (i:Nat) (x:Int) (a r:Nat),r<4->Ay (BZ M i 0 x) a (r+1)=Ay M a (r+1):=λM i x a r c=>by
  rw[DT (by omega) a (by omega),if_neg (by omega)]
 have y:∀(M:Led) (i:Nat) (x:Int) (a:Nat),Ay (BZ M i (gd+1) x) a 0=Ay M a 0:=λM i x a=>by
  rw[DT (by omega) a (by omega),if_neg (by omega)]
 have f:∀(M:Led) (i:Nat) (x:Int) (a r:Nat),r<4->Ay (BZ M i (gd+1) x) a (r+1)=if a=i/\r=gd then Ay M i (gd+1)+x else Ay M a (r+1):=λM i x a r c=>by
  rw[DT (by omega) a (by omega)]
  by_cases e:a=i/\r=gd
  ·rw[if_pos ⟨e.1,by omega⟩,if_pos e]
  ·rw[if_neg (by omega),if_neg e]
 refine⟨?_,λr c=>?_,Dw (Dw (Dw (Fh (by omega)) (Fh (by omega))) (Fh (by omega))) (Fh (by omega))⟩
 ·unfold FV
  rw[z,z,z,y,y,y,y,y,y]
  by_cases m:a=b <;> by_cases l:a=s <;> by_cases k:b=s <;> simp_all <;> omega
 ·unfold FV
  rw[g _ _ _ _ _ c,g _ _ _ _ _ c,f _ _ _ _ _ c,f _ _ _ _ _ c,f _ _ _ _ gd j]
  by_cases d:r=gd
  ·subst d
   by_cases m:a=b <;> by_cases l:a=s <;> by_cases k:b=s <;> simp_all <;> omega
  ·simp[d]
theorem Q2 {L:Led} (l:Inv L) {gd w:Nat} {p sup:Int} {held got:Nat->Int} (y:(gd:Int)<L.goods) (h:w<L.n) (o:0<=p) (c:∀i,i<L.n->0<=got i) (f:∀i,i<L.n->p*got i<=held i) (x:∀i,i<L.n->held i<=L.f i 1)
  (B:AS got L.n<=sup) (C:sup<=L.f w (6+gd)):∀k,k<=L.n->(∀a q,q<5->Ay (ET L w gd p got k) a q=Ay (Be gd w p held got (L,sup) k).1 a q)/\IL L (ET L w gd p got k)
 | 0,_=>⟨λ_ _ _=>rfl,OZ L⟩
 | k+1,hk=>by
  obtain⟨A,G⟩:=Q2 l y h o c f x B C k (by omega);obtain⟨V,I,H⟩:=R8 l y h o c f x B C k (by omega);obtain⟨F,z,E⟩:=Gk l gd h p held got sup k (by omega);have K:=l.gd;have e:Be gd w p held got (L,sup) (k+1)=Gj gd w p held got (Be gd w p held got (L,sup) k) k:=rfl;have d:ET L w gd p got (k+1)=FV (ET L w gd p got k) w k gd p (got k):=rfl;rw[e,d];generalize Be gd w p held got (L,sup) k=t at *;generalize ET L w gd p got k=T at *;have O:=c k (by omega);have N:=f k (by omega);have J:=x k (by omega);have u:=M9 (k:=k+1) c hk;have W:AS got (k+1)=AS got k+got k:=rfl;have Q:t.1.f k 1=L.f k 1:=by rw[I,if_neg (by omega)];omega
  have P:t.1.f w (6+gd)=L.f w (6+gd)-AS got k:=by rw[H w gd (by omega),if_pos ⟨rfl,rfl⟩]
  obtain⟨U,S⟩:=Vv (L:=t.1) (i:=w) (j:=k) (g:=gd) (n:=got k) (p:=p) F (by rw[z];exact h) (by rw[z];omega) (by rw[E];exact y) O o (by rw[P];omega) (by rw[Q];omega);have h0:∀(M:Led) a,Ay M a 0=M.f a 0:=λM a=>by unfold Ay;rw[if_pos rfl]
  have D:∀(M:Led) a r,Ay M a (r+1)=M.f a (2+r):=λM a r=>by unfold Ay;rw[if_neg (by omega),show r+1+1=2+r by omega]
  have v:∀a q,q<5->Ay (Gj gd w p held got t k).1 a q=Ay (BJ t.1 w k gd p (got k)) a q:=λa q m=>by
   unfold Ay;exact (Ik (BJ t.1 w k gd p (got k)) k (p*got k-held k)).2.2.2 a _ (by split <;> omega)
  refine⟨λa q m=>?_,Dw G (Np (show gd<4 by omega) 0).2.2⟩;rw[v a q m];obtain⟨d0,d1,_⟩:=Np (L:=T) (s:=w) (b:=k) (p:=p) (n:=got k) (show gd<4 by omega) a
  rcases Nat.eq_zero_or_pos q with rfl | hq0
  ·rw[d0,A a 0 (by omega),h0,h0,U]
  ·obtain⟨r,rfl⟩:∃r,q=r+1:=⟨q-1,by omega⟩
   rw[d1 r (by omega),A a (r+1) m,D,D,S a r (by omega)]
theorem eO {S:Hs} (h:S.ok) (O:Snd S) {gd:Nat} (e:gd<S.G) {A:Auc} {w:Int} (j:S.au gd=some (A,w)) (d:(AV A).1=true) :
  (∀k,k<=S.L.n->(∀a q,a<S.L.n->q<5->0<=Ay (ET S.L w.toNat gd (BD (AV A).2.2).1 (BD (AV A).2.2).2 k) a q/\Ay (ET S.L w.toNat gd (BD (AV A).2.2).1 (BD (AV A).2.2).2 k) a q<=1099511627776)/\IL S.L (ET S.L w.toNat gd (BD (AV A).2.2).1 (BD (AV A).2.2).2 k)) /\
  eqC (ET S.L w.toNat gd (BD (AV A).2.2).1 (BD (AV A).2.2).2 S.L.n) (CW S gd).L/\CW S gd=(S.setAu gd none).setL (CW S gd).L:=by
 have hg:=h.g;obtain⟨J,B,I,X,W⟩:=h.au gd A w e j;have z:=IJ J;have eH:∀i:Nat,CM S i gd=Ah (DB i) (S.bk gd).l+Ae A i:=λi=>by unfold CM auW;rw[j]
 have Z:∀i:Nat,DV S i gd=Ah (Bz i) (S.bk gd).l+if w=i then A.sup else 0:=λi=>by unfold DV auK;rw[j]
 have v:∀i,i<S.L.n->Ae A i<=S.L.f i 1:=λi hi=>by
  have K:=GE h O hi e;have Y:=Cg (f:=DB i) (l:=(S.bk gd).l) λx F=>Ga ((h.bk gd e).right x F);rw[eH]at K;omega
 obtain⟨N,V,U⟩:=Ii B d
 have H:∃s,(AV A).2.2 = {A with ste:=s}:=by
  unfold AV at d ⊢;rw[if_neg (by simp[B])]at d ⊢
  split
  ·exact⟨_,rfl⟩
  ·rename_i c;rw[if_neg c]at d
   split
   ·exact⟨_,rfl⟩
   ·rename_i c;rw[if_neg c]at d;cases d
 obtain⟨s,H⟩:=H;have m:∀i:Nat,Ae (AV A).2.2 i=Ae A i:=λi=>by rw[H];rfl
 have o:=L8 z N;obtain⟨y,n⟩:=W4 z N;rw[V]at o y n;rw[U]at n;obtain⟨b,rfl⟩:∃b:Nat,w=b:=⟨w.toNat,by omega⟩;rw[BR]
 have r:A.sup<=S.L.f b (6+gd):=by
  have K:=O.lock b gd (by omega) (by omega);rw[if_pos e,Z,if_pos rfl]at K;have Y:=Cg (f:=Bz b) (l:=(S.bk gd).l) λx F=>I8 ((h.bk gd e).right x F);omega
 have T:=Q2 (L:=S.L) h.led (gd:=gd) (w:=b) (p:=(BD (AV A).2.2).1) (sup:=A.sup) (held:=λi=>Ae A i) (got:=(BD (AV A).2.2).2) (by omega) (by omega) o.1.1
  (λi hi=>(o.2 i (by omega)).1) (λi hi=>by rw[<-m];exact y i (by omega)) v (by rw[<-I];exact n) r
 have Q:CW S gd=(S.setAu gd none).setL (BY (Be gd b (BD (AV A).2.2).1 (λi:Nat=>Ae A i) (BD (AV A).2.2).2 (S.L,A.sup) S.L.n).1 b gd (-(Be gd b (BD (AV A).2.2).1 (λi:Nat=>Ae A i) (BD (AV A).2.2).2 (S.L,A.sup) S.L.n).2)):=by
  unfold CW;rw[j];simp only;rw[d,if_neg (by simp),BR]
 refine⟨λk u=>⟨λa q P G=>?_,(T k u).2⟩,?_,by rw[Q];rfl⟩
 ·obtain⟨M,D,C⟩:=Gk h.led gd (w:=b) (by omega) (BD (AV A).2.2).1 (λi=>Ae A i) (BD (AV A).2.2).2 A.sup k u
  rw[(T k u).1 a q G];unfold Ay;exact M.small.num a _ (by rw[D];exact P) (by split <;> omega)
 ·obtain⟨M,D,C⟩:=Gk h.led gd (w:=b) (by omega) (BD (AV A).2.2).1 (λi=>Ae A i) (BD (AV A).2.2).2 A.sup S.L.n (Nat.le_refl _)
  have g:=Sp h e;rw[Q]at g ⊢;show eqC _ (BY _ b gd _);obtain⟨t1,t2⟩:=T S.L.n (Nat.le_refl _);have hsame':Cf S.L (BY (Be gd b (BD (AV A).2.2).1 (λi:Nat=>Ae A i) (BD (AV A).2.2).2 (S.L,A.sup) S.L.n).1 b gd (-(Be gd b (BD (AV A).2.2).1 (λi:Nat=>Ae A i) (BD (AV A).2.2).2 (S.L,A.sup) S.L.n).2)):=g;generalize Be gd b (BD (AV A).2.2).1 (λi:Nat=>Ae A i) (BD (AV A).2.2).2 (S.L,A.sup) S.L.n=t at *;have E:=KW (L:=t.1) (by rw[C];exact h.led.gd) b (gd:Int) (-t.2);refine bI (by rw[E.1,D,t2.1]) (by rw[E.2.1,C,t2.2.1]) (λa P q G=>?_) (λa=>by rw[hsame'.1,t2.2.2.2]) (by rw[hsame'.2,t2.2.2.1]);rw[t1 a q G];unfold Ay;exact E.2.2.2 a _ (by split <;> omega)
theorem fm {S:Hs} (p:S.ok) (V:Snd S) {gd:Nat} (n:gd<S.G) {A:Auc} {w:Int} (o:S.au gd=some (A,w)) (a:(AV A).1=false) :
  (∀k,k<S.L.n->(BT (λi:Nat=>Ae A i) (S.L,(AV A).2.2) (k+1)).2=(DZ (BT (λi:Nat=>Ae A i) (S.L,(AV A).2.2) k).2 k (min ((BT (λi:Nat=>Ae A i) (S.L,(AV A).2.2) k).2.was k) ((S.L.f k 0-S.L.f k 1+Ae A k).tdiv (BT (λi:Nat=>Ae A i) (S.L,(AV A).2.2) k).2.price))).2) /\
  (∀k,k<=S.L.n->(BT (λi:Nat=>Ae A i) (S.L,(AV A).2.2) k).2.ok/\(BT (λi:Nat=>Ae A i) (S.L,(AV A).2.2) k).2.ste=0/\(BT (λi:Nat=>Ae A i) (S.L,(AV A).2.2) k).2.n=S.L.n/\0<(BT (λi:Nat=>Ae A i) (S.L,(AV A).2.2) k).2.price) /\
  IM S.L (BT (λi:Nat=>Ae A i) (S.L,(AV A).2.2) S.L.n).1/\CW S gd=(S.setAu gd (some ((BT (λi:Nat=>Ae A i) (S.L,(AV A).2.2) S.L.n).2,w))).setL (BT (λi:Nat=>Ae A i) (S.L,(AV A).2.2) S.L.n).1:=by
 have hg:=p.g;obtain⟨h,s,B,U,T⟩:=p.au gd A w n o;have d:=IJ h;have eH:∀i:Nat,CM S i gd=Ah (DB i) (S.bk gd).l+Ae A i:=λi=>by unfold CM auW;rw[o]
 have m:∀i,i<S.L.n->Ae A i<=S.L.f i 1:=λi hi=>by
  have I:=GE p V hi n;have H:=Cg (f:=DB i) (l:=(S.bk gd).l) λx Q=>Ga ((p.bk gd n).right x Q);rw[eH]at I;omega
 obtain⟨G,P,N⟩:=JF s h.rnd a
 have z:(AV A).2.2 = {A with rnd:=A.rnd+1,was:=λi=>if i<A.n then A.now i else A.was i}:=by
  unfold AV at a ⊢;rw[if_neg (by simp[s])]at a ⊢
  split
  ·rename_i c;rw[if_pos c]at a;cases a
  ·rename_i c;rw[if_neg c]at a
   split
   ·rename_i c;rw[if_pos c]at a;cases a
   ·rfl
 have y:(AV A).2.2.last=A.price:=by
  have hr:=h.rnd;rw[z];unfold Auc.last Auc.price;simp only;rw[if_neg (by omega)]
  have e:(A.rnd+1-1)*A.stp=(A.rnd-1)*A.stp+A.stp:=by
   rw[show A.rnd+1-1=(A.rnd-1)+1 by omega,Int.add_mul];omega
  omega
 have v:∀i,i<(AV A).2.2.n->(AV A).2.2.was i=(AV A).2.2.now i:=λi hi=>by
  rw[z]at hi ⊢;exact if_pos hi
 have X:∀i,i<S.L.n->(AV A).2.2.was i*(AV A).2.2.last<=Ae A i/\0<=Ae A i/\Ae A i<=S.L.f i 1:=λi hi=>by
  refine⟨?_,(Dr h i).1,m i hi⟩;rw[y,z];simp only;rw[if_pos (by omega)];unfold Ae;have:B4 A i=(A.was i,A.now i):=by unfold B4;rw[if_neg (by omega),BR]
  rw[this];simp only;omega
 have F:=RG (L:=S.L) p.led d G (by rw[P,B]) N v (held:=λi:Nat=>Ae A i) X;have O:=JC (L:=S.L) (A:=(AV A).2.2) p.led d (λi:Nat=>Ae A i)
 have q:0<(AV A).2.2.price:=by
  have I:=d.sta;have H:=d.stp;have h3:1*1<=((AV A).2.2.rnd-1)*(AV A).2.2.stp:=Int.mul_le_mul (by omega) H.1 (by omega) (by omega);unfold Auc.price;omega
 have Y:CW S gd=(S.setAu gd (some ((BT (λi:Nat=>Ae A i) (S.L,(AV A).2.2) S.L.n).2,w))).setL (BT (λi:Nat=>Ae A i) (S.L,(AV A).2.2) S.L.n).1:=by
  unfold CW;rw[o];simp only;rw[a,if_pos rfl]
 refine⟨λk g=>?_,λk g=>?_,?_,Y⟩
 ·obtain⟨⟨b,r,u⟩,i2,t⟩:=F k (by omega)
  have W:k<(BT (λi:Nat=>Ae A i) (S.L,(AV A).2.2) k).2.n:=by rw[r];show k<(AV A).2.2.n;omega
  have f0:=t k 0 (by omega);have f1:=i2 k g;rw[if_neg (by omega),Int.add_zero]at f1;show (E9 (λi:Nat=>Ae A i) (BT (λi:Nat=>Ae A i) (S.L,(AV A).2.2) k) k).2=_;unfold E9;simp only;rw[f0,f1]
  have Z:B4 (BT (λi:Nat=>Ae A i) (S.L,(AV A).2.2) k).2 k=((BT (λi:Nat=>Ae A i) (S.L,(AV A).2.2) k).2.was k,(BT (λi:Nat=>Ae A i) (S.L,(AV A).2.2) k).2.now k):=by
   unfold B4;rw[if_neg (by omega),BR]
  rw[Z]
 ·obtain⟨⟨b,r,u⟩,_,_⟩:=F k g
  obtain⟨M,E,D,C,K,J⟩:=O k g;refine⟨C,by rw[r];exact G,by rw[r];show (AV A).2.2.n=_;omega,?_⟩;rw[r];exact q
 ·obtain⟨_,_,t⟩:=F S.L.n (Nat.le_refl _)
  obtain⟨M,E,D,C,K,J⟩:=O S.L.n (Nat.le_refl _);have j:=RI (λi:Nat=>Ae A i) (S.L,(AV A).2.2) S.L.n;exact⟨E,D,j.2,λi c hc=>t i c (by omega)⟩
section
variable {h g:PH} {R:RT} {C:PH->Prop} {S:Hs} {Lv Bv Sv:Value} {bs ss:Nat->Value} {o:OpV}
theorem Zo (a:S.ok) {i:Nat} (hi:i<S.L.n):∀g A w,g<S.G->S.au g=some (A,w)->i<A.n:=λg A w b c=>by have:=(a.au g A w b c).2.2.1;omega
theorem ZT {i:Nat} (H:RHp h S Lv Bv Sv bs ss) (a:S.ok) (b:Snd S) (hi:i<S.L.n) (c:R (.ret (.int .i64 (S.L.f i 0-S.L.f i 1))) h) :
  A7 Tryz.prog 126 #[.agg (rhA S.L.goods S.now Lv Bv Sv),.int .i64 i,.int .i64 0] h R:=by
 refine ID (p:=0) H (by omega) (OJ a) hi (Zo a hi) (LR a b hi (by omega)) (MR a hi (by omega)) ?_;rw[(HV a b hi).1];exact c
theorem ZS {i gd:Nat} (H:RHp h S Lv Bv Sv bs ss) (a:S.ok) (c:Snd S) (hi:i<S.L.n) (b:gd<S.G) (d:R (.ret (.int .i64 (S.L.f i (2+gd)-S.L.f i (6+gd)))) h) :
  A7 Tryz.prog 126 #[.agg (rhA S.L.goods S.now Lv Bv Sv),.int .i64 i,.int .i64 ((gd+1:Nat):Int)] h R:=by
 have f:=a.g;refine ID (p:=gd+1) H (by omega) (OJ a) hi (Zo a hi) (LR a c hi (by omega)) (MR a hi (by omega)) ?_;rw[(HV a c hi).2 gd b];have e:Ay S.L i (gd+1)=S.L.f i (2+gd):=by unfold Ay;rw[if_neg (by omega),show gd+1+1=2+gd by omega]
 rw[e];exact d
theorem XT {B:Bk} {e E:Value} {nx id p m:Int} {k:Nat} {x:Ord} (H:BG h e 6 B.l.length (ordsC B.l)) (W:B.l.length<=64) (L:idx B.l id=some k) (V:B.l[k]?=some x)
  (hR:∀g v,Sub h g->RB g v {next:=nx,l:=B.l.set k {x with pr:=p,am:=m}}->R (.ret v) g) :
  A7 Tryz.prog 132 #[.agg (rbA e B.next),.agg (rbA E nx),.int .i64 id,.int .i64 p,.int .i64 m] h R:=by
 refine ia ?_;unfold kq Ep FP pnW;rw[show Value.cells (.agg (rbA e B.next))=rbA e B.next from rfl,show Value.cells (.agg (rbA E nx))=rbA E nx from rfl];refine Ai λt5 g1 _ Q U=>Ai λt6 b _ z k6=>AX λt10 M=>?_;have D:(pt t10 (.cells #[.slice none 0 0,.int .i64 0] 110 (0,0))•Own b) (ins b t10 (.cells #[.slice none 0 0,.int .i64 0] 110 (0,0))):=Ar M (Sub.refl b);revert D;generalize ins b t10 (.cells #[.slice none 0 0,.int .i64 0] 110 (0,0))=g3;intro D;have P:Sub b g3:=AF Own.mono D;have b0:∀G,Sub b G->∀K,A0 none (.pointer (some ⟨t5,0,none⟩)) G K↔K e:=λG t K=>A5 (t _ _ (z _ _ U)) rfl
 have b2:∀G,Sub b G->∀K,A0 (some 2) (.pointer (some ⟨t5,0,none⟩)) G K↔K (.agg (rbA e B.next)):=λG t K=>by
  rw[AI (t _ _ (z _ _ U)) (off:=0) (n:=2) (by show 0+2<=2;omega)];rfl
 have n1:∀G,Sub b G->∀K,A0 none (.pointer (some ⟨t6,1,none⟩)) G K↔K (.int .i64 nx):=λG t K=>A5 (t _ _ k6) rfl;have y:=H.sub (Q.trans z);simp only[AH,Ad,b0 g3 P,show (0<6)from by omega,show (0<48)from by omega,show (Array.size #[(.int .i64 0:Value),(.int .i64 0:Value),(.int .i64 0:Value),(.int .i64 0:Value),(.int .i64 0:Value),(.bool false:Value)]=6)from rfl,true_and];refine HY D (y.sub P) (by simp only[roomBytes];omega) λZ c H4=>?_;have O:Sub b Z:=AF Own.mono (AF (A8 _ _) H4);rw[b2 Z O];refine RJ (y.sub O) (by omega) ?_;rw[FJ L];simp only[AK.elim];have u:=(Bc.1 V).1;obtain⟨h0,hc0,ob⟩:=Iw H4
 obtain⟨bb,cap,s,I⟩:=WL (K:=λg=>AR 6 c (.int .i64 k) λt28=>vFA 3 t28 λt29=>A9 1 t29 (.int .i64 m) g λw=>A0 none (.pointer (some ⟨t6,1,none⟩)) w λt32=>BA [(0,1),(1,1)] #[.slice none 0 0,.int .i64 0] [(0,c),(1,t32)] λt33=>A9 2 (.pointer (some ⟨t10,0,none⟩)) t33 w λa=>A0 (some 2) (.pointer (some ⟨t10,0,none⟩)) a λf=>R (.ret f) a)
  (o':={x with pr:=p}) (off:=2) (v:=.int .i64 p) ob V (by show 2+1<=6;omega) rfl (λj J=>by
   show _=if 2<=j/\j<2+1 then _ else _
   match j,J with
   | 0,_=>rfl
   | 1,_=>rfl
   | 2,_=>rfl
   | 3,_=>rfl
   | 4,_=>rfl
   | 5,_=>rfl) (λg5 q=>by
   have F:(B.l.set k {x with pr:=p})[k]?=some {x with pr:=p}:=List.getElem?_set_self u;have N:(B.l.set k {x with pr:=p}).length=B.l.length:=List.length_set;rw[<-N]at q
   obtain⟨bb2,cap2,d,r⟩:=WL (K:=λg=>A0 none (.pointer (some ⟨t6,1,none⟩)) g λt32=>BA [(0,1),(1,1)] #[.slice none 0 0,.int .i64 0] [(0,c),(1,t32)] λt33=>A9 2 (.pointer (some ⟨t10,0,none⟩)) t33 g λa=>A0 (some 2) (.pointer (some ⟨t10,0,none⟩)) a λf=>R (.ret f) a)
    (o':={x with pr:=p,am:=m}) (off:=3) (v:=.int .i64 m) q F (by show 3+1<=6;omega) rfl (λj J=>by
     show _=if 3<=j/\j<3+1 then _ else _
     match j,J with
     | 0,_=>rfl
     | 1,_=>rfl
     | 2,_=>rfl
     | 3,_=>rfl
     | 4,_=>rfl
     | 5,_=>rfl) (λY i=>by
     rw[List.set_set,N]at i;have A:=D0 hc0 i;have s6:Sub b Y:=AF Own.mono (AF (A8 _ _) A);have T:=BL (AJ OS.mono A);rw[n1 Y s6];refine⟨_,Jp T _,?_⟩;rw[Es]at A;refine Cc (K:=λf h'=>R (.ret f) h') A (A8 _ _) rfl rfl (one2 T) λX H7=>?_;have s7:Sub b X:=AF Own.mono H7;refine hR X _ (Q.trans (z.trans s7)) ⟨c,rfl,?_⟩;have:=CC (AJ OS.mono H7) Cy;rw[List.length_set];exact this) rfl
   have hle:k<(B.l.set k {x with pr:=p}).length:=by rw[N];exact u
   rw[d,B9];refine⟨by omega,by omega,?_⟩;rw[show 0+(k:Int).toNat*6=k*6 by omega,AH];rw[<-d];exact r) rfl
 rw[s,B9];refine⟨by omega,by omega,?_⟩;rw[show 0+(k:Int).toNat*6=k*6 by omega,AH];rw[<-s];exact I
end
def RAu (h:PH) (v:Value) (A:Auc):Prop:=∃a,v = .agg (raA A a)/\Dl h a A
theorem RAu.mono {v:Value} {A:Auc}:C3 λq=>RAu q v A:=λa b hs ⟨rv,e,H⟩=>⟨rv,e,H.sub hs⟩
abbrev raO (A:Auc) (rv:Value):Obj:=.cells (raA A rv) 113 (0,0)
abbrev ra0:Array Value:=#[.int .i64 0,.int .i64 0,.int .i64 0,.int .i64 0,.slice none 0 0]
theorem Hi {A:Auc} {a:Value} (h:a.oneCell'=true):∀x∈(raA A a).toList,x.oneCell'=true:=λx b=>by
 simp only[raA,List.mem_cons,List.not_mem_nil,or_false]at b
 rcases b with rfl | rfl | rfl | rfl | rfl
 ·rfl
 ·rfl
 ·rfl
 ·rfl
 ·exact h
section
variable {h g:PH} {R:RT} {C:PH->Prop} {A:Auc} {rv:Value}
theorem Wh (z v:Value) (a:v.cells=#[v]):Instr.fill (λi=>some (i*1,1)) (rep #[z] (1*1)) [(0,v)]=some #[v]:=by
 have e:Array.range 1=#[0]:=by decide
 simp[Instr.fill,rep,a,e]
theorem Ld {v:Value} (h:v.oneCell'=true):v.cells=#[v]:=by cases v <;> first | rfl | cases h
theorem Ki {e:TypeId} {z v s:Value} {bytes n:Nat} {l:List Value} {K:Value->PH->Prop} (H:(OS e 1 s n l•C) g) (p:v.oneCell'=true) (y:(n+1)*bytes<=roomBytes) (B:∀g' j,(OS e 1 j (n+1) (l ++ [v])•C) g'->K j g') :
  Aj e 1 1 #[z] [(0,v)] g λt b=>Ab false e 1 bytes s t b K:=by
 refine⟨_,Wh z v (Ld p),λd q=>?_⟩;obtain⟨h0,D,o⟩:=Iw H
 refine Db (m:=1) (news:=[v]) (o.up (AT _ q)) y (by omega) rfl
  (λN i=>.inr (.inr ⟨rfl,d,0,1,1,_,_,_,rfl,AD _ _ _,by show 0+1*1<=1;omega,λx f=>?_,i⟩)) (λM k G J f I cap a=>?_) λE w c=>B E w (D0 D c)
 ·have:x∈[v]:=f
  simp at this;rw[this];exact p
 ·cases f
  intro F
  rcases o.buf with⟨b,_⟩ | ⟨g',L,u,b,r,_⟩
  ·rw[b]at a;cases a
  ·rw[b]at a;cases a;rw[<-F,q]at r;cases r
theorem E3 (f:Nat->Int) (n:Nat):∀x∈D5 f n,x.oneCell'=true:=λx a=>by
 unfold D5 at a;obtain⟨i,_,rfl⟩:=List.mem_map.1 a
 rfl
theorem O1 (f:Nat->Int) (n:Nat):(D5 f n).length=n:=by unfold D5;rw[List.length_map,List.length_range]
theorem IC (f:Nat->Int) (n:Nat):D5 f (n+1)=D5 f n ++ [.int .i64 (f n)]:=by unfold D5;rw[List.range_succ,List.map_append];rfl
theorem LF (f:Nat->Int) {n i:Nat} (hi:i<n) (v:Int):(D5 f n).set i (.int .i64 v)=D5 (λk=>if k=i then v else f k) n:=by
 apply List.ext_getElem?;intro j;rw[List.getElem?_set]
 by_cases c:i=j
 ·subst c
  rw[if_pos rfl,if_pos (by rw[O1];exact hi),G8 hi];simp
 ·rw[if_neg c]
  rcases Nat.lt_or_ge j n with h | h
  ·rw[G8 h,G8 h]
   simp[Ne.symm c]
  ·rw[List.getElem?_eq_none (by rw[O1];exact h),List.getElem?_eq_none (by rw[O1];exact h)]
theorem If {f a:Nat->Int} {n:Nat} (h:∀i,i<n->f i=a i):D5 f n=D5 a n:=by
 unfold D5;exact List.map_congr_left λi hi=>by rw[h i (List.mem_range.1 hi)]
theorem Sr {s t p n:Int} (hn:n<=16)
  (hR:∀g v,Sub h g->(if 1<=s/\s<=1048576/\0<=t/\t<=1099511627776/\1<=p/\p<=1099511627776/\1<=n/\n<=16 then RAu g v (CS s t p n)else v = .agg ra0) ->
   R (.ret (.tuple #[v,.bool (decide (1<=s/\s<=1048576/\0<=t/\t<=1099511627776/\1<=p/\p<=1099511627776/\1<=n/\n<=16))])) g) :
  A7 Tryz.prog 128 #[.int .i64 s,.int .i64 t,.int .i64 p,.int .i64 n] h R:=by
 refine ii ?_;unfold kv Iz eXW gAW gGW ivW pnW;refine AX λt8 h8=>?_;have H1:(pt t8 (.cells ra0 113 (0,0))•Own h) (ins h t8 (.cells ra0 113 (0,0))):=Ar h8 (Sub.refl h);revert H1;generalize ins h t8 (.cells ra0 113 (0,0))=g1;intro H1;refine Ai λt10 L _ s2 k10=>?_;have H2:=EF H1 s2
 have l5:∀K,A0 (some 5) (.pointer (some ⟨t10,0,none⟩)) L K↔K (.agg ra0):=λK=>by
  rw[AI k10 (off:=0) (n:=5) (by show 0+5<=5;omega)];rfl
 have I:¬(1<=s/\s<=1048576/\0<=t/\t<=1099511627776/\1<=p/\p<=1099511627776/\1<=n/\n<=16) ->
   A0 (some 5) (.pointer (some ⟨t10,0,none⟩)) L λt43=>A9 5 (.pointer (some ⟨t8,0,none⟩)) t43 L λj=>A0 (some 5) (.pointer (some ⟨t8,0,none⟩)) j λrv=>R (.ret (.tuple #[rv,(.bool false)])) j:=λE=>by
  rw[l5];refine Cc (K:=λrv h'=>R (.ret (.tuple #[rv,.bool false])) h') H2 Own.mono rfl rfl (λx G=>?_) λg' hs=>?_
  ·simp only[ra0,List.mem_cons,List.not_mem_nil,or_false]at G
   rcases G with rfl | rfl | rfl | rfl | rfl <;> rfl
  ·have:=hR g' (.agg ra0) hs (by rw[if_neg E])
   rw[decide_eq_false E]at this;exact this
 obtain⟨X,D⟩:∃c,c=decide (s<1):=⟨_,rfl⟩;obtain⟨W,B⟩:∃c,c=decide (1048576<s):=⟨_,rfl⟩;obtain⟨V,z⟩:∃c,c=decide (t<0):=⟨_,rfl⟩;obtain⟨U,y⟩:∃c,c=decide (1099511627776<t):=⟨_,rfl⟩;obtain⟨S,w⟩:∃c,c=decide (p<1):=⟨_,rfl⟩;obtain⟨N,u⟩:∃c,c=decide (1099511627776<p):=⟨_,rfl⟩;obtain⟨M,q⟩:∃c,c=decide (n<1):=⟨_,rfl⟩;have v1:∀K,A6 Tryz.prog .lss 3 (.int .i64 s) (.int .i64 1) K↔K (.bool X):=λK=>by rw[AC,D]
 have v2:∀K,A6 Tryz.prog .gtr 3 (.int .i64 s) (.int .i64 1048576) K↔K (.bool W):=λK=>by rw[At,B]
 have v3:∀K,A6 Tryz.prog .lss 3 (.int .i64 t) (.int .i64 0) K↔K (.bool V):=λK=>by rw[AC,z]
 have v4:∀K,A6 Tryz.prog .gtr 3 (.int .i64 t) (.int .i64 1099511627776) K↔K (.bool U):=λK=>by rw[At,y]
 have v5:∀K,A6 Tryz.prog .lss 3 (.int .i64 p) (.int .i64 1) K↔K (.bool S):=λK=>by rw[AC,w]
 have v6:∀K,A6 Tryz.prog .gtr 3 (.int .i64 p) (.int .i64 1099511627776) K↔K (.bool N):=λK=>by rw[At,u]
 have v7:∀K,A6 Tryz.prog .lss 3 (.int .i64 n) (.int .i64 1) K↔K (.bool M):=λK=>by rw[AC,q]
 have v8:∀K,A6 Tryz.prog .gtr 3 (.int .i64 n) (.int .i64 16) K↔K (.bool false):=λK=>by rw[At,decide_eq_false (by omega)]
 have f:(1<=s/\s<=1048576/\0<=t/\t<=1099511627776/\1<=p/\p<=1099511627776/\1<=n/\n<=16)↔X=false/\W=false/\V=false/\U=false/\S=false/\N=false/\M=false:=by
  rw[D,B,z,y,w,u,q];simp only[D9];omega
 clear D B z y w u q
 by_cases E:X=false/\W=false/\V=false/\U=false/\S=false/\N=false/\M=false
 ·have hg:=f.2 E
  obtain⟨rfl,rfl,rfl,rfl,rfl,rfl,rfl⟩:=E;have H:=λg v hs hv=>hR g v hs (by rw[if_pos hg];exact hv);rw[decide_eq_true hg]at H;clear hR I;simp only[v1,v2,v3,v4,v5,v6,v7,v8,AZ,C7,CI,ne_eq,Bx,C1,and_true,Al,cond_false,AB,Ba,true_and];obtain⟨m,rfl⟩:∃m:Nat,n=m:=⟨n.toNat,by omega⟩;have H3:(OS 3 1 (.slice none 0 0) 0 (D5 (λ_=>0) 0)•pt t8 (.cells ra0 113 (0,0))•Own h) L:=D0 H2 ⟨Sub.refl _,rfl,.inl ⟨rfl,rfl,rfl⟩⟩;refine AL (λk J g=>∃(i:Nat) (b:Value),J=(b,.int .i64 i)/\k=m-i/\i<=m/\(OS 3 1 b i (D5 (λ_=>0) i)•pt t8 (.cells ra0 113 (0,0))•Own h) g) m ⟨0,_,rfl,rfl,by omega,H3⟩ ?_;rintro k J g ⟨i,b,rfl,em,hi,Hg⟩
  by_cases hin:i<m
  ·have key:∀(kn:V5->V2->PH->Prop) Kp x0,(∀g' a,(OS 3 1 a (i+1) (D5 (λ_=>0) (i+1))•pt t8 (.cells ra0 113 (0,0))•Own h) g'->kn (.int .i64 s,.int .i64 t,.int .i64 p,.int .i64 m,ptr t8) (a,.int .i64 ((i:Int)+1)) g') ->
     Pf Kp x0 (.int .i64 s,.int .i64 t,.int .i64 p,.int .i64 m,ptr t8) kn (b,.int .i64 i) g:=by
    intro kn Kp x0 hkn;unfold Pf ivW;have l:(i:Int)<(m:Int):=by omega
    have w1:IntKind.i64.wrap ((i:Int)+1)=(i:Int)+1:=w64 (by omega) (by omega);simp only[AC,l,B6,AB,AG,w1,show (1*1<=2^24)from by omega,show (0<1)from by omega,show (0<8)from by omega,show (Array.size #[(.int .i64 0:Value)]=1)from rfl,true_and];refine nT ?_;refine Ki Hg rfl (by simp only[roomBytes];omega) λg' J Z=>?_;rw[show D5 (λ_=>0) i ++ [Value.int .i64 0]=D5 (λ_=>0) (i+1)from (IC _ _).symm]at Z;exact hkn g' J Z
   exact key _ _ _ λg' a Z=>⟨rfl,m-(i+1),by omega,i+1,a,rfl,rfl,by omega,Z⟩
  ·have e:i=m:=by omega
   subst e;unfold Pf ivW;have l:¬(i:Int)<(i:Int):=by omega
   simp only[AC,l,BW,AB];refine nF ?_;intro r hr;simp only[Prod.mk.injEq]at hr;obtain⟨r0,r1,r2,r8,r11⟩:=hr;simp only[r0,r1,r2,r8,r11,show (1*1<=2^24)from by omega,true_and];have F:=BL (AJ OS.mono Hg);refine⟨_,Wh _ b (Ld F),λd hd=>?_⟩;have Y:=Ar (o:=.cells #[b] 145 (0,0)) hd Hg;revert Y;generalize ins g d (.cells #[b] 145 (0,0))=g5;intro Y;refine⟨raA (CS s t p i) (.slice (some ⟨d,0,none⟩) 1 1),by simp[Instr.fill,Value.cells,raA,CS],?_⟩;have e5:∀P O T Q:PH->Prop,P•O•T•Q=T•(P•O•Q):=λ_ _ _ _=>by ac_rfl
   rw[e5]at Y;refine Cc (K:=λrv h'=>R (.ret (.tuple #[rv,.bool true])) h') Y (A8 _ _) rfl rfl (Hi rfl) λg6 H6=>?_;refine H g6 _ (AF Own.mono (AF (A8 _ _) H6)) ⟨_,rfl,0,λ_=>b,rfl,⟨rfl,λx G=>?_,.inr ⟨d,0,1,_,_,_,rfl,by omega,AM H6,by show 0+1*1<=1;omega,rfl⟩⟩,?_,λh=>absurd h (by omega)⟩
   ·simp at G;rw[G];exact F
   ·have:=CC (AJ OS.mono (AF (A8 _ _) H6)) (E3 _ _)
    exact this
 ·have hb:=I λh=>E (f.1 h)
  cases X <;> cases W <;> cases V <;> cases U <;> cases S <;> cases N <;> cases M <;> first | exact absurd ⟨rfl,rfl,rfl,rfl,rfl,rfl,rfl⟩ E | (simp only[v1,v2,v3,v4,v5,v6,v7,v8,AZ,C7,CI,ne_eq,Bx,C1,and_true,Al,cond_false,cond_true,AB,Ba,true_and,Option.some.injEq,CJ,reduceCtorEq,implies_true];exact hb)
end
abbrev saA (A:Auc) (w:Int) (rv:Value):Array Value:=#[.bool true,.int .i64 w,.int .i64 A.sup,.int .i64 A.sta,.int .i64 A.stp,.int .i64 A.ste,rv]
section
variable {h g:PH} {R:RT} {C:PH->Prop} {S:Hs} {Lv Bv Sv:Value} {bs ss:Nat->Value} {o:OpV}
theorem RHp.sale (H:RHp h S Lv Bv Sv bs ss) {gd:Nat} (a:gd<S.G):∃b off,(∀K,AR 7 Sv (.int .i64 gd) K↔K (.pointer (some ⟨b,off,none⟩)))/\∀G,Sub h G->(∀K,A0 (some 7) (.pointer (some ⟨b,off,none⟩)) G K↔K (.agg (saC ss S gd).toArray))/\∀K,A0 none (.pointer (some ⟨b,off,none⟩)) G K↔K (.bool (S.au gd).isSome):=by
 obtain⟨b,off,q1,q2⟩:=H.A.el a;refine⟨b,off,q1,λG c=>⟨λK=>?_,λK=>?_⟩⟩
 ·have:=(q2 G c).2 0 7 (by omega) K
  rw[Nat.add_zero,Nat.add_zero,MD (Em ss S) a]at this;exact this
 ·have:=(q2 G c).1 0 (.bool (S.au gd).isSome) (by omega) (by
   rw[C4 (Em ss S) _ _ _ a (by omega)];unfold saC;cases S.au gd with
   | none=>rfl
   | some q=>rfl) K
  rw[Nat.add_zero]at this;exact this
theorem Kh (A:Auc) (w:Int) {a:Value} (b:a.cells=#[a]):Instr.fill (λi=>[(0,1),(1,1),(2,5)][i]?) #[Value.bool false,.int .i64 0,.int .i64 0,.int .i64 0,.int .i64 0,.int .i64 0,.slice none 0 0] [(0,.bool true),(1,.int .i64 w),(2,.agg (raA A a))]=some (saA A w a):=by
 simp[Instr.fill,Value.cells,raA,saA]
theorem Ui {gd:Nat} {A:Auc} {w:Int} {a:Value}:(saA A w a).toList=saC (F8 ss gd a) (S.setAu gd (some (A,w))) gd:=by
 have c:(S.setAu gd (some (A,w))).au gd=some (A,w):=by simp[Hs.setAu]
 have b:F8 ss gd a gd=a:=if_pos rfl;unfold saC;rw[c];simp only[b]
theorem XY {i:Nat} (H:RHp h S Lv Bv Sv bs ss) (M:S.ok) (F:Snd S) (hi:i<S.L.n) (ho:o.ok)
  (d:∀g v,Sub h g->RH g v (Dq S i o).2->R (.ret (.tuple #[v,.int .i64 (Dq S i o).1])) g) :
  A7 Tryz.prog 83 #[.agg (rhA S.L.goods S.now Lv Bv Sv),.int .i64 i,o.v] h R:=by
 refine nU ?_;unfold pS IN N9 VE Ob K9 jq8 zq1 IX Iz ivW pnW;rw[show Value.cells (.agg (rhA S.L.goods S.now Lv Bv Sv))=rhA S.L.goods S.now Lv Bv Sv from rfl,show Value.cells o.v=o.a from rfl];refine Ai λt3 g1 _ s1 k3=>Ai λt5 g2 _ U k5=>AX λt6 h6=>?_;have hgG:=M.g;have hcl:=M.cl;have hn1:=M.n1;have St:BM h g2 S Lv Bv Sv bs ss t3 t5 o:=⟨H.sub (s1.trans U),U _ _ k3,k5,s1.trans U⟩;have B:((λg=>BM h g S Lv Bv Sv bs ss t3 t5 o)•pt t6 (.cells rh0 52 (0,0))) (ins g2 t6 (.cells rh0 52 (0,0))):=BX (Ar h6 St);revert B;generalize ins g2 t6 (.cells rh0 52 (0,0))=g3;intro B;have S3:=AJ BM.mono B;have l1:=λK=>A5 (K:=K) S3.k5 (show o.a[1]?=some (.int .i64 o.good)from rfl);have l2:=λK=>A5 (K:=K) S3.k5 (show o.a[2]?=some (.int .i64 o.am)from rfl);have l3:=λK=>A5 (K:=K) S3.k5 (show o.a[3]?=some (.int .i64 o.side)from rfl);have l5:=λK=>A5 (K:=K) S3.k5 (show o.a[5]?=some (.float .f64 o.price)from rfl);have z0:=λK=>A5 (K:=K) S3.k3 (show (rhA S.L.goods S.now Lv Bv Sv)[0]?=some (.int .i64 S.L.goods)from rfl);have z2:=λK=>A5 (K:=K) S3.k3 (show (rhA S.L.goods S.now Lv Bv Sv)[2]?=some Lv from rfl);have hgd0:=ho.good;have ham0:=ho.am;unfold Dq at d;simp only[AH,Ad,l1,z0,By,AB]
 by_cases P:S.L.goods<=o.good
 ·rw[if_pos P]at d
  exact⟨λ_=>CY (K:=λa k=>R (.ret (.tuple #[a,.int .i64 1])) k) B rfl d,λe=>absurd P (of_decide_eq_false e)⟩
 rw[if_neg P]at d;refine⟨λe=>absurd (of_decide_eq_true e) P,λ_=>?_⟩;rw[l5];refine QE ho.price ?_;simp only[AK.elim,Av,Au,BB,AB]
 by_cases O:(B8 o.price).2=0
 case neg=>
  rw[if_pos O]at d;exact⟨λ_=>CY (K:=λa k=>R (.ret (.tuple #[a,.int .i64 (B8 o.price).2])) k) B rfl d,λe=>absurd e (by simp[O])⟩
 rw[if_neg (by simp[O])]at d;refine⟨λe=>absurd e (by simp[O]),λ_=>?_⟩;rw[l2,l3];simp only[z2,S3.rh.L.lens];obtain⟨gd,t⟩:∃gd:Nat,o.good=gd:=⟨o.good.toNat,by omega⟩;have f:gd<S.G:=by omega
 have w2:IntKind.i64.wrap (1+(gd:Int))=((gd+1:Nat):Int):=by rw[w64 (by omega) (by omega)];omega
 rw[t,BR]at d
 by_cases x:1<=o.am/\o.am<=1048576/\0<=(B8 o.price).1/\(B8 o.price).1<=1099511627776/\1<=o.side/\o.side<=1099511627776/\1<=(S.L.n:Int)/\(S.L.n:Int)<=16
 case neg=>
  rw[if_pos x]at d
  refine fr (X:=Value) (val:=λv=>.tuple #[v,.bool false]) (Q:=λv q=>v = .agg ra0) B BM.mono
   (λq s R' u=>Sr (by omega) λg' v F r=>by
    rw[if_neg x]at r;rw[decide_eq_false x];exact u g' v F r) λv g4 T=>?_
  obtain⟨rfl,H8⟩:=L7.1 T;simp only[Av,Au];refine AX λt10 w=>?_;refine AN (cs:=ra0) (AD _ _ _) (by rfl) (by rfl) (by rfl) ?_;rw[An];have z:=EF H8 (AT (.cells ra0 113 (0,0)) w);rw[Bm,AB];exact⟨λ_=>CY (K:=λa k=>R (.ret (.tuple #[a,.int .i64 1])) k) z rfl d,λe=>absurd e (by simp)⟩
 rw[if_neg (λh=>h x)]at d;have hA0:=QT x
 refine fr (X:=Value) (val:=λv=>.tuple #[v,.bool true]) (Q:=λv q=>RAu q v (CS o.am (B8 o.price).1 o.side S.L.n)) B BM.mono
  (λq s R' u=>Sr (by omega) λg' v F r=>by
   rw[if_pos x]at r;rw[decide_eq_true x];exact u g' v F r) λv g4 T=>?_
 generalize CS o.am (B8 o.price).1 o.side S.L.n=A at *;obtain⟨⟨a,rfl,Y⟩,_⟩:=AJ (B3 RAu.mono BM.mono) T
 have H8:((λq=>Dl q a A/\BM h q S Lv Bv Sv bs ss t3 t5 o)•pt t6 (.cells rh0 52 (0,0))) g4:=AU T (λq s=>by
  obtain⟨⟨V,e2,Z⟩,E⟩:=s
  have:a=V:=by
   injection e2 with e3
   injection e3 with e4
   simp only[List.cons.injEq]at e4;exact e4.2.2.2.2.1
  rw[this];exact⟨Z,E⟩) λ_ h=>h
 have l:C3 λq=>Dl q a A/\BM h q S Lv Bv Sv bs ss t3 t5 o:=B3 Dl.mono BM.mono;simp only[Av,Au];refine AX λt10 w=>?_;refine AN (cs:=raA A a) (AD _ _ _) (by rfl) (by rfl) (by rw[List.all_eq_true];exact Hi Y.v1) ?_;rw[An];have z:=Ar (o:=raO A a) w H8;revert z;generalize ins g4 t10 (raO A a)=g5;intro z;obtain⟨hrv5,y⟩:=AJ l (AF (A8 _ _) z);have J:((λg=>BM h g S Lv Bv Sv bs ss t3 t5 o)•pt t6 (.cells rh0 52 (0,0))) g5:=AU (AF (A8 _ _) z) (λ_ h=>h.2) λ_ h=>h;have y1:=λK=>A5 (K:=K) y.k5 (show o.a[1]?=some (.int .i64 o.good)from rfl);have y2:=λK=>A5 (K:=K) y.k5 (show o.a[2]?=some (.int .i64 o.am)from rfl);have y4:=λK=>A5 (K:=K) y.k3 (show (rhA S.L.goods S.now Lv Bv Sv)[4]?=some Sv from rfl)
 have y5:∀K,A0 (some 5) (.pointer (some ⟨t3,0,none⟩)) g5 K↔K (.agg (rhA S.L.goods S.now Lv Bv Sv)):=λK=>by
  rw[AI y.k3 (off:=0) (n:=5) (by show 0+5<=5;omega)];rfl
 obtain⟨b,off,q1,q2⟩:=y.rh.sale f;rw[Bm,AB];refine nF ?_;simp only[y4,y1,t,q1,AH,Nat.add_zero,(q2 g5 (Sub.refl g5)).2,AB];cases I:S.au gd with
 | some q=>
  rw[I]at d;exact⟨λ_=>CY (K:=λa k=>R (.ret (.tuple #[a,.int .i64 63])) k) J rfl d,λe=>absurd e (by simp)⟩
 | none=>
  rw[I]at d;simp only[Option.isSome_none,Ba,if_false]at d;refine nF ?_;rw[y5];simp only[AG,w2,y2];refine ZS y.rh M F hi f ?_;simp only[AK.elim,y2,true_and,AC,AB];have hpe:CR S.L (gd:Int) o.am=0:=by unfold CR;rw[if_pos (by omega)]
  have G:CH S.L i (gd:Int) o.am=if S.L.f i (2+gd)-S.L.f i (6+gd)<o.am then (61,S.L)else (0,S.L.set i (6+gd) (S.L.f i (6+gd)+o.am)):=by
   unfold CH;rw[if_neg (by simp[hpe]),BR]
  by_cases N:S.L.f i (2+gd)-S.L.f i (6+gd)<o.am
  ·rw[G,if_pos N]at d
   exact⟨λ_=>CY (K:=λa k=>R (.ret (.tuple #[a,.int .i64 61])) k) J rfl d,λe=>absurd N (of_decide_eq_false e)⟩
  rw[G,if_neg N]at d;refine⟨λe=>absurd (of_decide_eq_true e) N,λ_=>?_⟩;rw[y5];refine Io z (A8 _ _) y.rh hcl (by omega) λg6 t12 Lv' Bv' Sv' D=>?_;have W:=CP.k D;have p:=AF (A8 _ _) D;obtain⟨m,S6⟩:=AJ l (AF (A8 _ _) p);simp only[AH,Ad];rw[A5 W (v:=Sv') rfl,A5 S6.k5 (v:=.int .i64 o.good) rfl,t,AI (AM p) (off:=0) (n:=5) (by show 0+5<=5;omega),show (raA A a).extract 0 (0+5)=raA A a from rfl];refine⟨_,Kh A i (Ld m.v1),?_⟩;refine NX (X:=some (A,(i:Int))) D f m.v1 Ui λg7 L=>?_;rw[<-Bf (pt t10 _)]at L;refine MZ (K:=λa k=>R (.ret (.tuple #[a,.int .i64 0])) k) L (A8 _ _) rfl (λq s=>?_) λg8 v s r=>?_
  ·obtain⟨rq,Sq⟩:=AF l s
   refine⟨λj hj=>Sq.rh.b j hj,λj A' w' hj E=>?_⟩;unfold F8
   by_cases c:j=gd
   ·subst c
    have e1:(S.setAu j (some (A,(i:Int)))).au j=some (A,(i:Int)):=by simp[Hs.setAu]
    rw[e1]at E;cases E;simp only[if_true];exact rq
   ·have e1:(S.setAu gd (some (A,(i:Int)))).au j=S.au j:=by simp[Hs.setAu,c]
    rw[e1]at E;simp only[c,if_false];exact Sq.rh.a j A' w' hj E
  ·refine d g8 v (AF l s).2.sub (r.likeL ?_)
   exact MM (by omega)
end
section
variable {h g:PH} {R:RT} {C:PH->Prop} {A:Auc} {rv:Value}
theorem ZG {f:Nat->Value} {k:Nat} (h:∀i,i<k->(f i).oneCell'=true):∀x∈(List.range k).map f,x.oneCell'=true:=λx a=>by
 obtain⟨i,hi,rfl⟩:=List.mem_map.1 a;exact h i (List.mem_range.1 hi)
theorem W6 (f:Nat->Value) (k:Nat) (v:Value):(List.range k).map f ++ [v]=(List.range (k+1)).map (λi=>if i=k then v else f i):=by
 rw[List.range_succ,List.map_append]
 congr 1
 ·exact List.map_congr_left λi hi=>by rw[if_neg (by have:=List.mem_range.1 hi;omega)]
 ·simp
theorem df (f:Nat->Value) {k n:Nat} (h:k<=n):((List.range n).map f).take k=(List.range k).map f:=by
 rw[<-List.map_take,List.take_range,Nat.min_eq_left h]
def rO (h:PH) (t3 t6:Nat) (A:Auc) (rv:Value) (z:Array Value):PH->Prop:=pt t6 (.cells z 113 (0,0))•pt t3 (raO A rv)•Own h
theorem jO {t3 t6:Nat} {z:Array Value} {K:Value->PH->Prop} (H:rO h t3 t6 A rv z g) (d:z.size=5) (a:Dl h rv A) (e:∀g v,Sub h g->RAu g v A->K v g) :
  A0 (some 5) (.pointer (some ⟨t3,0,none⟩)) g λt=>A9 5 (.pointer (some ⟨t6,0,none⟩)) t g λb=>A0 (some 5) (.pointer (some ⟨t6,0,none⟩)) b λrv=>K rv b:=by
 have c:=AM (AF (A8 _ _) H);rw[AI c (off:=0) (n:=5) (by show 0+5<=5;omega),show (raA A rv).extract 0 (0+5)=raA A rv from rfl];refine Cc (K:=K) H (A8 _ _) d rfl (Hi a.v1) λg' f=>?_;have s:=AF Own.mono f;exact e g' _ s ⟨rv,rfl,a.sub s⟩
theorem WE {who:Nat} {n:Int} (H:Dl h rv A) (z:A.ok) (h0:A.ste=0) (hw:who<A.n)
  (f:∀g v,Sub h g->RAu g v (DZ A who n).2->R (.ret (.tuple #[v,.int .i64 (DZ A who n).1])) g) :
  A7 Tryz.prog 129 #[.agg (raA A rv),.int .i64 who,.int .i64 n] h R:=by
 refine ie ?_;unfold ku IN K9 jq8 Iz gAW gGW ivW pnW;rw[show Value.cells (.agg (raA A rv))=raA A rv from rfl];refine AX λt3 h3=>?_;have H1:(pt t3 (raO A rv)•Own h) (ins h t3 (raO A rv)):=Ar h3 (Sub.refl h);revert H1;generalize ins h t3 (raO A rv)=g1;intro H1;refine AX λt6 h6=>?_;have D:rO h t3 t6 A rv ra0 (ins g1 t6 (.cells ra0 113 (0,0))):=Ar h6 H1;revert D;generalize ins g1 t6 (.cells ra0 113 (0,0))=g2;intro D;have k3:=AM (AF (A8 _ _) D);have s2:Sub h g2:=AF Own.mono (AF (A8 _ _) D);have Hg:=H.sub s2;have hn16:=z.n;have hrb:=z.rndB;have hr1:=z.rnd;have l3:∀K,A0 none (.pointer (some ⟨t3,3,none⟩)) g2 K↔K (.int .i64 0):=λK=>by rw[A5 k3 (v:=.int .i64 A.ste) rfl,h0]
 have l4:∀K,A0 none (.pointer (some ⟨t3,4,none⟩)) g2 K↔K rv:=λK=>A5 k3 rfl
 have l5:∀K,A0 (some 5) (.pointer (some ⟨t3,0,none⟩)) g2 K↔K (.agg (raA A rv)):=λK=>by
  rw[AI k3 (off:=0) (n:=5) (by show 0+5<=5;omega)];rfl
 have l:∀e:Int,(∀g v,Sub h g->RAu g v A->R (.ret (.tuple #[v,.int .i64 e])) g)->A0 (some 5) (.pointer (some ⟨t3,0,none⟩)) g2 λt=>A9 5 (.pointer (some ⟨t6,0,none⟩)) t g2 λB=>A0 (some 5) (.pointer (some ⟨t6,0,none⟩)) B λrv=>R (.ret (.tuple #[rv,.int .i64 e])) B:=
  λe hr=>jO (K:=λrv B=>R (.ret (.tuple #[rv,.int .i64 e])) B) D rfl H hr
 have wl:¬(who:Int)<0:=by omega
 have wg:¬(A.n:Int)<=(who:Int):=by omega
 unfold DZ at f;rw[if_neg (by simp[h0]),BR]at f;simp only[AH,Ad,l3,BB,AC,wl,B6,BW,Bool.not_true,AB,AZ,C7,CI,ne_eq,Bx,C1,and_true,true_and,Bool.true_eq_false,reduceCtorEq,Ba,CJ,implies_true,Option.some.injEq];rw[l5];refine EW Hg z λnv Hn=>?_;simp only[AK.elim,Hn.lens,By,wg,BW,Al,cond_false,AZ,C7,CI,ne_eq,Bx,C1,and_true,true_and,AC]
 by_cases c1:n<0
 ·rw[if_pos (by omega)]at f
  simp only[c1,B6,AZ,C7,Option.some.injEq,Bool.true_eq_false,C1,true_and,ne_eq,CJ,CI,Al,cond_true,AB,Bx,and_true,reduceCtorEq,cond_false];exact l 1 f
 by_cases c2:1048576<n
 ·rw[if_pos (by omega)]at f
  simp only[c1,c2,B6,BW,AZ,C7,Option.some.injEq,Bool.true_eq_false,C1,true_and,ne_eq,CJ,CI,Al,cond_true,AB,Bx,and_true,reduceCtorEq,cond_false,At];exact l 1 f
 rw[if_neg (by omega)]at f;obtain⟨k,F,e,I,r2,r3⟩:=Hg;have Hg:=H.sub s2;simp only[c1,c2,B6,BW,AZ,C7,Option.some.injEq,Bool.true_eq_false,Ba,C1,true_and,ne_eq,CJ,CI,Al,cond_true,AB,Bx,and_true,reduceCtorEq,cond_false,At,l4,I.lens]
 -- what comes of a bid that is taken
 have r:(∀g v,Sub h g->RAu g v (A.setNow who n)->R (.ret (.tuple #[v,.int .i64 0])) g)->(A6 Tryz.prog .sub 3 (.int .i64 ((k+1:Nat):Int)) (.int .i64 1) λt50=>vSl 1 none (some t50) rv λt51=>(0<1)/\(0<24)/\(Array.size #[(.slice none 0 0:Value)]=1)/\Ab false 145 1 24 (.slice none 0 0) t51 g2 λt52 q=>A0 (some 5) (.pointer (some ⟨t3,0,none⟩)) q λt54=>AA Tryz.prog 138 #[t54] q (λt55 V=>(0<1)/\(0<8)/\(Array.size #[(.int .i64 0:Value)]=1)/\Ab false 3 1 8 (.slice none 0 0) t55 V λt56 U=>AR 1 t56 (.int .i64 who) λt60=>A9 1 t60 (.int .i64 n) U λT=>(1*1<=2^24)/\Aj 145 1 1 #[.slice none 0 0] [(0,t56)] T λt63 P=>(0<1)/\(0<24)/\(Array.size #[(.slice none 0 0:Value)]=1)/\Ab false 145 1 24 t52 t63 P λt64 N=>A9 1 (.pointer (some ⟨t3,4,none⟩)) t64 N λo=>A0 (some 5) (.pointer (some ⟨t3,0,none⟩)) o λt67=>A9 5 (.pointer (some ⟨t6,0,none⟩)) t67 o λm=>A0 (some 5) (.pointer (some ⟨t6,0,none⟩)) m λE=>R (.ret (.tuple #[E,(.int .i64 0)])) m) (λc h=>R (.pan c) h)):=λhr=>by
  rw[Ao,w64 (by omega) (by omega),show ((k+1:Nat):Int)-1=(k:Int)by omega];refine I.slice (lo:=0) (hi:=k) (by omega) (by omega) (.inr ⟨rfl,rfl⟩) (.inl rfl) λv51 G=>?_;rw[Nat.zero_mul,List.drop_zero,Nat.mul_one,Nat.sub_zero,df _ (by omega)]at G;refine⟨by omega,by omega,rfl,?_⟩;refine HY D G (by simp only[roomBytes];omega) λg3 s52 H3=>?_;have e3:∀O s u Q:PH->Prop,O•s•u•Q=u•O•s•Q:=λ_ _ _ _=>by ac_rfl
  have H3':(OS 145 1 s52 k ((List.range k).map F)•pt t6 (.cells ra0 113 (0,0))•pt t3 (raO A rv)•Own h) g3:=H3;rw[e3]at H3';have s3:Sub h g3:=AF Own.mono (AF (A8 _ _) (AF (A8 _ _) H3'));rw[AI (AM H3') (off:=0) (n:=5) (by show 0+5<=5;omega),show (raA A rv).extract 0 (0+5)=raA A rv from rfl];refine EW (H.sub s3) z λnv2 Hn2=>?_;simp only[AK.elim];refine⟨by omega,by omega,rfl,?_⟩;refine HY H3' Hn2 (by simp only[roomBytes];omega) λg4 s56 H4=>?_;obtain⟨b,cap,hse,hst⟩:=QN (j:=who) (v:=.int .i64 n) H4 (by omega) rfl
  have hix:∀K,AR 1 s56 (.int .i64 who) K↔K (.pointer (some ⟨b,who,none⟩)):=λK=>by
   rw[hse,B9,show 0+(who:Int).toNat*1=who by omega];exact⟨λY=>Y.2.2,λY=>⟨by omega,by omega,Y⟩⟩
  rw[hix];refine hst _ λg5 H5=>?_;rw[LF A.now hw n]at H5;have L:=BL (AJ OS.mono H5);have e5:∀S u O s Q:PH->Prop,S•u•O•s•Q=O•(S•u•s•Q):=λ_ _ _ _ _=>by ac_rfl
  rw[e5]at H5;refine⟨by omega,?_⟩;simp only[show (0<1)from by omega,show (0<24)from by omega,show (Array.size #[(.slice none 0 0:Value)]=1)from rfl,true_and];refine Ki H5 L (by simp only[roomBytes];omega) λg6 d W=>?_;rw[W6]at W;have J:=BL (AJ OS.mono W);have e6:∀O S u s Q:PH->Prop,O•(S•u•s•Q)=u•(s•O•S•Q):=λ_ _ _ _ _=>by ac_rfl
  rw[e6]at W;rw[Aw (AM W) (by show 4<5;omega) J];have H7:=Bb (p:=raO (A.setNow who n) d) W;revert H7;rw[show (raA A rv).setIfInBounds 4 d=raA (A.setNow who n) d from rfl];generalize ins g6 t3 (raO (A.setNow who n) d)=g7;intro H7;rw[AI (AM H7) (off:=0) (n:=5) (by show 0+5<=5;omega),show (raA (A.setNow who n) d).extract 0 (0+5)=raA (A.setNow who n) d from rfl];have H8:=AF (A8 _ _) H7;refine Cc (K:=λrv B=>R (.ret (.tuple #[rv,.int .i64 0])) B) H8 (A8 _ _) rfl rfl (Hi J) λZ H9=>?_;have X:Sub h Z:=AF Own.mono (AF (A8 _ _) H9);have Q:=H.sub X;refine hr Z _ X ⟨d,rfl,k,_,e,CC (AJ OS.mono H9) (ZG λi hi=>?_),?_,λM=>?_⟩
  ·by_cases c:i=k
   ·simp only[c,if_true];exact L
   ·simp only[c,if_false]
    have:=I.one (F i) (List.mem_map.2 ⟨i,List.mem_range.2 (by omega),rfl⟩);exact this
  ·simp only[if_true]
   exact CC (AJ OS.mono (AF (A8 _ _) H9)) (E3 _ _)
  ·rw[if_neg (by omega)]
   have h9:=r3 M
   -- the round ahead lay there before
   have hsub:Sub g2 Z->BG Z (F (k-1)) 1 A.n (D5 A.was A.n):=λhs=>h9.sub hs;have Y:=(H.sub X);obtain⟨k',w,e',q1,q2,q3⟩:=H;have ek:k'=k:=by omega
   subst ek
   have er:∀i,i<k'+1->w i=F i:=λi hi=>by
    obtain⟨b1,o1,w1,w2⟩:=(q1.sub s2).ptr1 (i:=i) (x:=w i) (by omega) (by rw[List.getElem?_map,List.getElem?_range (by omega)];rfl);obtain⟨b2,o2,w3,w4⟩:=I.ptr1 (i:=i) (x:=F i) (by omega) (by rw[List.getElem?_map,List.getElem?_range (by omega)];rfl);have h1:=(w1 (λv=>v = .pointer (some ⟨b1,o1,none⟩))).2 rfl;rw[w3]at h1;cases h1;have h2:=(w2 g2 (Sub.refl g2) (λv=>v=w i)).2 rfl;rw[w4 g2 (Sub.refl g2)]at h2;exact h2.symm
   have:=q3 M;rw[er _ (by omega)]at this;exact this.sub X
 by_cases c3:1<A.rnd
 ·have y:(1:Int)<((k+1:Nat):Int):=by omega
  simp only[y,B6,AZ,C7,CI,ne_eq,Bx,C1,and_true];rw[l5];refine LA Hg z hw ?_;simp only[AK.elim,Al,cond_true,AB,AZ,C7,CI,ne_eq,Bx,C1,and_true,At]
  by_cases c4:A.was who<n
  ·rw[if_pos ⟨c3,c4⟩]at f
   exact⟨λ_=>l 71 f,λe=>absurd c4 (of_decide_eq_false e)⟩
  ·rw[if_neg (λh=>c4 h.2)]at f
   refine⟨λe=>absurd (of_decide_eq_true e) c4,λ_=>?_⟩;simp only[AH,Ad,l4,I.lens];exact r f
 ·rw[if_neg (λh=>c3 h.1)]at f
  have y:¬(1:Int)<((k+1:Nat):Int):=by omega
  simp only[y,BW,AZ,C7,Option.some.injEq,Ba,C1,true_and,ne_eq,CJ,CI,Al,cond_false,AB,Bx,and_true,reduceCtorEq];exact r f
end
theorem RAu.get {C B:PH->Prop} {v:Value} {A:Auc} {g:PH} (H:((λq=>RAu q v A/\B q)•C) g) (j:C3 B):∃a,v = .agg (raA A a)/\a.oneCell'=true/\((λq=>Dl q a A/\B q)•C) g:=by
 obtain⟨⟨a,e,f⟩,_⟩:=AJ (B3 RAu.mono j) H;refine⟨a,e,f.v1,AU H (λq i=>?_) λ_ h=>h⟩;obtain⟨⟨b,d,c⟩,ha⟩:=i;rw[e]at d
 have:a=b:=by
  injection d with e3
  injection e3 with e4
  simp only[List.cons.injEq]at e4;exact e4.2.2.2.2.1
 rw[this];exact⟨c,ha⟩
theorem Ug {ss:Nat->Value} {S:Hs} {gd:Nat} {A:Auc} {w:Int} (h:S.au gd=some (A,w)):(saC ss S gd).toArray=saA A w (ss gd):=by unfold saC;rw[h]
theorem RD {ss:Nat->Value} {S:Hs} {gd:Nat} (h:S.au gd=none):(saC ss S gd).toArray=#[.bool false,.int .i64 0,.int .i64 0,.int .i64 0,.int .i64 0,.int .i64 0,.slice none 0 0]:=by unfold saC;rw[h]
theorem Uh {g:PH} {t:Nat} {A:Auc} {w:Int} {a:Value} (h:g t=some (.cells (saA A w a) 115 (0,0))) (K:Value->Prop):A0 (some 5) (.pointer (some ⟨t,2,none⟩)) g K↔K (.agg (raA A a)):=by
 rw[AI h (off:=2) (n:=5) (by show 2+5<=7;omega)];rfl
theorem X8 {S:Hs} (e:S.ok) (d:Snd S) {i gd:Nat} {A A':Auc} {w:Int} (hi:i<S.L.n) (b:gd<S.G) (g:S.au gd=some (A,w)):Ez (S.setAu gd (some (A',w))) i 0=S.L.f i 1+Ae A' i-Ae A i:=by
 obtain⟨h0,m⟩:=HV e d hi;rw[<-h0];unfold Ez;have k:(S.setAu gd (some (A',w))).G=S.G:=rfl;have c:∀j,(S.setAu gd (some (A',w))).au j=if j=gd then some (A',w)else S.au j:=λj=>rfl
 rw[k,HJ (f:=DM S i 0) b λj l a=>?_]
 ·unfold DM CM auW
  rw[if_pos rfl,if_pos rfl,c,if_pos rfl,g];have h:(S.setAu gd (some (A',w))).bk gd=S.bk gd:=rfl;rw[h];simp only;omega
 ·unfold DM CM auW
  rw[if_pos rfl,if_pos rfl,c,if_neg a];rfl
section
variable {h g:PH} {R:RT} {C:PH->Prop} {S:Hs} {Lv Bv Sv:Value} {bs ss:Nat->Value} {o:OpV}
theorem R9 {q:PH} {gd:Nat} {A:Auc} {w:Int} {e:Value} (f:Ps q S bs ss) (k:Dl q e A):Ps q (S.setAu gd (some (A,w))) bs (F8 ss gd e):=by
 refine⟨λj b=>f.b j b,λj A' i b a=>?_⟩;unfold F8
 by_cases c:j=gd
 ·subst c
  have d:(S.setAu j (some (A,w))).au j=some (A,w):=by simp[Hs.setAu]
  rw[d]at a;cases a;simp only[if_true];exact k
 ·have d:(S.setAu gd (some (A,w))).au j=S.au j:=by simp[Hs.setAu,c]
  rw[d]at a;simp only[c,if_false];exact f.a j A' i b a
theorem ZF {i:Nat} (H:RHp h S Lv Bv Sv bs ss) (m:S.ok) (hs:Snd S) (hi:i<S.L.n) (ho:o.ok)
  (a:∀g v,Sub h g->RH g v (FC S i o).2->R (.ret (.tuple #[v,.int .i64 (FC S i o).1])) g) :
  A7 Tryz.prog 84 #[.agg (rhA S.L.goods S.now Lv Bv Sv),.int .i64 i,o.v] h R:=by
 refine nS ?_;unfold pR IN N9 VE Ob K9 jq8 zq1 IX Iz gGW ivW pnW;rw[show Value.cells (.agg (rhA S.L.goods S.now Lv Bv Sv))=rhA S.L.goods S.now Lv Bv Sv from rfl,show Value.cells o.v=o.a from rfl];refine Ai λt3 g1 _ s1 k3=>Ai λt5 g2 _ s2 k5=>AX λt6 h6=>?_;have hgG:=m.g;have hcl:=m.cl;have St:BM h g2 S Lv Bv Sv bs ss t3 t5 o:=⟨H.sub (s1.trans s2),s2 _ _ k3,k5,s1.trans s2⟩;have H6:((λg=>BM h g S Lv Bv Sv bs ss t3 t5 o)•pt t6 (.cells rh0 52 (0,0))) (ins g2 t6 (.cells rh0 52 (0,0))):=BX (Ar h6 St);revert H6;generalize ins g2 t6 (.cells rh0 52 (0,0))=g3;intro H6;have S3:=AJ BM.mono H6;have l1:=λK=>A5 (K:=K) S3.k5 (show o.a[1]?=some (.int .i64 o.good)from rfl);have l2:=λK=>A5 (K:=K) S3.k5 (show o.a[2]?=some (.int .i64 o.am)from rfl);have z0:=λK=>A5 (K:=K) S3.k3 (show (rhA S.L.goods S.now Lv Bv Sv)[0]?=some (.int .i64 S.L.goods)from rfl);have z4:=λK=>A5 (K:=K) S3.k3 (show (rhA S.L.goods S.now Lv Bv Sv)[4]?=some Sv from rfl);have hgd0:=ho.good;have ham0:=ho.am;unfold FC at a;simp only[AH,Ad,l1,z0,By]
 by_cases c1:S.L.goods<=o.good
 ·rw[if_pos (.inl c1)]at a
  simp only[c1,B6,AZ,C7,Option.some.injEq,Bool.true_eq_false,C1,true_and,ne_eq,CJ,CI,Al,cond_true,AB,Bx,and_true];exact CY (K:=λc k=>R (.ret (.tuple #[c,.int .i64 1])) k) H6 rfl a
 simp only[c1,BW,AZ,C7,Option.some.injEq,Ba,C1,true_and,ne_eq,CJ,CI,Al,cond_false,Bx,and_true,AH,Ad,l2,At,AB]
 by_cases c2:1048576<o.am
 ·rw[if_pos (.inr c2)]at a
  exact⟨λ_=>CY (K:=λc k=>R (.ret (.tuple #[c,.int .i64 1])) k) H6 rfl a,λe=>absurd c2 (of_decide_eq_false e)⟩
 rw[if_neg (by omega)]at a;refine⟨λe=>absurd (of_decide_eq_true e) c2,λ_=>?_⟩;obtain⟨gd,L⟩:∃gd:Nat,o.good=gd:=⟨o.good.toNat,by omega⟩;have d:gd<S.G:=by omega
 rw[L,BR]at a;obtain⟨b,off,q1,q2⟩:=S3.rh.sale d;simp only[z4,l1,L,q1,(q2 g3 (Sub.refl g3)).1];refine AX λt8 h8=>?_;have oS:∀x∈saC ss S gd,x.oneCell'=true:=L9 S3.rh.side d;refine AN (cs:=(saC ss S gd).toArray) (AD _ _ _) (by rfl) (by simp[Em]) (by simpa using oS) ?_;rw[An];have F:=Ar (o:=.cells (saC ss S gd).toArray 115 (0,0)) h8 H6;revert F;generalize ins g3 t8 (.cells (saC ss S gd).toArray 115 (0,0))=g4;intro F
 have E:∀e:Int,(∀g v,Sub h g->RH g v S->R (.ret (.tuple #[v,.int .i64 e])) g)->A0 (some 5) (.pointer (some ⟨t3,0,none⟩)) g4 λt=>A9 5 (.pointer (some ⟨t6,0,none⟩)) t g4 λk=>A0 (some 5) (.pointer (some ⟨t6,0,none⟩)) k λc=>R (.ret (.tuple #[c,.int .i64 e])) k:=
  λe hr=>CY (K:=λc k=>R (.ret (.tuple #[c,.int .i64 e])) k) (AF (A8 _ _) F) rfl hr
 have k8:=AM F;cases f:S.au gd with
 | none=>
  rw[f]at a;rw[RD f]at k8;simp only[AH,Ad];rw[A5 k8 (v:=.bool false) rfl,Bm,AB];exact⟨λ_=>E 3 a,λe=>absurd e (by simp)⟩
 | some q=>
  obtain⟨A,w⟩:=q;rw[f]at a;rw[Ug f]at k8 F;simp only at a;obtain⟨M,N,hAn,hw0,hwn⟩:=m.au gd A w d f;simp only[AH,Ad];rw[A5 k8 (v:=.bool true) rfl,Bm,AB];refine nF ?_;rw[A5 k8 (v:=.int .i64 w) rfl,BC,AB]
  by_cases c3:w=i
  ·rw[if_pos c3]at a
   exact⟨λ_=>E 80 a,λe=>absurd c3 (of_decide_eq_false e)⟩
  rw[if_neg c3]at a;refine⟨λe=>absurd (of_decide_eq_true e) c3,λ_=>?_⟩;have S4:=AJ BM.mono (AF (A8 _ _) F);rw[Uh k8,A5 S4.k5 (v:=.int .i64 o.am) rfl];have I:B4 A (i:Int)=(A.was i,A.now i):=by unfold B4;rw[if_neg (by omega),BR]
  have eB:(DZ A i o.am).1=if 1<A.rnd/\A.was i<o.am then 71 else 0:=by
   unfold DZ;rw[if_neg (by simp[N]),if_neg (by omega),BR]
   split <;> rfl
  have e7:∀X Y Z:PH->Prop,X•Y•Z=Y•(X•Z):=λ_ _ _=>by ac_rfl
  rw[e7]at F
  refine fr (X:=Value) (val:=λv=>.tuple #[v,.int .i64 (DZ A i o.am).1]) (Q:=λv q=>RAu q v (DZ A i o.am).2) F BM.mono
   (λq l R' hR'=>WE (l.rh.a gd A w d f) M N (by omega) λg' v hs hv=>hR' g' v hs hv) λv g5 H8=>?_
  obtain⟨c,rfl,o1,H9⟩:=RAu.get H8 BM.mono;simp only[Av,Au];refine AX λt9 h9=>?_;refine AN (cs:=raA (DZ A i o.am).2 c) (AD _ _ _) (by rfl) (by rfl) (by rw[List.all_eq_true];exact Hi o1) ?_;rw[An];have z:=Ar (o:=raO (DZ A i o.am).2 c) h9 H9;revert z;generalize ins g5 t9 (raO (DZ A i o.am).2 c)=g6;intro z;have r:C3 λq=>Dl q c (DZ A i o.am).2/\BM h q S Lv Bv Sv bs ss t3 t5 o:=B3 Dl.mono BM.mono;rw[BB,AB,eB];rw[I]at a;simp only at a
  by_cases c4:1<A.rnd/\A.was i<o.am
  ·rw[if_pos c4]at a
   rw[if_pos c4];refine nT ?_;have h1:=AU (AF (A8 _ _) z) (λq l=>l.2) λq l=>AF (Ij _ _) l;exact CY (K:=λc k=>R (.ret (.tuple #[c,.int .i64 71])) k) h1 rfl a
  rw[if_neg c4]at a;rw[if_neg c4];refine nF ?_;have hset:=PC (A:=A) (who:=i) (n:=o.am) N (by omega) ⟨ham0.1,by omega⟩ (by rw[I];exact c4);have hBk:=Lh M (i:Int) o.am
  have J:Ae (DZ A i o.am).2 i=max (A.was i*A.last) (o.am*A.price):=by
   rw[hset,Jb (by omega),if_pos rfl,I]
  generalize hbid:(DZ A i o.am).2=A' at *;obtain⟨hr6,S6⟩:=AJ r (AF (A8 _ _) z);rw[AI S6.k3 (off:=0) (n:=5) (by show 0+5<=5;omega),show (rhA S.L.goods S.now Lv Bv Sv).extract 0 (0+5)=rhA S.L.goods S.now Lv Bv Sv from rfl];refine Io z (A8 _ _) S6.rh hcl (by omega) λg7 t11 O U D P=>?_;have k11:=CP.k P;have G:=AF (A8 _ _) P;have y:=AF (A8 _ _) G;obtain⟨hr7,S7⟩:=AJ r y;have k87:=AJ (Ij _ _) (AF (A8 _ _) y);simp only[AH,Ad];rw[A5 k11 (v:=D) rfl,A5 S7.k5 (v:=.int .i64 o.good) rfl,L,A5 k87 (v:=.int .i64 w) rfl,AI (AM G) (off:=0) (n:=5) (by show 0+5<=5;omega),show (raA A' c).extract 0 (0+5)=raA A' c from rfl];refine⟨_,Kh A' w (Ld o1),?_⟩;refine NX (X:=some (A',w)) P d o1 Ui λg8 u=>?_;have s:=AF (A8 _ _) (AF (A8 _ _) u);obtain⟨hr8,S8⟩:=AJ r s;have k11':=CP.k u;rw[AI k11' (off:=0) (n:=5) (by show 0+5<=5;omega),show (rhA (S.setAu gd (some (A',w))).L.goods (S.setAu gd (some (A',w))).now O U D).extract 0 (0+5)=rhA (S.setAu gd (some (A',w))).L.goods (S.setAu gd (some (A',w))).now O U D from rfl];have HX:RHp g8 (S.setAu gd (some (A',w))) O U D bs (F8 ss gd c):=CP.rh (AJ CP.mono u) (R9 S8.rh.side hr8);have eau:∀j,(S.setAu gd (some (A',w))).au j=if j=gd then some (A',w)else S.au j:=λj=>rfl
  have hBn:A'.n=A.n:=by rw[<-hbid,pA]
  have hpre:(S.setAu gd (some (A',w))).pre:=by
   refine⟨m.led,m.n1,m.bk,λj V W hj B=>?_,m.now⟩;rw[eau]at B
   split at B
   ·cases B
    exact⟨hBk,hw0,hwn⟩
   ·exact⟨(m.au j V W hj B).1,(m.au j V W hj B).2.2.2⟩
  have han:∀g' V W,g'<(S.setAu gd (some (A',w))).G->(S.setAu gd (some (A',w))).au g'=some (V,W)->i<V.n:=λj V W hj B=>by
   rw[eau]at B
   split at B
   ·cases B;omega
   ·have:=(m.au j V W hj B).2.2.1;omega
  have eh:=X8 (A':=A') m hs hi d f;have nb1:=Dr hBk (i:Int);have nb2:=Dr M (i:Int);have f0:=m.led.small.num i 0 hi (by omega);have f1:=m.led.small.num i 1 hi (by omega);have eh0:Ay (S.setAu gd (some (A',w))).L i 0=S.L.f i 0:=rfl;refine ID (p:=0) HX (by omega) hpre hi han (by rw[eh];omega) (by rw[eh0];exact f0) ?_;rw[eh0,eh];simp only[AK.elim,AC,AB];rw[J]
  by_cases c5:S.L.f i 0-S.L.f i 1<max (A.was i*A.last) (o.am*A.price)-Ae A i
  ·rw[if_pos c5]at a
   refine⟨λ_=>?_,λe=>absurd (of_decide_eq_false e) (by omega)⟩;have h1:=AU s (λq l=>l.2) λq l=>AF (Ij _ _) l;exact CY (K:=λc k=>R (.ret (.tuple #[c,.int .i64 61])) k) h1 rfl a
  ·rw[if_neg c5]at a
   refine⟨λe=>absurd (of_decide_eq_true e) (by omega),λ_=>?_⟩;have e12:∀X T A P6 P8:PH->Prop,X•T•A•P8•P6=X•(T•A•P8)•P6:=λ_ _ _ _ _=>by ac_rfl
   rw[e12]at u;refine MZ (K:=λc k=>R (.ret (.tuple #[c,.int .i64 0])) k) u (A8 _ _) rfl (λq l=>?_) λg9 v l hv=>?_
   ·obtain⟨rq,Sq⟩:=AJ r (AF (A8 _ _) l)
    exact R9 Sq.rh.side rq
   ·exact a g9 v (AJ r (AF (A8 _ _) l)).2.sub (hv.likeL (Ik _ _ _))
end
section
variable {h g:PH} {R:RT} {C:PH->Prop} {A:Auc} {rv:Value}
theorem Dl.state {A':Auc} (H:Dl h rv A) (m:A'.rnd=A.rnd) (a:A'.n=A.n) (l:A'.now=A.now) (j:A'.was=A.was):Dl h rv A':=by
 obtain⟨k,b,e,f,d,c⟩:=H;exact⟨k,b,m.trans e,f,by rw[a,l];exact d,λi=>by rw[a,j];exact c i⟩
theorem ZN (H:Dl h rv A) (f:A.ok) (h0:A.ste=0) (l:∀g v,Sub h g->RAu g v (AV A).2.2->R (.ret (.tuple #[v,.int .i64 0])) g) :
  A7 Tryz.prog 158 #[.agg (raA A rv)] h R:=by
 refine iB ?_;unfold kN IN Iz ivW pnW;rw[show Value.cells (.agg (raA A rv))=raA A rv from rfl];refine AX λt1 h1=>?_;have H1:(pt t1 (raO A rv)•Own h) (ins h t1 (raO A rv)):=Ar h1 (Sub.refl h);revert H1;generalize ins h t1 (raO A rv)=g1;intro H1;refine AX λt2 h2=>?_;have u:(pt t2 (.cells ra0 113 (0,0))•pt t1 (raO A rv)•Own h) (ins g1 t2 (.cells ra0 113 (0,0))):=Ar h2 H1;revert u;generalize ins g1 t2 (.cells ra0 113 (0,0))=g2;intro u;have t:=AM (AF (A8 _ _) u);have s2:Sub h g2:=AF Own.mono (AF (A8 _ _) u);have Hg:=H.sub s2;have hn16:=f.n;have hrb:=f.rndB;have hr1:=f.rnd;have hsb:=f.sup;have hpb:=f.priceB;have hst:=f.stp;have hdb:=f.sumB f.now (Nat.le_refl _);have l3:∀K,A0 none (.pointer (some ⟨t1,3,none⟩)) g2 K↔K (.int .i64 0):=λK=>by rw[A5 t (v:=.int .i64 A.ste) rfl,h0]
 have V:∀K,A0 none (.pointer (some ⟨t1,0,none⟩)) g2 K↔K (.int .i64 A.sup):=λK=>A5 t rfl;have l2:∀K,A0 none (.pointer (some ⟨t1,2,none⟩)) g2 K↔K (.int .i64 A.stp):=λK=>A5 t rfl;have l4:∀K,A0 none (.pointer (some ⟨t1,4,none⟩)) g2 K↔K rv:=λK=>A5 t rfl
 have l5:∀K,A0 (some 5) (.pointer (some ⟨t1,0,none⟩)) g2 K↔K (.agg (raA A rv)):=λK=>by
  rw[AI t (off:=0) (n:=5) (by show 0+5<=5;omega)];rfl
 unfold AV at l;rw[if_neg (by simp[h0])]at l;simp only[AH,Ad,l3,BB,B6,Bool.not_true,AB];refine nF ?_;rw[l5];simp only[V];refine EW Hg f λnv Hn=>?_;simp only[AK.elim,V,true_and];refine NR (h:=g2) Hn (by omega) (λi hi=>by have:=f.now i hi;omega) ?_;simp only[AK.elim,V,true_and,EI,AB];have J:AS A.now A.n=A.demand:=rfl;rw[J]
 -- a state that ends it
 have Z:∀q L Q:PH->Prop,q•L•Q=L•q•Q:=λ_ _ _=>by ac_rfl
 have m:∀j:Int,(∀g v,Sub h g->RAu g v {A with ste:=j}->R (.ret (.tuple #[v,.int .i64 0])) g) ->
   A9 1 (.pointer (some ⟨t1,3,none⟩)) (.int .i64 j) g2 λF=>A0 (some 5) (.pointer (some ⟨t1,0,none⟩)) F λt16=>A9 5 (.pointer (some ⟨t2,0,none⟩)) t16 F λE=>A0 (some 5) (.pointer (some ⟨t2,0,none⟩)) E λw=>R (.ret (.tuple #[w,(.int .i64 0)])) E:=λj hr=>by
  have H2':=u;rw[Z]at H2';rw[Aw t (by show 3<5;omega) rfl];have r:=Bb (p:=raO {A with ste:=j} rv) H2';revert r;rw[show (raA A rv).setIfInBounds 3 (.int .i64 j)=raA {A with ste:=j} rv from rfl];generalize ins g2 t1 (raO {A with ste:=j} rv)=I;intro r;rw[AI (AM r) (off:=0) (n:=5) (by show 0+5<=5;omega),show (raA {A with ste:=j} rv).extract 0 (0+5)=raA {A with ste:=j} rv from rfl];refine Cc (K:=λrv W=>R (.ret (.tuple #[rv,.int .i64 0])) W) (AF (A8 _ _) r) Own.mono rfl rfl (Hi H.v1) λY s4=>?_;exact hr Y _ s4 ⟨rv,rfl,(H.sub s4).state rfl rfl rfl rfl⟩
 by_cases S:A.demand<=A.sup
 ·rw[if_pos S]at l
  exact⟨λ_=>m 1 l,λe=>absurd S (of_decide_eq_false e)⟩
 rw[if_neg S]at l;refine⟨λe=>absurd (of_decide_eq_true e) S,λ_=>?_⟩;rw[l5];simp only[l2,Ao];rw[w64 (by omega) (by omega)];refine IB Hg f ?_;simp only[AK.elim,l2,true_and,At,AB]
 by_cases P:1099511627776-A.stp<A.price
 ·rw[if_pos P]at l
  exact⟨λ_=>m 2 l,λe=>absurd P (of_decide_eq_false e)⟩
 rw[if_neg P]at l;refine⟨λe=>absurd (of_decide_eq_true e) P,λ_=>?_⟩;rw[l4];obtain⟨k,s,e,y,N,r3⟩:=H;have H:Dl h rv A:=⟨k,s,e,y,N,r3⟩;simp only[show (0<1)from by omega,show (0<24)from by omega,show (Array.size #[(.slice none 0 0:Value)]=1)from rfl,true_and];refine HY u (y.sub s2) (by simp only[roomBytes];omega) λI s28 r=>?_;have e3:∀O q L Q:PH->Prop,O•q•L•Q=L•(O•q•Q):=λ_ _ _ _=>by ac_rfl
 have H3':=r;rw[e3]at H3';have s3:Sub h I:=AF Own.mono (AF (A8 _ _) (AF (A8 _ _) H3'));rw[AI (AM H3') (off:=0) (n:=5) (by show 0+5<=5;omega),show (raA A rv).extract 0 (0+5)=raA A rv from rfl]
 -- this round's demands,by their own name
 have B:∀K Kp,K (s k) I->AA Tryz.prog 138 #[.agg (raA A rv)] I K Kp:=λK Kp hK=>by
  refine A7.drop (Wq ?_);unfold ZA ivW;rw[show Value.cells (.agg (raA A rv))=raA A rv from rfl];refine Ai λc G _ hs D=>?_;simp only[AH,Ad];rw[A5 D (v:=rv) rfl,A5 D (v:=rv) rfl,y.lens,Ao,w64 (by omega) (by omega)];obtain⟨b,o,q1,q2⟩:=(y.sub (s3.trans hs)).ptr1 (i:=k) (x:=s k) (by omega) (by rw[List.getElem?_map,List.getElem?_range (by omega)];rfl);rw[show ((k+1:Nat):Int)-1=(k:Int)by omega,q1,q2 G (Sub.refl G)];exact⟨I,hs,hK⟩
 refine B _ _ ?_;have ok:(s k).oneCell'=true:=N.v1;refine⟨by omega,?_⟩;refine Ki r ok (by simp only[roomBytes];omega) λY d M=>?_;rw[W6]at M;have z:=BL (AJ OS.mono M);rw[e3]at M;rw[Aw (AM M) (by show 4<5;omega) z];have T:=Bb (p:=raO A d) M;revert T;rw[show (raA A rv).setIfInBounds 4 d=raA A d from rfl];generalize ins Y t1 (raO A d)=g5;intro T;rw[AI (AM T) (off:=0) (n:=5) (by show 0+5<=5;omega),show (raA A d).extract 0 (0+5)=raA A d from rfl];have H6:=AF (A8 _ _) T;have e6:∀O q Q:PH->Prop,O•q•Q=q•O•Q:=λ_ _ _=>by ac_rfl
 rw[e6]at H6;refine Cc (K:=λrv W=>R (.ret (.tuple #[rv,.int .i64 0])) W) H6 (A8 _ _) rfl rfl (Hi z) λX H7=>?_;have U:Sub h X:=AF Own.mono H7;refine l X _ U ⟨d,rfl,k+1,_,by simp only;omega,CC (AJ OS.mono H7) (ZG λi hi=>?_),?_,λ_=>?_⟩
 ·by_cases c:i=k+1
  ·simp only[c,if_true];exact ok
  ·simp only[c,if_false]
   exact y.one (s i) (List.mem_map.2 ⟨i,List.mem_range.2 (by omega),rfl⟩)
 ·simp only[if_true]
  exact N.sub U
 ·rw[if_neg (by omega),show k+1-1=k by omega]
  have er:D5 (λi=>if i<A.n then A.now i else A.was i) A.n=D5 A.now A.n:=If λi hi=>if_pos hi;show BG X (s k) 1 A.n (D5 (λi=>if i<A.n then A.now i else A.was i) A.n);rw[er];exact N.sub U
end
section
variable {h:PH} {R:RT} {gv:Value} {n:Nat} {m:Int} {g:Nat->Int}
abbrev OI (s:Value) (n:Nat) (f:Nat->Int):PH->Prop:=OS 3 1 s n (D5 f n)
theorem GU (H:BG h gv 1 n (D5 g n)) {i:Nat} (hi:i<n):∃b o,(∀K,AR 1 gv (.int .i64 i) K↔K (.pointer (some ⟨b,o,none⟩)))/\∀G,Sub h G->∀K,A0 none (.pointer (some ⟨b,o,none⟩)) G K↔K (.int .i64 (g i)):=H.ptr1 hi (G8 hi)
theorem Uw {i:Nat} {S:Int} {r:Value} {G:PH} {Kp:KP} {x2:V3->PH->Prop} {s:V3->V2->PH->Prop} (H:BG h gv 1 n (D5 g n)) (A:n<=16) (t:0<=m/\m<=1048576) (z:∀i,i<n->0<=g i/\g i<=1048576)
  (hi:i<n) (q:(OI r i (base g m S)•Own h) G) (u:∀d f,(OI f (i+1) (base g m S)•Own h) d->s (.int .i64 m,gv,.int .i64 S) (f,.int .i64 ((i:Int)+1)) d) :
  Ll Kp x2 (.int .i64 m,gv,.int .i64 S) s (r,.int .i64 i) G:=by
 have v:=H.sub (AF Own.mono q);unfold Ll ivW;have p:(i:Int)<(n:Int):=by omega
 have w:IntKind.i64.wrap ((i:Int)+1)=(i:Int)+1:=w64 (by omega) (by omega);have j:=z i hi;have B:=Nb (sum:=S) t j;obtain⟨b,o,q1,q2⟩:=GU v hi;simp only[v.lens,AC,p,B6,AB,At,AG,w,q1,q2 G (Sub.refl G),CG,show (1*1<=2^24)from by omega,show (0<1)from by omega,show (0<8)from by omega,show (Array.size #[(.int .i64 0:Value)]=1)from rfl,true_and];refine⟨λ_=>⟨λa=>?_,λa=>?_⟩,λe=>absurd e (by simp)⟩
 ·have a:=of_decide_eq_true a
  have y:=Dc t j;have c:base g m S i=(m*g i).tdiv S:=by unfold base;rw[if_pos a]
  rw[w64 (x:=m*g i) (by omega) (by omega),Fx _ _ _ _ (by omega),<-c,w64 (by omega) (by omega)];refine Ki q rfl (by simp only[roomBytes];omega) λd l k=>?_;rw[<-IC]at k;exact u d l k
 ·have a:=of_decide_eq_false a
  have c:base g m S i=0:=by unfold base;rw[if_neg a]
  refine Ki q rfl (by simp only[roomBytes];omega) λd l k=>?_;rw[<-c,<-IC]at k;exact u d l k
theorem Xm {i:Nat} {l:Int} {o:Nat->Int} {q:Value} {G:PH} {Kp:KP} {F:Value->PH->Prop} {C:V2->V2->PH->Prop} (H:BG h gv 1 n (D5 g n)) (P:n<=16) (M:∀i,i<n->0<=g i/\g i<=1048576) (J:∀i,i<n->0<=o i/\o i<=1099511627776)
  (Q:-100000000000000<=l/\l<=100000000000000) (hi:i<n) (p:(OI q n (Dy (more g o l) o i)•Own h) G) (d:∀t,(OI q n (Dy (more g o l) o (i+1))•Own h) t->C (gv,q) (.int .i64 (DE g o l (i+1)),.int .i64 ((i:Int)+1)) t) :
  Lj Kp F (gv,q) C (.int .i64 (DE g o l i),.int .i64 i) G:=by
 have E:=H.sub (AF Own.mono p);have O:=CC (AJ OS.mono p) (E3 _ _);unfold Lj GB gAW gGW ivW;have y:(i:Int)<(n:Int):=by omega
 have B:IntKind.i64.wrap ((i:Int)+1)=(i:Int)+1:=w64 (by omega) (by omega);have L:=M i hi;have I:=J i hi;have K:=OY g o l i;obtain⟨b,f,q1,q2⟩:=GU E hi;obtain⟨b2,f2,q3,q4⟩:=GU O hi;rw[Vu]at q4;have a:DE g o l (i+1)=if 0<DE g o l i/\o i<g i then DE g o l i-1 else DE g o l i:=rfl
 have c:more g o l i=if 0<DE g o l i/\o i<g i then o i+1 else o i:=rfl
 simp only[E.lens,AC,y,B6,AB,At];refine nT ?_
 by_cases s:0<DE g o l i
 ·simp only[s,B6,AZ,C7,CI,ne_eq,Bx,C1,and_true,q1,q2 G (Sub.refl G),q3,q4 G (Sub.refl G),AC,Al,cond_true,AB,AG,B,Ao]
  by_cases r:o i<g i
  ·rw[if_pos ⟨s,r⟩]at a c
   refine⟨λ_=>?_,λe=>absurd r (of_decide_eq_false e)⟩;rw[w64 (x:=o i+1) (by omega) (by omega),w64 (x:=DE g o l i-1) (by omega) (by omega),<-a,<-c];obtain⟨N,cap,w,u⟩:=QN (j:=i) (v:=.int .i64 (more g o l i)) p (by omega) rfl
   have z:Value.pointer (some ⟨b2,f2,none⟩) = .pointer (some ⟨N,i,none⟩):=by
    have D:=(q3 (λv=>v = .pointer (some ⟨b2,f2,none⟩))).2 rfl;rw[w,B9,show 0+(i:Int).toNat*1=i by omega]at D;exact D.2.2.symm
   rw[z];refine u _ λt A=>?_;rw[LF _ hi]at A;have e:(λk=>if k=i then more g o l i else Dy (more g o l) o i k)=Dy (more g o l) o (i+1):=Fz (more g o l) o i;rw[e]at A;exact d t A
  ·rw[if_neg (λh=>r h.2)]at a c
   refine⟨λe=>absurd (of_decide_eq_true e) r,λ_=>?_⟩;rw[Hy c,a]at d;exact d G p
 ·rw[if_neg (λh=>s h.1)]at a c
  rw[Hy c,a]at d;simp only[s,BW,AZ,C7,Option.some.injEq,Ba,C1,true_and,ne_eq,CJ,CI,Al,cond_false,AB,Bx,and_true,AG,B];exact d G p
theorem Uk (H:BG h gv 1 n (D5 g n)) (v:n<=16) (I:0<=m/\m<=1048576) (o:∀i,i<n->0<=g i/\g i<=1048576) (F:m<=AS g n)
  (J:∀G s,Sub h G->BG G s 1 n (D5 (Ce g m n) n)->R (.ret (.tuple #[s,.bool true])) G) :
  A7 Tryz.prog 183 #[.int .i64 m,gv] h R:=by
 refine gV ?_;unfold jr eXW gAW gGW ivW pnW;refine AL (λq c G=>∃i:Nat,c=(.slice none 0 0,.bool false,.int .i64 i)/\q=n-i/\i<=n/\G=h) n ⟨0,rfl,rfl,by omega,rfl⟩ ?_;rintro q c G ⟨i,rfl,em,hi,rfl⟩
 by_cases t:i<n
 ·unfold SG gAW gGW ivW
  have a:(i:Int)<(n:Int):=by omega
  have L:IntKind.i64.wrap ((i:Int)+1)=(i:Int)+1:=w64 (by omega) (by omega);have P:=o i t;have U:¬g i<0:=by omega
  have T:¬1048576<g i:=by omega
  obtain⟨b,f,q1,q2⟩:=GU H t;simp only[H.lens,AC,a,B6,AB,q1,q2 G (Sub.refl G),U,BW,AZ,C7,CI,ne_eq,Bx,C1,and_true,At,T,Al,cond_false,AG,L,Ba,Bool.true_eq_false,true_and];exact⟨n-(i+1),by omega,i+1,rfl,rfl,by omega⟩
 have e:i=n:=by omega
 subst e
 have bs:∀j,j<=i->0<=AS g j/\AS g j<=16777216:=λj l=>by
  have:=Kz (by omega) o l;omega
 have bsn:=bs i (Nat.le_refl _);unfold SG gAW gGW ivW;have a:¬(i:Int)<(i:Int):=by omega
 simp only[H.lens,AC,a,BW,AB];refine nF ?_;intro r d;simp only[Prod.mk.injEq]at d;obtain⟨x,w,O,N⟩:=d;have Z:¬(16:Int)<(i:Int):=by omega
 have Y:¬m<0:=by omega
 have X:¬1048576<m:=by omega
 have W:¬AS g i<m:=by omega
 have E:∀K Kp,K (.int .i64 (AS g i)) G->AA Tryz.prog 182 #[gv] G K Kp:=λK Kp Q=>NR H v (λj l=>by have:=o j l;omega) Q;simp only[x,w,O,N,H.lens,At,AC,Z,Y,X,BW,AZ,C7,CI,ne_eq,Bx,C1,and_true,Al,cond_false,Ba,true_and];refine E _ _ ?_;simp only[AZ,C7,CI,ne_eq,Bx,C1,and_true,Al,cond_false,At,W,BW,AB,Ba,true_and];refine E _ _ ?_;have C:∀j,j<i->0<=base g m (AS g i) j/\base g m (AS g i) j<=1099511627776:=λj l=>Nb I (o j l);have bso:=Kz (by omega) C (Nat.le_refl i);have B:Ce g m i=more g (base g m (AS g i)) (m-AS (base g m (AS g i)) i):=rfl;rw[B]at J;generalize AS g i=S at *;have H0:(OI (.slice none 0 0) 0 (base g m S)•Own G) G:=D0 (Sub.refl G) ⟨Sub.refl _,rfl,.inl ⟨rfl,rfl,rfl⟩⟩;refine AL (λq c u=>∃(j:Nat) (p:Value),c=(p,.int .i64 j)/\q=i-j/\j<=i/\(OI p j (base g m S)•Own G) u) i ⟨0,_,rfl,rfl,by omega,H0⟩ ?_;rintro q c G1 ⟨j,p,rfl,em,l,HO⟩
 by_cases A:j<i
 ·exact Uw H v I o A HO λu y D=>⟨rfl,i-(j+1),by omega,j+1,y,rfl,rfl,by omega,D⟩
 have e:j=i:=by omega
 subst e;unfold Ll ivW;have a:¬(j:Int)<(j:Int):=by omega
 simp only[(H.sub (AF Own.mono HO)).lens,AC,a,BW,AB];refine nF ?_;intro r d;simp only[Prod.mk.injEq]at d;obtain⟨x,w,M⟩:=d;rw[x,w,M];refine NR (CC (AJ OS.mono HO) (E3 _ _)) v C ?_;simp only[AK.elim,Ao];rw[w64 (by omega) (by omega)];refine AL (λq c u=>∃k:Nat,c=(.int .i64 (DE g (base g m S) (m-AS (base g m S) j) k),.int .i64 k)/\q=j-k/\k<=j/\(OI p j (Dy (more g (base g m S) (m-AS (base g m S) j)) (base g m S) k)•Own G) u) j ⟨0,rfl,rfl,by omega,by rw[J2];exact HO⟩ ?_;rintro q c G2 ⟨k,rfl,em,hk,HO2⟩
 by_cases z:k<j
 ·exact Xm H v o C (by omega) z HO2 λu D=>⟨rfl,j-(k+1),by omega,k+1,rfl,rfl,by omega,D⟩
 have e:k=j:=by omega
 subst e;unfold Lj GB gAW gGW ivW;have a:¬(k:Int)<(k:Int):=by omega
 simp only[(H.sub (AF Own.mono HO2)).lens,AC,a,BW,AB];refine nF ?_;intro r d;rw[show r 8=_ from d];have V:D5 (Dy (more g (base g m S) (m-AS (base g m S) k)) (base g m S) k) k=D5 (more g (base g m S) (m-AS (base g m S) k)) k:=If λi hi=>if_pos hi;unfold OI at HO2;rw[V]at HO2;exact J G2 p (AF Own.mono HO2) (CC (AJ OS.mono HO2) (E3 _ _))
end
section
variable {h g:PH} {R:RT} {A:Auc} {rv:Value} {C:PH->Prop}
theorem VL {i t1:Nat} {t pv:Value} {G:PH} {Kp:KP} {D:V3->PH->Prop} {w:Value->V3->PH->Prop} (H:Dl h rv A) (c:A.ok) (L:h t1=some (raO A rv)) (hi:i<A.n)
  (z:(OI t i (λ_=>0)•OI pv i (λk=>A.was k-A.now k)•Own h) G) (r:∀a j f,(OI j (i+1) (λ_=>0)•OI f (i+1) (λk=>A.was k-A.now k)•Own h) a->w (ptr t1) (j,f,.int .i64 ((i:Int)+1)) a) :
  PY Kp D (ptr t1) w (t,pv,.int .i64 i) G:=by
 have x:=c.n;have I:∀a,(OI t i (λ_=>0)•OI pv i (λk=>A.was k-A.now k)•Own h) a->Sub h a:=λa U=>AF Own.mono (AF (A8 _ _) U)
 have m:∀a,Sub h a->∀K,A0 (some 5) (.pointer (some ⟨t1,0,none⟩)) a K↔K (.agg (raA A rv)):=λa N K=>by
  rw[AI (N _ _ L) (off:=0) (n:=5) (by show 0+5<=5;omega)];rfl
 have v:=I G z;have M:=c.was i hi;have O:=c.now i hi;have F:IntKind.i64.wrap ((i:Int)+1)=(i:Int)+1:=w64 (by omega) (by omega);have E:IntKind.i64.wrap (A.was i-A.now i)=A.was i-A.now i:=w64 (by omega) (by omega);unfold PY ivW;rw[m G v];refine EW (H.sub v) c λW T=>?_;have q:(i:Int)<(A.n:Int):=by omega
 simp only[AK.elim,T.lens,AC,q,B6,AB,show (1*1<=2^24)from by omega,show (0<1)from by omega,show (0<8)from by omega,show (Array.size #[(.int .i64 0:Value)]=1)from rfl,true_and];refine nT ?_;refine Ki z rfl (by simp only[roomBytes];omega) λd s l=>?_;have S:D5 (λ_=>0) i ++ [Value.int .i64 0]=D5 (λ_=>0) (i+1):=(IC _ _).symm;rw[S]at l;have e:Sub h d:=AF Own.mono (AF (A8 _ _) l);rw[m d e,m d e];refine LA (H.sub e) c hi ?_;simp only[AK.elim,m d e,true_and];refine EW (H.sub e) c λJ u=>?_;obtain⟨b,o,q1,q2⟩:=GU u hi;simp only[AK.elim,q1,q2 d (Sub.refl d),Ao,E,AG,F];have y:∀X Y Q:PH->Prop,X•Y•Q=Y•X•Q:=λ_ _ _=>by ac_rfl
 unfold OI at l;rw[y]at l;refine Ki l rfl (by simp only[roomBytes];omega) λV p B=>?_;have P:D5 (λk=>A.was k-A.now k) i ++ [Value.int .i64 (A.was i-A.now i)]=D5 (λk=>A.was k-A.now k) (i+1):=(IC _ _).symm;rw[P,y]at B;exact r V s p B
theorem TQ {t1:Nat} {l pv mv:Value} {mo:Nat->Int} {G:PH} {Kp:KP} {x2:V2->PH->Prop} (y:C3 C) (Y:∀q,C q->Dl q rv A/\q t1=some (raO A rv)/\(BG q mv 1 A.n (D5 mo A.n)\/mv = .slice none 0 0/\∀i,mo i=0)) (L:A.ok) (J:∀i,i<A.n->0<=mo i/\mo i<=1099511627777)
  (HO:(OI l A.n (λ_=>0)•C) G) (hX:∀d,(OI l A.n (λi=>A.now i+mo i)•C) d->x2 (l,pv) d) :
  lf (It Kp x2) (ptr t1,l,pv,mv) (.int .i64 0) G:=by
 have X:=L.n;refine AL (λq W d=>∃i:Nat,W = .int .i64 i/\q=A.n-i/\i<=A.n/\(OI l A.n (Dy (λi=>A.now i+mo i) (λ_=>0) i)•C) d) A.n ⟨0,rfl,rfl,by omega,by rw[J2];exact HO⟩ ?_;rintro q W d ⟨i,rfl,em,hi,Hg⟩;obtain⟨H0,k1,D⟩:=Y d (AF y Hg)
 have l5:∀K,A0 (some 5) (.pointer (some ⟨t1,0,none⟩)) d K↔K (.agg (raA A rv)):=λK=>by
  rw[AI k1 (off:=0) (n:=5) (by show 0+5<=5;omega)];rfl
 have Hr:=CC (AJ OS.mono Hg) (E3 _ _)
 by_cases a:i<A.n
 ·have key:∀H:V4->Value->PH->Prop,(∀B,(OI l A.n (Dy (λi=>A.now i+mo i) (λ_=>0) (i+1))•C) B->H (ptr t1,l,pv,mv) (.int .i64 ((i:Int)+1)) B)->It Kp x2 (ptr t1,l,pv,mv) H (.int .i64 i) d:=by
   intro H x;unfold It KX ivW;have f:(i:Int)<(A.n:Int):=by omega
   have V:IntKind.i64.wrap ((i:Int)+1)=(i:Int)+1:=w64 (by omega) (by omega);have hnb:=L.now i a;have hmb:=J i a;simp only[Hr.lens,AC,f,B6,AB];refine nT ?_;rw[l5];refine EW H0 L λnv Hn=>?_;obtain⟨b,o,q1,q2⟩:=GU Hn a;obtain⟨S,cap,w,I⟩:=QN (j:=i) (v:=.int .i64 (A.now i)) Hg (by omega) rfl
   have r:∀K,AR 1 l (.int .i64 i) K↔K (.pointer (some ⟨S,i,none⟩)):=λK=>by
    rw[w,B9,show 0+(i:Int).toNat*1=i by omega];exact⟨λM=>M.2.2,λM=>⟨by omega,by omega,M⟩⟩
   simp only[AK.elim,q1,q2 d (Sub.refl d),r];refine I _ λt s=>?_;rw[LF _ a]at s;obtain⟨_,_,D⟩:=Y t (AF y s)
   have u:∀v:Int,v=A.now i+mo i->(λk=>if k=i then v else Dy (λi=>A.now i+mo i) (λ_=>0) i k)=Dy (λi=>A.now i+mo i) (λ_=>0) (i+1):=λv hv=>by
    rw[hv];exact Fz (λi=>A.now i+mo i) (λ_=>0) i
   rcases D with D | ⟨rfl,hm0⟩
   ·have Hm:=D
    obtain⟨b3,o3,q5,q6⟩:=GU Hm a;have U:=CC (AJ OS.mono s) (E3 _ _);obtain⟨T,F,q7,E⟩:=GU U a;simp only[if_true]at E;have e4:Value.pointer (some ⟨T,F,none⟩) = .pointer (some ⟨S,i,none⟩):=((r (λv=>v = .pointer (some ⟨T,F,none⟩))).1 ((q7 (λv=>v = .pointer (some ⟨T,F,none⟩))).2 rfl)).symm;rw[e4]at E;simp only[Hm.lens,AC,f,B6,AB,r,q5,q6 t (Sub.refl t),E t (Sub.refl t),AG,V];refine nT ?_;rw[w64 (by omega) (by omega)];obtain⟨Q,Z,p,m⟩:=QN (j:=i) (v:=.int .i64 (A.now i+mo i)) s (by omega) rfl;have O:Q=S:=by rw[w]at p;cases p;rfl
    rw[O]at m;refine m _ λB z=>?_;rw[LF _ a]at z
    have P:(λk=>if k=i then A.now i+mo i else if k=i then A.now i else Dy (λi=>A.now i+mo i) (λ_=>0) i k)=Dy (λi=>A.now i+mo i) (λ_=>0) (i+1):=by
     rw[<-u _ rfl]
     funext k
     by_cases c:k=i
     ·rw[if_pos c,if_pos c]
     ·rw[if_neg c,if_neg c,if_neg c]
    rw[P]at z;exact x B z
   ·rw[u _ (by rw[hm0];omega)]at s
    have N:¬(i:Int)<((0:Nat):Int):=by omega
    simp only[BQ,AC,N,BW,AB,AG,V];exact⟨λe=>absurd e (by simp),λ_=>x t s⟩
  exact key _ λB z=>⟨rfl,A.n-(i+1),by omega,i+1,rfl,rfl,by omega,z⟩
 ·have e:i=A.n:=by omega
  subst e;unfold It KX ivW;have f:¬(A.n:Int)<(A.n:Int):=by omega
  simp only[Hr.lens,AC,f,BW,AB];refine nF ?_;have P:D5 (Dy (λi=>A.now i+mo i) (λ_=>0) A.n) A.n=D5 (λi=>A.now i+mo i) A.n:=If λi hi=>if_pos hi;unfold OI at Hg;rw[P]at Hg;exact hX d Hg
theorem ZI (H:Dl h rv A) (j:A.ok) (d:A.ste=2\/A.ste=1/\A.demand<=A.sup) (u:∀g s,Sub h g->BG g s 1 A.n (D5 (BD A).2 A.n)->R (.ret (.tuple #[.int .i64 (BD A).1,s,.int .i64 0])) g) :
  A7 Tryz.prog 159 #[.agg (raA A rv)] h R:=by
 refine iA ?_;unfold kM eXW gAW gGW ivW pnW;rw[show Value.cells (.agg (raA A rv))=raA A rv from rfl];refine Ai λt1 l _ N t=>?_;have hn16:=j.n;have hsb:=j.sup;have hpb:=j.priceB;have hst:=j.stp;have hrb:=j.rndB;have hr1:=j.rnd;have hdb:=j.sumB j.now (Nat.le_refl _);have l3:∀G,Sub l G->∀K,A0 none (.pointer (some ⟨t1,3,none⟩)) G K↔K (.int .i64 A.ste):=λG d K=>A5 (d _ _ t) rfl;have Y:∀G,Sub l G->∀K,A0 none (.pointer (some ⟨t1,0,none⟩)) G K↔K (.int .i64 A.sup):=λG d K=>A5 (d _ _ t) rfl;have l2:∀G,Sub l G->∀K,A0 none (.pointer (some ⟨t1,2,none⟩)) G K↔K (.int .i64 A.stp):=λG d K=>A5 (d _ _ t) rfl;have l4:∀G,Sub l G->∀K,A0 none (.pointer (some ⟨t1,4,none⟩)) G K↔K rv:=λG d K=>A5 (d _ _ t) rfl
 have W:∀G,Sub l G->∀K,A0 (some 5) (.pointer (some ⟨t1,0,none⟩)) G K↔K (.agg (raA A rv)):=λG d K=>by
  rw[AI (d _ _ t) (off:=0) (n:=5) (by show 0+5<=5;omega)];rfl
 have F:¬A.ste=0:=by omega
 simp only[AH,Ad,l3 l (Sub.refl l),BC,F,BW,AB];refine nF ?_;have Hs:=H.sub N
 have H0:(OI (.slice none 0 0) 0 (λ_=>0)•OI (.slice none 0 0) 0 (λk=>A.was k-A.now k)•Own l) l:=
  D0 (D0 (Sub.refl l) ⟨Sub.refl _,rfl,.inl ⟨rfl,rfl,rfl⟩⟩) ⟨Sub.refl _,rfl,.inl ⟨rfl,rfl,rfl⟩⟩
 refine AL (λq s' G=>∃(i:Nat) (w pv:Value),s'=(w,pv,.int .i64 i)/\q=A.n-i/\i<=A.n/\(OI w i (λ_=>0)•OI pv i (λk=>A.was k-A.now k)•Own l) G) A.n ⟨0,_,_,rfl,rfl,by omega,H0⟩ ?_;rintro q s' G ⟨i,w,pv,rfl,em,hi,HO⟩
 by_cases hin:i<A.n
 ·exact VL Hs j t hin HO λP gv' V y=>⟨rfl,A.n-(i+1),by omega,i+1,gv',V,rfl,rfl,by omega,y⟩
 have e:i=A.n:=by omega
 subst e;have m:Sub l G:=AF Own.mono (AF (A8 _ _) HO);unfold PY ivW;rw[W G m];refine EW (Hs.sub m) j λnv Hn=>?_;have Z:¬(A.n:Int)<(A.n:Int):=by omega
 simp only[AK.elim,Hn.lens,AC,Z,BW,AB];refine nF ?_;intro r hr;simp only[Prod.mk.injEq]at hr;obtain⟨U,T,S⟩:=hr;simp only[U,T,S,AH,Ad,l3 G m,BC,AB];unfold BD at u
 by_cases O:A.ste=2
 ·rw[if_pos O]at u
  refine⟨λ_=>?_,λe=>absurd O (of_decide_eq_false e)⟩;exact u G w (N.trans m) (CC (AJ OS.mono HO) (E3 _ _))
 rw[if_neg O]at u;refine⟨λe=>absurd (of_decide_eq_true e) O,λ_=>?_⟩;have hle:A.demand<=A.sup:=by omega
 have p:AS A.now A.n=A.demand:=rfl;rw[p]at hdb;rw[Y G m,W G m];refine EW (Hs.sub m) j λnv2 Hn2=>?_;simp only[AK.elim,Y G m,true_and];refine NR (h:=G) Hn2 (by omega) (λi hi=>by have:=j.now i hi;omega) ?_;simp only[AK.elim,Y G m,true_and,Ao];rw[p,w64 (by omega) (by omega),W G m];refine IB (Hs.sub m) j ?_;obtain⟨k,rf,ek,q1,q2,q3⟩:=Hs.sub m;simp only[AK.elim,AH,Ad,l4 G m,q1.lens,At];have gO:(OI w A.n (λ_=>0)•Own l) G:=AU HO (λ_ h=>h) λq o=>AF Own.mono o;have gP:=CC (AJ OS.mono (AF (A8 _ _) HO)) (E3 _ _)
 by_cases M:A.rnd=1\/A.sup-A.demand=0
 ·rw[if_pos M]at u
  have x:=TQ (Kp:=λc h=>R (.pan c) h) (x2:=λv h=>exq (λρ=>(ρ 5,ρ 9)) v (λD L=>R (.ret (.tuple #[D 9,D 5,.int .i64 0])) L) h) (pv:=.int .i64 A.price) (mv:=.slice none 0 0) (mo:=λ_=>0) (C:=Own l) Own.mono (λq o=>⟨Hs.sub o,o _ _ t,.inr ⟨rfl,λ_=>rfl⟩⟩) j (λi _=>by omega) gO (λP y=>by
   intro r2 f;simp only[Prod.mk.injEq]at f;rw[f.1,f.2];have e2:D5 (λi=>A.now i+0) A.n=D5 A.now A.n:=If λi _=>by omega
   have:=CC (AJ OS.mono y) (E3 _ _);rw[e2]at this;exact u P w (N.trans (AF Own.mono y)) this)
  rcases M with M | M
  ·have z:¬(1:Int)<((k+1:Nat):Int):=by omega
   simp only[z,BW,AZ,C7,Option.some.injEq,Ba,C1,true_and,ne_eq,CJ,CI,Al,cond_false,AB,Bx,and_true];exact x
  ·have h0:¬(0:Int)<A.sup-A.demand:=by omega
   by_cases z:(1:Int)<((k+1:Nat):Int)
   ·simp only[z,h0,B6,BW,AZ,C7,Option.some.injEq,Ba,C1,true_and,ne_eq,CJ,CI,Al,cond_true,cond_false,AB,Bx,and_true,At]
    exact x
   ·simp only[z,BW,AZ,C7,Option.some.injEq,Ba,C1,true_and,ne_eq,CJ,CI,Al,cond_false,AB,Bx,and_true]
    exact x
 rw[if_neg M]at u;have z:(1:Int)<((k+1:Nat):Int):=by omega
 have h0:(0:Int)<A.sup-A.demand:=by omega
 have f:1<A.rnd:=by omega
 have hf:=j.fall f;have hmo:=j.more f
 have J:∀i,i<A.n->0<=A.was i-A.now i/\A.was i-A.now i<=1048576:=λi hi=>by
  have:=hf i hi;have:=j.was i hi;have:=j.now i hi;omega
 have I:0<=A.sup-A.demand/\A.sup-A.demand<=1048576:=by omega
 simp only[z,h0,B6,AZ,C7,Option.some.injEq,Ba,Bool.true_eq_false,C1,true_and,ne_eq,CJ,CI,Al,cond_true,cond_false,AB,Bx,and_true,l2 G m,Ao,At];rw[w64 (by omega) (by omega)]
 have HF:((λq=>Sub l q/\BG q pv 1 A.n (D5 (λk=>A.was k-A.now k) A.n))•OI w A.n (λ_=>0)) G:=
  BX (AU HO (λ_ h=>h) λq o=>⟨AF Own.mono o,CC (AJ OS.mono o) (E3 _ _)⟩)
 have E:A.sup-A.demand<=AS (λk=>A.was k-A.now k) A.n:=by rw[J8,p];omega
 refine fr (X:=Value) (val:=λs=>.tuple #[s,.bool true]) (Q:=λs q=>BG q s 1 A.n (D5 (Ce (λk=>A.was k-A.now k) (A.sup-A.demand) A.n) A.n)) HF (λa b d H=>⟨H.1.trans d,H.2.sub d⟩)
  (λq o R' hR'=>Uk o.2 (by omega) I J E λG3 s s3 Hm=>hR' G3 s s3 Hm) λmv G3 HM=>?_
 simp only[Av,Au];have sb:=λi hi=>MB (n:=A.n) (i:=i) I J hi
 refine TQ (C:=λq=>BG q mv 1 A.n (D5 (Ce (λk=>A.was k-A.now k) (A.sup-A.demand) A.n) A.n)/\(Sub l q/\BG q pv 1 A.n (D5 (λk=>A.was k-A.now k) A.n)))
  (λa b d H=>⟨H.1.sub d,H.2.1.trans d,H.2.2.sub d⟩) (λq o=>⟨Hs.sub o.2.1,o.2.1 _ _ t,.inl o.1⟩) j sb (BX HM) λP y=>?_
 intro r2 f;simp only[Prod.mk.injEq]at f;rw[f.1,f.2];exact u P w (N.trans (AF (B:=λq=>BG q mv 1 A.n (D5 (Ce (λk=>A.was k-A.now k) (A.sup-A.demand) A.n) A.n)/\(Sub l q/\BG q pv 1 A.n (D5 (λk=>A.was k-A.now k) A.n))) (λa b d H=>⟨H.1.sub d,H.2.1.trans d,H.2.2.sub d⟩) y).2.1) (CC (AJ OS.mono y) (E3 _ _))
end
section
variable {h g:PH} {R:RT} {B C:PH->Prop} {S:Hs} {Lv Bv Sv:Value} {bs ss:Nat->Value} {gd:Nat}
def StE (h:PH) (S:Hs) (Lv Bv Sv:Value) (bs ss:Nat->Value) (t2 t5 gd:Nat) (A:Auc) (w:Int):PH->Prop:=λq=>RHp q S Lv Bv Sv bs ss/\Sub h q/\q t2=some (rhO S.L.goods S.now Lv Bv Sv)/\q t5=some (.cells (saA A w (ss gd)) 115 (0,0))
theorem StE.mono {t2 t5:Nat} {A:Auc} {w:Int}:C3 (StE h S Lv Bv Sv bs ss t2 t5 gd A w):=λa b c H=>⟨H.1.sub c,H.2.1.trans c,c _ _ H.2.2.1,c _ _ H.2.2.2⟩
theorem YR {t2 t4 t5 t6 t7 k:Nat} {A a:Auc} {w:Int} {s:Value} {Kp:KP} {x2:V5->PH->Prop} {L:V6->Value->PH->Prop} (j:S.ok) (x:Snd S) (l:gd<S.G) (r:S.au gd=some (A,w)) (d:k<S.L.n)
  (c:a.ok) (h0:a.ste=0) (hn:a.n=S.L.n) (hp:0<a.price)
  (H:(pt t7 (raO a s)•(λq=>Dl q s a/\StE h S Lv Bv Sv bs ss t2 t5 gd A w q)•C) g)
  (hX:∀g' b,(pt t7 (raO (DZ a k (min (a.was k) ((S.L.f k 0-S.L.f k 1+Ae A k).tdiv a.price))).2 b)•(λq=>Dl q b (DZ a k (min (a.was k) ((S.L.f k 0-S.L.f k 1+Ae A k).tdiv a.price))).2/\StE h S Lv Bv Sv bs ss t2 t5 gd A w q)•C) g' ->
   L (.int .i64 gd,ptr t2,ptr t4,ptr t5,ptr t6,ptr t7) (.int .i64 ((k:Int)+1)) g') :
  Lr Kp x2 (.int .i64 gd,ptr t2,ptr t4,ptr t5,ptr t6,ptr t7) L (.int .i64 k) g:=by
 have hcl:=j.cl;obtain⟨O,hA0,hAn,hw0,hwn⟩:=j.au gd A w l r;have y:C3 λq=>Dl q s a/\StE h S Lv Bv Sv bs ss t2 t5 gd A w q:=B3 Dl.mono StE.mono;obtain⟨f,F,N,M,k5⟩:=AJ y (AF (A8 _ _) H);have W:=AM H;have V:=λK=>A5 (K:=K) M (show (rhA S.L.goods S.now Lv Bv Sv)[2]?=some Lv from rfl)
 have U:∀K,A0 (some 5) (.pointer (some ⟨t2,0,none⟩)) g K↔K (.agg (rhA S.L.goods S.now Lv Bv Sv)):=λK=>by
  rw[AI M (off:=0) (n:=5) (by show 0+5<=5;omega)];rfl
 have J:∀K,A0 (some 7) (.pointer (some ⟨t5,0,none⟩)) g K↔K (.agg (saA A w (ss gd))):=λK=>by
  rw[AI k5 (off:=0) (n:=7) (by show 0+7<=7;omega)];rfl
 have e:∀K,A0 (some 5) (.pointer (some ⟨t7,0,none⟩)) g K↔K (.agg (raA a s)):=λK=>by
  rw[AI W (off:=0) (n:=5) (by show 0+5<=5;omega)];rfl
 have T:IntKind.i64.wrap ((k:Int)+1)=(k:Int)+1:=w64 (by omega) (by omega);have f0:=j.led.small.num k 0 d (by omega);have f1:=j.led.small.num k 1 d (by omega);have hnb:=Dr O (k:Int);have hpb:=c.priceB;unfold Lr Iz ivW;have z:(k:Int)<(S.L.n:Int):=by omega
 simp only[AH,Ad,V,F.L.lens,AC,z,B6,AB,U,J,e];refine nT ?_;refine ZT F j x d ?_;simp only[AK.elim,J,e,true_and];refine Ss (F.a gd A w l r) O (by omega) ?_;simp only[AK.elim,e,true_and,AG];rw[w64 (by omega) (by omega)];refine IB f c ?_;simp only[AK.elim,e]
 have htd:-4611686018427387904<=(S.L.f k 0-S.L.f k 1+Ae A k).tdiv a.price/\(S.L.f k 0-S.L.f k 1+Ae A k).tdiv a.price<=4611686018427387904:=by
  have h1:=Int.natAbs_tdiv_le_natAbs (S.L.f k 0-S.L.f k 1+Ae A k) a.price;omega
 rw[Fx _ _ _ _ (by omega),w64 (by omega) (by omega)];refine LA f c (by omega) ?_;simp only[AK.elim,e,true_and,E7,Ba,if_false];have i:(if (S.L.f k 0-S.L.f k 1+Ae A k).tdiv a.price<a.was k then (S.L.f k 0-S.L.f k 1+Ae A k).tdiv a.price else a.was k)=min (a.was k) ((S.L.f k 0-S.L.f k 1+Ae A k).tdiv a.price):=by split <;> omega
 rw[i];generalize min (a.was k) ((S.L.f k 0-S.L.f k 1+Ae A k).tdiv a.price)=m at *;have P:∀X Y Z:PH->Prop,X•Y•Z=Y•(X•Z):=λ_ _ _=>by ac_rfl
 rw[P]at H
 refine fr (X:=Value) (val:=λv=>.tuple #[v,.int .i64 (DZ a k m).1]) (Q:=λv q=>RAu q v (DZ a k m).2) H y
  (λq t R' D=>WE t.1 c h0 (by omega) λg' v x hv=>D g' v x hv) λv g2 H2=>?_
 obtain⟨b,rfl,I,H3⟩:=RAu.get H2 y;simp only[Av,Au];refine AX λt15 E=>?_;refine AN (cs:=raA (DZ a k m).2 b) (AD _ _ _) (by rfl) (by rfl) (by rw[List.all_eq_true];exact Hi I) ?_;rw[An];have u:=Ar (o:=raO (DZ a k m).2 b) E H3;revert u;generalize ins g2 t15 (raO (DZ a k m).2 b)=g3;intro u;rw[AI (AM u) (off:=0) (n:=5) (by show 0+5<=5;omega),show (raA (DZ a k m).2 b).extract 0 (0+5)=raA (DZ a k m).2 b from rfl];have G:=AF (A8 _ _) u;rw[P]at G;refine AN (cs:=raA (DZ a k m).2 b) (AM G) (by rfl) (by rfl) (by rw[List.all_eq_true];exact Hi I) ?_;have H6:=Bb (p:=raO (DZ a k m).2 b) G;rw[T];exact hX _ b (AU H6 (λ_ h=>h) λ_ h=>AU h (λq t=>⟨t.1,t.2.2⟩) λ_ h=>h)
theorem dg {v:Value} {s b:Nat} {pr n:Int} (H:RH h v S) (e:s<S.L.n) (k:b<S.L.n) (c:gd<4) (a:S.L.n<=16) (m:S.G<=4) (f:0<=pr/\pr<=1099511627776) (j:0<=n/\n<=1048576)
  (d:∀i q,i<S.L.n->q<5->-1152921504606846976<=Ay S.L i q/\Ay S.L i q<=1152921504606846976)
  (l:∀g v,Sub h g->RH g v (S.setL (FV S.L s b gd pr n))->R (.ret v) g) :
  A7 Tryz.prog 160 #[v,.int .i64 s,.int .i64 b,.int .i64 gd,.int .i64 pr,.int .i64 n] h R:=by
 obtain⟨Lv,Bv,Sv,bs,ss,rfl,H⟩:=H;exact XQ H e k c a m f j d l
def StF (h:PH) (S:Hs) (Lv Bv Sv:Value) (bs ss:Nat->Value) (t2 t5 gd:Nat) (A:Auc) (w:Int) (a:Value) (got:Nat->Int):PH->Prop:=λq=>BG q a 1 S.L.n (D5 got S.L.n)/\StE h S Lv Bv Sv bs ss t2 t5 gd A w q
theorem StF.mono {t2 t5:Nat} {A:Auc} {w:Int} {a:Value} {got:Nat->Int}:C3 (StF h S Lv Bv Sv bs ss t2 t5 gd A w a got):=B3 BG.mono StE.mono
theorem Ub {t2 t4 t5 t6 k e:Nat} {A:Auc} {p:Value} {got:Nat->Int} {cs:Array Value} {pr:Int} {c:Led} {Kp:KP} {D:V2->PH->Prop} {x:V6->Value->PH->Prop} (z:S.ok) (L:gd<S.G) (l:k<S.L.n) (G:e<S.L.n)
  (K:0<=pr/\pr<=1099511627776) (m:0<=got k/\got k<=1048576) (f:(∀a q,a<S.L.n->q<5->0<=Ay c a q/\Ay c a q<=1099511627776)/\IL S.L c)
  (H:XS t6 cs ((S.setAu gd none).setL c) (StF h S Lv Bv Sv bs ss t2 t5 gd A (e:Int) p got) C g)
  (N:∀g' w,XS t6 w ((S.setAu gd none).setL (FV c e k gd pr (got k))) (StF h S Lv Bv Sv bs ss t2 t5 gd A (e:Int) p got) C g'->x (.int .i64 gd,ptr t4,ptr t5,ptr t6,.int .i64 pr,p) (.int .i64 ((k:Int)+1)) g') :
  Ls Kp D (.int .i64 gd,ptr t4,ptr t5,ptr t6,.int .i64 pr,p) x (.int .i64 k) g:=by
 have W:=z.g;have M:=z.cl;obtain⟨d,Z,y,V,F⟩:=XS.b H StF.mono;have E:IntKind.i64.wrap ((k:Int)+1)=(k:Int)+1:=w64 (by omega) (by omega);unfold Ls ivW;have r:(k:Int)<(S.L.n:Int):=by omega
 simp only[d.lens,AC,r,B6,AB];refine nT ?_;obtain⟨b,o,q1,q2⟩:=d.ptr1 l (G8 l);rw[XS.load H StF.mono,AH,Ad,A5 F (v:=.int .i64 (e:Int)) rfl,q1,q2 g (Sub.refl g)];have n:c.n=S.L.n:=f.2.1;have t:((S.setAu gd none).setL c).G<=4:=by show c.goods.toNat<=4;rw[f.2.2.1];omega
 have O:=XS.size H StF.mono
 refine fr (X:=Value) (val:=λv=>v) (Q:=λv q=>RH q v (((S.setAu gd none).setL c).setL (FV ((S.setAu gd none).setL c).L e k gd pr (got k)))) H (B3 RH.mono StF.mono)
  (λq j R' s=>dg j.1 (by show e<c.n;omega) (by show k<c.n;omega) (by omega) (by show c.n<=16;omega) t K m (λi q hi j=>by
   have:=f.1 i q (by rw[<-n];exact hi) j;show _<=Ay c i q/\Ay c i q<=_;omega) λg' v J I=>s g' v J I) λv Y U=>?_
 refine XS.put (AU U (λq j=>⟨j.1,j.2.2⟩) λ_ h=>h) StF.mono O λP u T=>?_;rw[AG,E];exact N P u T
theorem XU (H:RHp h S Lv Bv Sv bs ss) (O:S.ok) (u:Snd S) (f:gd<S.G) (hR:∀g v,Sub h g->RH g v (CW S gd)->R (.ret v) g) :
  A7 Tryz.prog 123 #[.agg (rhA S.L.goods S.now Lv Bv Sv),.int .i64 gd] h R:=by
 refine io ?_;unfold lA Xw zq1 IX Iz eXW ivW pnW;rw[show Value.cells (.agg (rhA S.L.goods S.now Lv Bv Sv))=rhA S.L.goods S.now Lv Bv Sv from rfl];refine Ai λt2 g1 _ s1 k2=>AX λt4 h4=>?_;have hG:=O.g;have hcl:=O.cl;have s:C3 λq=>RHp q S Lv Bv Sv bs ss/\Sub h q/\q t2=some (rhO S.L.goods S.now Lv Bv Sv):=λa b u H=>⟨H.1.sub u,H.2.1.trans u,u _ _ H.2.2⟩;have H4:(pt t4 (.cells rh0 52 (0,0))•(λq=>RHp q S Lv Bv Sv bs ss/\Sub h q/\q t2=some (rhO S.L.goods S.now Lv Bv Sv))) (ins g1 t4 (.cells rh0 52 (0,0))):=Ar h4 ⟨H.sub s1,s1,k2⟩;revert H4;generalize ins g1 t4 (.cells rh0 52 (0,0))=g2;intro H4;obtain⟨Hr,hsub,k22⟩:=AF s H4;have z4:=λK=>A5 (K:=K) k22 (show (rhA S.L.goods S.now Lv Bv Sv)[4]?=some Sv from rfl);obtain⟨b,off,q1,q2⟩:=Hr.sale f;simp only[AH,Ad,z4,q1,(q2 g2 (Sub.refl g2)).1];refine AX λt5 h5=>?_;have oS:∀x∈saC ss S gd,x.oneCell'=true:=L9 Hr.side f;refine AN (cs:=(saC ss S gd).toArray) (AD _ _ _) (by rfl) (by simp[Em]) (by simpa using oS) ?_;rw[An];have J:=Ar (o:=.cells (saC ss S gd).toArray 115 (0,0)) h5 H4;revert J;generalize ins g2 t5 (.cells (saC ss S gd).toArray 115 (0,0))=g3;intro J;have k5:=AM J;obtain⟨G,hsub3,k23⟩:=AF s (AF (A8 _ _) J);cases l:S.au gd with
 | none=>
  rw[RD l]at k5;have hRS:CW S gd=S:=by unfold CW;rw[l]
  rw[hRS]at hR;rw[AH,Ad,A5 k5 (v:=.bool false) rfl,Bm,AB];refine nT ?_;rw[AI k23 (off:=0) (n:=5) (by show 0+5<=5;omega),show (rhA S.L.goods S.now Lv Bv Sv).extract 0 (0+5)=rhA S.L.goods S.now Lv Bv Sv from rfl];have o1:=G.L.v1;have o2:=G.B.v1;have o3:=G.A.v1;refine Cc (K:=λp h'=>R (.ret p) h') (AF (A8 _ _) J) s rfl rfl (Fo o1 o2 o3) λg4 d=>?_;exact hR g4 _ d.2.1 ⟨Lv,Bv,Sv,bs,ss,rfl,d.1⟩
 | some q=>
  obtain⟨A,w⟩:=q;obtain⟨U,V,hAn,hw0,hwn⟩:=O.au gd A w f l;rw[Ug l]at k5 J;rw[AH,Ad,A5 k5 (v:=.bool true) rfl,Bm,AB];refine nF ?_;rw[AI k23 (off:=0) (n:=5) (by show 0+5<=5;omega),show (rhA S.L.goods S.now Lv Bv Sv).extract 0 (0+5)=rhA S.L.goods S.now Lv Bv Sv from rfl]
  have H6:(StE h S Lv Bv Sv bs ss t2 t5 gd A w•pt t4 (.cells rh0 52 (0,0))) g3:=by
   have e5:∀X Y Z:PH->Prop,X•Y•Z=(X•Z)•Y:=λ_ _ _=>by ac_rfl
   rw[e5]at J;exact AU J (λq d=>⟨(AF s d).1,(AF s d).2.1,(AF s d).2.2,AM d⟩) λ_ h=>h
  refine Io H6 (A8 _ _) G hcl (by omega) λg4 t6 W Bv' z H7=>?_;have S7:=AJ StE.mono (AF (A8 _ _) H7);simp only[AH,Ad];rw[Uh S7.2.2.2];have e7:∀X Y Z:PH->Prop,X•Y•Z=Y•(X•Z):=λ_ _ _=>by ac_rfl
  rw[e7]at H7
  refine fr (X:=Value) (val:=λv=>.tuple #[v,.int .i64 0]) (Q:=λv q=>RAu q v (AV A).2.2) H7 StE.mono
   (λq d R' T=>ZN (d.1.a gd A w f l) U V λg' v u I=>T g' v u I) λv g5 H8=>?_
  obtain⟨p,rfl,o1,H9⟩:=RAu.get H8 StE.mono;simp only[Av,Au];refine AX λt7 h7=>?_;refine AN (cs:=raA (AV A).2.2 p) (AD _ _ _) (by rfl) (by rfl) (by rw[List.all_eq_true];exact Hi o1) ?_;rw[An];have t:=Ar (o:=raO (AV A).2.2 p) h7 H9;revert t;generalize ins g5 t7 (raO (AV A).2.2 p)=g6;intro t;have k7:=AM t;have hok:=IJ U;rw[AH,Ad,A5 k7 (v:=.int .i64 (AV A).2.2.ste) rfl,BB,AB];cases E:(AV A).1 with
  | false=>
   obtain⟨k0,k1,k2'⟩:=JF V U.rnd E;obtain⟨G1,G2,G3,G4⟩:=fm O u f l E;refine⟨λe=>absurd e (by simp[k0]),λ_=>?_⟩
   refine AL (λm s' g=>∃(k:Nat) (rk:Value),s' = .int .i64 k/\m=S.L.n-k/\k<=S.L.n/\(pt t7 (raO (BT (λi:Nat=>Ae A i) (S.L,(AV A).2.2) k).2 rk)•(λq=>Dl q rk (BT (λi:Nat=>Ae A i) (S.L,(AV A).2.2) k).2/\StE h S Lv Bv Sv bs ss t2 t5 gd A w q)•CP t6 S W Bv' z bs ss•pt t4 (.cells rh0 52 (0,0))) g) S.L.n
    ⟨0,p,rfl,rfl,by omega,t⟩ ?_
   rintro m s' g ⟨k,rk,rfl,em,hkn,Hg⟩;obtain⟨A1,A2,A3,A4⟩:=G2 k hkn
   by_cases F:k<S.L.n
   ·refine YR O u f l F A1 A2 A3 A4 Hg λg' rk' H'=>?_
    rw[<-G1 k F]at H';exact⟨rfl,S.L.n-(k+1),by omega,k+1,rk',rfl,rfl,by omega,H'⟩
   ·have e:k=S.L.n:=by omega
    subst e;have y:C3 λq=>Dl q rk (BT (λi:Nat=>Ae A i) (S.L,(AV A).2.2) S.L.n).2/\StE h S Lv Bv Sv bs ss t2 t5 gd A w q:=B3 Dl.mono StE.mono;obtain⟨hrk,Hrg,hsubg,k2g,k5g⟩:=AJ y (AF (A8 _ _) Hg);unfold Lr Iz ivW;have N:¬(S.L.n:Int)<(S.L.n:Int):=by omega
    simp only[AH,Ad];rw[A5 k2g (v:=Lv) rfl];simp only[Hrg.L.lens,AC,N,BW,AB];refine nF ?_;intro r hr;simp only[Prod.mk.injEq]at hr;obtain⟨r1,r4,r5,r6,r7⟩:=hr;simp only[r1,r4,r5,r6,r7,AH,Ad];have e8:∀P A X Q:PH->Prop,P•A•X•Q=X•(A•P)•Q:=λ_ _ _ _=>by ac_rfl
    have k7g:=AM Hg;rw[e8]at Hg;have k6g:=CP.k Hg;rw[A5 k6g (v:=z) rfl,A5 k5g (v:=.int .i64 w) rfl,AI k7g (off:=0) (n:=5) (by show 0+5<=5;omega)];refine⟨_,Kh _ w (Ld hrk.v1),?_⟩;refine NX (X:=some ((BT (λi:Nat=>Ae A i) (S.L,(AV A).2.2) S.L.n).2,w)) Hg f hrk.v1 Ui λg7 D=>?_;refine MZ (K:=λp h'=>R (.ret p) h') D (A8 _ _) rfl (λq d=>?_) λg8 v d I=>?_
    ·obtain⟨rq,Sq⟩:=AJ y d
     exact R9 Sq.1.side rq
    ·rw[G4]at hR
     exact hR g8 v (AJ y d).2.2.1 (I.likeL G3)
  | true=>
   obtain⟨k0,k1,k2'⟩:=Ii V E;obtain⟨G1,G2,G3⟩:=eO O u f l E;have hsb:=L8 hok k0;refine⟨λ_=>?_,λe=>absurd e (by simp;omega)⟩;rw[AI k7 (off:=0) (n:=5) (by show 0+5<=5;omega),show (raA (AV A).2.2 p).extract 0 (0+5)=raA (AV A).2.2 p from rfl];have y:C3 λq=>Dl q p (AV A).2.2/\StE h S Lv Bv Sv bs ss t2 t5 gd A w q:=B3 Dl.mono StE.mono;rw[e7]at t;have hNn:(AV A).2.2.n=S.L.n:=by rw[k1,hAn]
   refine fr (X:=Value) (val:=λv=>.tuple #[.int .i64 (BD (AV A).2.2).1,v,.int .i64 0]) (Q:=λv q=>BG q v 1 S.L.n (D5 (BD (AV A).2.2).2 S.L.n)) t y
    (λq d R' T=>ZI d.1 hok k0 λg' v u I=>by rw[hNn]at I;exact T g' v u I) λgv g7 D=>?_
   simp only[Ek,Ej,Ei,AH,Ad];have e9:∀A P7 X Q:PH->Prop,A•P7•X•Q=X•A•P7•Q:=λ_ _ _ _=>by ac_rfl
   rw[e9]at D;have k67:=CP.k D;rw[A5 k67 (v:=z) rfl];refine⟨_,rfl,?_⟩
   have ez:(#[.bool false,.int .i64 0,.int .i64 0,.int .i64 0,.int .i64 0,.int .i64 0,.slice none 0 0]:Array Value).toList=saC (F8 ss gd (.slice none 0 0)) (S.setAu gd none) gd:=by
    have e1:(S.setAu gd none).au gd=none:=by simp[Hs.setAu]
    unfold saC;rw[e1]
   refine NX (X:=none) D f rfl ez λg8 H12=>?_
   have H12':(CP t6 (S.setAu gd none) W Bv' z bs (F8 ss gd (.slice none 0 0))•StF h S Lv Bv Sv bs ss t2 t5 gd A w gv (BD (AV A).2.2).2•pt t7 (raO (AV A).2.2 p)•pt t4 (.cells rh0 52 (0,0))) g8:=
    AU H12 (λ_ h=>h) λ_ h=>AU h (λq d=>⟨d.1,d.2.2⟩) λ_ h=>h
   have H13:=bU H12' (λq d=>⟨λj hj=>d.2.1.b j hj,λj A2 w2 hj ha=>by
    have e1:(S.setAu gd none).au j=if j=gd then none else S.au j:=rfl
    rw[e1]at ha;unfold F8
    by_cases c:j=gd
    ·rw[if_pos c]at ha;cases ha
    ·rw[if_neg c]at ha ⊢
     exact d.2.1.a j A2 w2 hj ha⟩) StF.mono
   obtain⟨M,rfl⟩:∃M:Nat,w=M:=⟨w.toNat,by omega⟩;rw[BR]at G1 G2;have e0:S.setAu gd none=(S.setAu gd none).setL (ET S.L M gd (BD (AV A).2.2).1 (BD (AV A).2.2).2 0):=rfl;have H14:XS t6 (rhA (S.setAu gd none).L.goods (S.setAu gd none).now W Bv' z) ((S.setAu gd none).setL (ET S.L M gd (BD (AV A).2.2).1 (BD (AV A).2.2).2 0)) (StF h S Lv Bv Sv bs ss t2 t5 gd A (M:Int) gv (BD (AV A).2.2).2) (pt t7 (raO (AV A).2.2 p)•pt t4 (.cells rh0 52 (0,0))) g8:=H13
   refine AL (λm s' g=>∃(k:Nat) (cs:Array Value),s' = .int .i64 k/\m=S.L.n-k/\k<=S.L.n/\XS t6 cs ((S.setAu gd none).setL (ET S.L M gd (BD (AV A).2.2).1 (BD (AV A).2.2).2 k)) (StF h S Lv Bv Sv bs ss t2 t5 gd A (M:Int) gv (BD (AV A).2.2).2) (pt t7 (raO (AV A).2.2 p)•pt t4 (.cells rh0 52 (0,0))) g) S.L.n
    ⟨0,_,rfl,rfl,by omega,H14⟩ ?_
   rintro m s' g ⟨k,cs,rfl,em,hkn,Hg⟩
   by_cases F:k<S.L.n
   ·exact Ub O f F (by omega) hsb.1 (hsb.2 k (by omega)) (G1 k hkn) Hg λg' cs' H'=>⟨rfl,S.L.n-(k+1),by omega,k+1,cs',rfl,rfl,by omega,H'⟩
   ·have e:k=S.L.n:=by omega
    subst e;obtain⟨Hrow,_⟩:=XS.b Hg StF.mono;unfold Ls ivW;have N:¬(S.L.n:Int)<(S.L.n:Int):=by omega
    simp only[Hrow.lens,AC,N,BW,AB];refine nF ?_;intro r hr;simp only[Prod.mk.injEq]at hr;obtain⟨r4,r6⟩:=hr;simp only[r4,r6];refine XS.ret (K:=λp h'=>R (.ret p) h') Hg StF.mono rfl λg' v d I=>?_;rw[G3]at hR;exact hR g' v d.2.2.1 (I.eqL (L:=(CW S gd).L) G2)
end
section
variable {h g:PH} {R:RT} {B C:PH->Prop} {S:Hs} {Lv Bv Sv:Value} {bs ss:Nat->Value} {t gd:Nat}
theorem nH {v:Int} {K:PH->Prop} (H:(CP t S Lv Bv Sv bs ss•C) g) (a:∀g',(CP t (S.setNow v) Lv Bv Sv bs ss•C) g'->K g'):A9 1 (.pointer (some ⟨t,1,none⟩)) (.int .i64 v) g K:=by
 have b:=Jv H;rw[Aw (CP.k H) (by show 1<5;omega) (by rfl)];exact a _ (Ju (S:=S.setNow v) (Bb (p:=rhO (S.setNow v).L.goods (S.setNow v).now Lv Bv Sv) b))
theorem dt {v:Value} (H:RH h v S) (c:S.ok) (b:Snd S) (a:gd<S.G) (d:∀g v,Sub h g->RH g v (CU S gd)->R (.ret v) g) :
  A7 Tryz.prog 122 #[v,.int .i64 gd] h R:=by
 obtain⟨Lv,Bv,Sv,bs,ss,rfl,H⟩:=H;exact Uo H c b a d
theorem dh {v:Value} (H:RH h v S) (c:S.ok) (b:Snd S) (a:gd<S.G) (d:∀g v,Sub h g->RH g v (CW S gd)->R (.ret v) g) :
  A7 Tryz.prog 123 #[v,.int .i64 gd] h R:=by
 obtain⟨Lv,Bv,Sv,bs,ss,rfl,H⟩:=H;exact XU H c b a d
theorem XS.ret2 {t6:Nat} {z cs:Array Value} {K:Value->Value->PH->Prop} (H:XS t cs S B (pt t6 (.cells z 52 (0,0))) g) (c:C3 B) (m:z.size=5) (o:∀g v,B g->RH g v S->K v (.int .i64 S.now) g) :
  A0 (some 5) (.pointer (some ⟨t,0,none⟩)) g λv=>vFA 1 (.pointer (some ⟨t,0,none⟩)) λp=>A0 none p g λu=>A9 5 (.pointer (some ⟨t6,0,none⟩)) v g λd=>(A0 none p d λw=>u=w)/\A0 (some 5) (.pointer (some ⟨t6,0,none⟩)) d λj=>K j u d:=by
 rw[XS.load H c];obtain⟨f,_⟩:=AJ (B3 RH.mono c) H;obtain⟨y,e,q,r⟩:=Gm f;injection e with e
 subst e
 have h1':(cs[1]?:Option Value)=some (.int .i64 S.now):=by
  obtain⟨Lv,Bv,Sv,bs,ss,e,_⟩:=f;injection e with e
  rw[e];rfl
 have s:∀A P Q:PH->Prop,A•P•Q=Q•(A•P):=λ_ _ _=>by ac_rfl
 unfold XS at H;rw[s]at H;have k:=AM (BX (AF (A8 _ _) H));rw[AH,Ad,A5 k h1'];refine AN (cs:=cs) (AM H) m q (by rw[List.all_eq_true];exact r) ?_;have i:=Bb (p:=.cells cs 52 (0,0)) H;have l:=AM (BX (AF (A8 _ _) i));refine⟨(A5 l h1').2 rfl,?_⟩;rw[AI (AD _ _ _) (off:=0) (n:=5) (by omega)];have x:cs.extract 0 (0+5)=cs:=by rw[show 0+5=cs.size by omega,Array.extract_size]
 rw[x];obtain⟨a,b⟩:=AJ (B3 RH.mono c) (AF (A8 _ _) i);exact o _ _ b a
def StT (h:PH) (S:Hs) (Lv Bv Sv:Value) (bs ss:Nat->Value) (t1:Nat):PH->Prop:=λq=>RHp q S Lv Bv Sv bs ss/\Sub h q/\q t1=some (rhO S.L.goods S.now Lv Bv Sv)
theorem StT.mono {t1:Nat}:C3 (StT h S Lv Bv Sv bs ss t1):=λa b c H=>⟨H.1.sub c,H.2.1.trans c,c _ _ H.2.2⟩
theorem dK {t1 t2 t5 k:Nat} {cs:Array Value} {c:Hs} {Kp:KP} {x:V2->PH->Prop} {w:V3->Value->PH->Prop} (b:c.ok) (f:Snd c) (A:c.L.goods=S.L.goods) (a:k<c.G) (M:c.G<=4)
  (H:XS t5 cs c (StT h S Lv Bv Sv bs ss t1) C g)
  (D:∀g' s,XS t5 s (CW (CU c k) k) (StT h S Lv Bv Sv bs ss t1) C g'->w (ptr t1,ptr t2,ptr t5) (.int .i64 ((k:Int)+1)) g') :
  U1 Kp x (ptr t1,ptr t2,ptr t5) w (.int .i64 k) g:=by
 have I:=XS.b H StT.mono;have y:IntKind.i64.wrap ((k:Int)+1)=(k:Int)+1:=w64 (by omega) (by omega);have z:=b.g;unfold U1 ivW;have m:(k:Int)<S.L.goods:=by omega
 simp only[AH,Ad];rw[A5 I.2.2 (v:=.int .i64 S.L.goods) rfl];simp only[AC,m,B6,AB];refine nT ?_;have E:=XS.size H StT.mono;rw[XS.load H StT.mono]
 refine fr (X:=Value) (val:=λv=>v) (Q:=λv q=>RH q v (CU c k)) H (B3 RH.mono StT.mono)
  (λq d R' e=>dt d.1 b f a λg' v l j=>e g' v l j) λv P L=>?_
 refine XS.put (AU L (λq d=>⟨d.1,d.2.2⟩) λ_ h=>h) StT.mono E λO G u=>?_;have p:=XS.size u StT.mono;rw[XS.load u StT.mono];have o:=F0 b a;have n:=IW b a;have i:k<(CU c k).G:=by show k<(CU c k).L.goods.toNat;rw[o.2.2];exact a
 refine fr (X:=Value) (val:=λv=>v) (Q:=λv q=>RH q v (CW (CU c k) k)) u (B3 RH.mono StT.mono)
  (λq d R' e=>dh d.1 n (PA b f a) i λg' v l j=>e g' v l j) λv N K=>?_
 refine XS.put (AU K (λq d=>⟨d.1,d.2.2⟩) λ_ h=>h) StT.mono p λF r J=>?_;rw[AG,y];exact D F r J
theorem Ue (a:Snd S) (v:Int):Snd (S.setNow v):=⟨a.held,a.lock,a.ids,a.sel⟩
theorem ZH (H:RHp h S Lv Bv Sv bs ss) (f:S.ok) (Y:Snd S) (b:∀g v,Sub h g->RH g v (Da S).2.2->R (.ret (.tuple #[v,.int .i64 (Da S).1,.int .i64 (Da S).2.1])) g) :
  A7 Tryz.prog 81 #[.agg (rhA S.L.goods S.now Lv Bv Sv)] h R:=by
 refine nW ?_;unfold pU zq1 eXW ivW pnW;rw[show Value.cells (.agg (rhA S.L.goods S.now Lv Bv Sv))=rhA S.L.goods S.now Lv Bv Sv from rfl];refine Ai λt1 I _ y V=>AX λt2 Z=>?_;have hG:=f.g;have p:=f.cl;have E:=f.now;have d:(pt t2 (.cells rh0 52 (0,0))•StT h S Lv Bv Sv bs ss t1) (ins I t2 (.cells rh0 52 (0,0))):=Ar Z ⟨H.sub y,y,V⟩;revert d;generalize ins I t2 (.cells rh0 52 (0,0))=g2;intro d;have S2:=AF StT.mono d;rw[AH,Ad,A5 S2.2.2 (v:=.int .i64 S.now) rfl,By,AB]
 have A:∀g K,StT h S Lv Bv Sv bs ss t1 g->(A0 (some 5) (.pointer (some ⟨t1,0,none⟩)) g K↔K (.agg (rhA S.L.goods S.now Lv Bv Sv))):=λg K x=>by
  rw[AI x.2.2 (off:=0) (n:=5) (by show 0+5<=5;omega),show (rhA S.L.goods S.now Lv Bv Sv).extract 0 (0+5)=rhA S.L.goods S.now Lv Bv Sv from rfl]
 unfold Da at b
 by_cases F:S.now=9007199254740992
 ·rw[if_pos F]at b
  refine⟨λ_=>?_,λe=>absurd e (by simp;omega)⟩;rw[A _ _ S2];refine Cc (K:=λi s=>R (.ret (.tuple #[i,.int .i64 0,.int .i64 2])) s) d StT.mono rfl rfl (Fo S2.1.L.v1 S2.1.B.v1 S2.1.A.v1) λG a=>?_;exact b G _ a.2.1 ⟨Lv,Bv,Sv,bs,ss,rfl,a.1⟩
 rw[if_neg F]at b;refine⟨λe=>absurd e (by simp;omega),λ_=>?_⟩;rw[A _ _ S2];refine Io d (A8 _ _) S2.1 p (by omega) λg3 t5 Lv' Bv' Sv' N=>?_;have S3:=AF StT.mono (AF (A8 _ _) N);simp only[AH,Ad];have O:IntKind.i64.wrap (S.now+1)=S.now+1:=w64 (by omega) (by omega);rw[A5 S3.2.2 (v:=.int .i64 S.now) rfl,AG,O];refine nH N λG M=>?_;have c:=I6 f (v:=S.now+1) (by omega);have j:=Ue Y (S.now+1);have e4:∀P X Q:PH->Prop,P•X•Q=P•Q•X:=λ_ _ _=>by ac_rfl
 rw[e4]at M;have H5:=bU M (λq a=>⟨a.1.b,a.1.a⟩) StT.mono;have eN:Bd {S with now:=S.now+1} S.G=Bd (S.setNow (S.now+1)) S.G:=rfl;rw[eN]at b;have J:(S.setNow (S.now+1)).G=S.G:=rfl
 refine AL (λm z g=>∃(k:Nat) (cs:Array Value),z = .int .i64 k/\m=S.G-k/\k<=S.G/\XS t5 cs (Bd (S.setNow (S.now+1)) k) (StT h S Lv Bv Sv bs ss t1) (pt t2 (.cells rh0 52 (0,0))) g) S.G
  ⟨0,_,rfl,rfl,by omega,H5⟩ ?_
 rintro m z g ⟨k,cs,rfl,em,hkn,Hg⟩;obtain⟨a1,a2,a3,a4⟩:=FW c k (by rw[J];exact hkn);have a3':(Bd (S.setNow (S.now+1)) k).L.goods=S.L.goods:=a3;have a5:=J4 c j k (by rw[J];exact hkn);have L:(Bd (S.setNow (S.now+1)) k).G=S.G:=by unfold Hs.G;rw[a3']
 by_cases o:k<S.G
 ·exact dK a1 a5 a3' (by rw[L];exact o) (by rw[L];omega) Hg λg' w H'=>⟨rfl,S.G-(k+1),by omega,k+1,w,rfl,rfl,by omega,H'⟩
 ·have e:k=S.G:=by omega
  subst e;have x:=XS.b Hg StT.mono;unfold U1 ivW;have l:¬(S.G:Int)<S.L.goods:=by omega
  simp only[AH,Ad];rw[A5 x.2.2 (v:=.int .i64 S.L.goods) rfl];simp only[AC,l,BW,AB];refine nF ?_;intro r D;simp only[Prod.mk.injEq]at D;obtain⟨U,T⟩:=D;simp only[U,T];refine XS.ret2 (K:=λi u s=>R (.ret (.tuple #[i,u,.int .i64 0])) s) Hg StT.mono rfl λg' v a W=>?_;exact b g' v a.2.1 W
end
section
variable {h g:PH} {R:RT} {C:PH->Prop} {S:Hs} {Lv Bv Sv:Value} {bs ss:Nat->Value} {o:OpV}
def StB (h:PH) (S:Hs) (Lv Bv Sv:Value) (bs ss:Nat->Value) (t3 t5 t11 gd:Nat) (o:OpV):PH->Prop:=λq=>BM h q S Lv Bv Sv bs ss t3 t5 o/\q t11=some (.cells (rbA (bs gd) (S.bk gd).next) 110 (0,0))
theorem StB.mono {t3 t5 t11 gd:Nat}:C3 (StB h S Lv Bv Sv bs ss t3 t5 t11 gd o):=B3 BM.mono (Ij _ _)
theorem L3 {t3 t5 t6 t11 gd:Nat} {K:Value->PH->Prop} (H:(StB h S Lv Bv Sv bs ss t3 t5 t11 gd o•pt t6 (.cells rh0 52 (0,0))) g) (c:∀g v,Sub h g->RH g v S->K v g) :
  A0 (some 5) (.pointer (some ⟨t3,0,none⟩)) g λt=>A9 5 (.pointer (some ⟨t6,0,none⟩)) t g λa=>A0 (some 5) (.pointer (some ⟨t6,0,none⟩)) a λb=>K b a:=
 CY (AU H (λ_ h=>h.1) λ_ h=>h) rfl c
theorem QL {i t3 t5 t6 t11 gd:Nat} {p id:Int} (H:(StB h S Lv Bv Sv bs ss t3 t5 t11 gd o•pt t6 (.cells rh0 52 (0,0))) g) (m:S.ok) (F:o.good=gd) (a:gd<S.G)
  (f:∀g v,Sub h g->RH g v (if (E4 (S.bk gd) (Bo ⟨p,id,0⟩ i o)).1≠0 then S else S.setBk gd (E4 (S.bk gd) (Bo ⟨p,id,0⟩ i o)).2)->R (.ret (.tuple #[v,.int .i64 (E4 (S.bk gd) (Bo ⟨p,id,0⟩ i o)).1])) g) :
  Ut (.int .i64 i) (ptr t3) (ptr t5) (ptr t6) (ptr t11) (.int .i64 p) (.int .i64 id) g R:=by
 unfold Ut jq4 aF IN Ob zq1 Ep CO ivW pnW;have E:=m.g;have s:=m.cl;have d:=m.bk gd a;obtain⟨w,l⟩:=AJ StB.mono H;have z:=λK=>A5 (K:=K) w.k5 (show o.a[2]?=some (.int .i64 o.am)from rfl);have y:=λK=>A5 (K:=K) w.k5 (show o.a[3]?=some (.int .i64 o.side)from rfl);rw[AI l (off:=0) (n:=2) (by show 0+2<=2;omega),show (rbA (bs gd) (S.bk gd).next).extract 0 (0+2)=rbA (bs gd) (S.bk gd).next from rfl];simp only[AH,Ad,z,y,BC];refine⟨_,Qm (Bo ⟨p,id,0⟩ i o) rfl,?_⟩
 refine fr (X:=Value) (val:=λv=>.tuple #[v,.int .i64 (E4 (S.bk gd) (Bo ⟨p,id,0⟩ i o)).1]) (Q:=λv q=>RB q v (E4 (S.bk gd) (Bo ⟨p,id,0⟩ i o)).2) H StB.mono
  (λq D R' t=>di (D.1.rh.b gd a) d.len d.nx λg' v B A=>t g' v B A) λv I L=>?_
 obtain⟨b,rfl,x,J⟩:=RB.get L StB.mono;simp only[Av,Au];generalize E4 (S.bk gd) (Bo ⟨p,id,0⟩ i o)=r at *;refine AX λt8 G=>?_;refine AN (cs:=rbA b r.2.next) (AD _ _ _) (by rfl) (by rfl) (by rw[List.all_eq_true];exact one2 x) ?_;rw[An];have j:=Ar (o:=.cells (rbA b r.2.next) 110 (0,0)) G J;revert j;generalize ins I t8 (.cells (rbA b r.2.next) 110 (0,0))=g5;intro j;rw[BB,AB]
 by_cases c:r.1=0
 ·rw[if_neg (by simp[c])]at f
  refine⟨λe=>absurd e (by simp[c]),λ_=>?_⟩;rw[c]at f;exact Q7 (K:=λk u=>R (.ret (.tuple #[k,.int .i64 0])) u) (AU j (λ_ h=>h) λ_ h=>AU h (λ_ h=>⟨h.1,h.2.1⟩) λ_ h=>h) F a s (by omega) f
 ·rw[if_pos c]at f
  refine⟨λ_=>?_,λe=>absurd e (by simp[c])⟩;exact L3 (K:=λk u=>R (.ret (.tuple #[k,.int .i64 r.1])) u) (AU (AF (A8 _ _) j) (λ_ h=>h.2) λ_ h=>h) f
theorem Us {i t3 t5 t6 t11 gd:Nat} {p id:Int} (H:(StB h S Lv Bv Sv bs ss t3 t5 t11 gd o•pt t6 (.cells rh0 52 (0,0))) g) (c:S.ok) (z:Snd S) (hi:i<S.L.n) (J:o.ok) (m:o.good=gd) (d:gd<S.G) (I:0<=p/\p<=1099511627776) (N:1<=o.am/\o.am<=1048576) (F:o.side<=1)
  (b:Gz S.L i o.good (decide (o.side=0)) p o.am=61->∀g v,Sub h g->RH g v S->R (.ret (.tuple #[v,.int .i64 61])) g)
  (a:Gz S.L i o.good (decide (o.side=0)) p o.am=0->∀g v,Sub h g->RH g v (if (E4 (S.bk gd) (Bo ⟨p,id,0⟩ i o)).1≠0 then S else S.setBk gd (E4 (S.bk gd) (Bo ⟨p,id,0⟩ i o)).2)->R (.ret (.tuple #[v,.int .i64 (E4 (S.bk gd) (Bo ⟨p,id,0⟩ i o)).1])) g) :
  RK (.int .i64 i) (ptr t3) (ptr t5) (ptr t6) (ptr t11) (.int .i64 p) (.int .i64 id) g R:=by
 unfold RK N9 VE gAW gGW ivW pnW;have L:=c.g;have M:=c.cl;have y:=J.side;obtain⟨j,E⟩:=AJ StB.mono H;have D:=λK=>A5 (K:=K) j.k5 (show o.a[1]?=some (.int .i64 o.good)from rfl);have l:=λK=>A5 (K:=K) j.k5 (show o.a[2]?=some (.int .i64 o.am)from rfl);have s:=λK=>A5 (K:=K) j.k5 (show o.a[3]?=some (.int .i64 o.side)from rfl)
 have x:∀K,A0 (some 5) (.pointer (some ⟨t3,0,none⟩)) g K↔K (.agg (rhA S.L.goods S.now Lv Bv Sv)):=λK=>by
  rw[AI j.k3 (off:=0) (n:=5) (by show 0+5<=5;omega)];rfl
 have O:=c.led.lock i gd hi (by omega);have P:=c.led.held i hi;have Q:=Dc I (show 0<=o.am/\o.am<=1048576 by omega);have B:IntKind.i64.wrap (p*o.am)=p*o.am:=w64 (by omega) (by omega);have A:IntKind.i64.wrap (1+(gd:Int))=((gd+1:Nat):Int):=by rw[w64 (by omega) (by omega)];omega
 unfold Gz Cz Dd at b a;rw[m,BR]at b a
 have k:(∀g v,Sub h g->RH g v S->R (.ret (.tuple #[v,.int .i64 61])) g)->A0 (some 5) (.pointer (some ⟨t3,0,none⟩)) g λt=>A9 5 (.pointer (some ⟨t6,0,none⟩)) t g λq=>A0 (some 5) (.pointer (some ⟨t6,0,none⟩)) q λr=>R (.ret (.tuple #[r,.int .i64 61])) q:=
  λG=>L3 (K:=λr q=>R (.ret (.tuple #[r,.int .i64 61])) q) H G
 simp only[AH,Ad,s,BC]
 by_cases w:o.side=0
 ·simp only[w,B6,if_true]at b a
  simp only[w,B6,AZ,C7,Option.some.injEq,Bool.true_eq_false,C1,true_and,ne_eq,CJ,CI,Al,cond_true,cond_false,Bx,and_true,AH,Ad,l,CG,B];rw[x];refine ZT j.rh c z hi ?_;simp only[AK.elim,NB,l,CI,true_and,AZ,C7,Option.some.injEq,Bool.true_eq_false,C1,ne_eq,CJ,Bx,and_true,Al,cond_true,At]
  by_cases f:S.L.f i 0-S.L.f i 1<p*o.am
  ·simp only[f,B6,AZ,C7,Option.some.injEq,Bool.true_eq_false,C1,true_and,ne_eq,CJ,CI,Al,cond_true,cond_false,Bx,and_true,B5,gq,reduceCtorEq,undef,AB,rW]
   exact k (b (if_pos (.inl f)))
  ·simp only[f,BW,AZ,C7,Option.some.injEq,Bool.true_eq_false,Ba,C1,true_and,ne_eq,CJ,CI,Al,cond_true,cond_false,Bx,and_true,AH,Ad,s,w,BC,show ¬((0:Int)=1)by omega,AB,NB]
   exact QL H c m d (a (if_neg (by omega)))
 ·have f:o.side=1:=by omega
  have d1:¬((1:Int)=0):=by omega
  simp only[f,d1,BW,if_false,Ba]at b a;simp only[f,d1,B6,BW,AZ,C7,Option.some.injEq,Bool.true_eq_false,Ba,C1,true_and,ne_eq,CJ,CI,Al,cond_true,cond_false,Bx,and_true,AH,Ad,D,l,s,BC,m,AG,A,NB];rw[x];refine ZS j.rh c z hi d ?_;simp only[AK.elim,NB,l,CI,true_and,AZ,C7,Option.some.injEq,Bool.true_eq_false,Ba,C1,ne_eq,CJ,Bx,and_true,Al,cond_true,cond_false,At,AB]
  by_cases u:S.L.f i (2+gd)-S.L.f i (6+gd)<o.am
  ·refine⟨λ_=>k (b (if_pos (.inr u))),λe=>absurd u (of_decide_eq_false e)⟩
  ·refine⟨λe=>absurd (of_decide_eq_true e) u,λ_=>QL H c m d (a (if_neg (by omega)))⟩
end
theorem LL {X:Type} (f:Ord->X) {l:List Ord} {k:Nat} {x x':Ord} (a:l[k]?=some x) (h:f x'=f x):(l.set k x').map f=l.map f:=by
 rw[List.map_set];apply List.ext_getElem?;intro j;rw[List.getElem?_set]
 by_cases c:k=j
 ·subst c
  rw[if_pos rfl,List.length_map,if_pos (Bc.1 a).1,List.getElem?_map,a,h];rfl
 ·rw[if_neg c]
theorem de {B:Bk} (b:B.ok) {k:Nat} {x:Ord} {p m nx:Int} (d:B.l[k]?=some x) (g:B0 {x with pr:=p,am:=m} = true) (i:B.next<=nx/\nx<=9007199254740992):Bk.ok {next:=nx,l:=B.l.set k {x with pr:=p,am:=m}}:=by
 have h:=b.nx;refine⟨λy a=>?_,?_,?_,λy a=>?_,by simp only[List.length_set];exact b.len,by simp only;omega⟩
 ·rcases List.mem_or_eq_of_mem_set a with a | rfl
  ·exact b.right y a
  ·exact g
 ·have f:=b.ids
  have e:=LL Ord.id (x':={x with pr:=p,am:=m}) d rfl;have c:(B.l.map Ord.id).Pairwise (·≠·):=List.pairwise_map.2 f;rw[<-e]at c;exact List.pairwise_map.1 c
 ·have f:=b.pls
  have e:=LL Ord.pl (x':={x with pr:=p,am:=m}) d rfl;have c:(B.l.map Ord.pl).Pairwise (· < ·):=List.pairwise_map.2 f;rw[<-e]at c;exact List.pairwise_map.1 c
 ·simp only
  rcases List.mem_or_eq_of_mem_set a with a | rfl
  ·have:=b.pl y a;omega
  ·have:=b.pl x (List.mem_of_getElem? d);simp only;omega
theorem Uc {S:Hs} (o:S.ok) (n:Snd S) {i gd k:Nat} {x:Ord} {p m nx:Int} (hi:i<S.L.n) (b:gd<S.G) (h:(S.bk gd).l[k]?=some x) (a:x.own=i) :
  Ez (S.setBk gd {next:=nx,l:=(S.bk gd).l.set k {x with pr:=p,am:=m}}) i 0=S.L.f i 1+Cl x p m /\
  Ez (S.setBk gd {next:=nx,l:=(S.bk gd).l.set k {x with pr:=p,am:=m}}) i (gd+1)=S.L.f i (6+gd)+D8 x m:=by
 obtain⟨h0,r⟩:=HV o n hi;have d:∀j,(S.setBk gd {next:=nx,l:=(S.bk gd).l.set k {x with pr:=p,am:=m}}).bk j=if j=gd then {next:=nx,l:=(S.bk gd).l.set k {x with pr:=p,am:=m}} else S.bk j:=λj=>rfl
 refine⟨?_,?_⟩
 ·rw[<-h0]
  unfold Ez;have g:(S.setBk gd {next:=nx,l:=(S.bk gd).l.set k {x with pr:=p,am:=m}}).G=S.G:=rfl;rw[g,HJ (f:=DM S i 0) b λj q c=>?_]
  ·unfold DM CM
   rw[if_pos rfl,if_pos rfl,d,if_pos rfl];have e:auW (S.setBk gd {next:=nx,l:=(S.bk gd).l.set k {x with pr:=p,am:=m}}) i gd=auW S i gd:=rfl;rw[e];simp only;rw[Kv (DB i) h];unfold DB Cl;simp only[a,true_and];cases x.buys <;> simp <;> omega
  ·unfold DM CM
   rw[if_pos rfl,if_pos rfl,d,if_neg c];rfl
 ·rw[<-r gd b]
  unfold Ez;have g:(S.setBk gd {next:=nx,l:=(S.bk gd).l.set k {x with pr:=p,am:=m}}).G=S.G:=rfl;rw[g,HJ (f:=DM S i (gd+1)) b λj q c=>?_]
  ·unfold DM DV
   rw[if_neg (by omega),if_pos rfl,if_neg (by omega),if_pos rfl,d,if_pos rfl];have e:auK (S.setBk gd {next:=nx,l:=(S.bk gd).l.set k {x with pr:=p,am:=m}}) i gd=auK S i gd:=rfl;rw[e];simp only;rw[Kv (Bz i) h];unfold Bz D8;simp only[a,true_and];cases x.buys <;> simp <;> omega
  ·unfold DM
   rw[if_neg (by omega),if_neg (by omega),if_neg (by omega),if_neg (by omega)]
theorem YX {B:Bk} {id own p m:Int}:B.next<=(Bw B id own p m).2.next:=by
 unfold Bw
 repeat' split
 all_goals first | exact Int.le_refl _ | (simp only;omega)
section
variable {h g:PH} {R:RT} {C:PH->Prop} {S:Hs} {Lv Bv Sv:Value} {bs ss:Nat->Value} {o:OpV}
def StC (h:PH) (S:Hs) (Lv Bv Sv:Value) (bs ss:Nat->Value) (t3 t5 t11 gd:Nat) (o:OpV) (B' a:Bk) (b1 b2:Value):PH->Prop:=λq=>BG q b2 6 a.l.length (ordsC a.l)/\BG q b1 6 B'.l.length (ordsC B'.l)/\StB h S Lv Bv Sv bs ss t3 t5 t11 gd o q
theorem StC.mono {t3 t5 t11 gd:Nat} {B' a:Bk} {b1 b2:Value}:C3 (StC h S Lv Bv Sv bs ss t3 t5 t11 gd o B' a b1 b2):=B3 BG.mono (B3 BG.mono StB.mono)
theorem UI {t3 t5 t6 t11 t12 t14 gd:Nat} {B' s:Bk} {b1 b2 r b p:Value} {e:Int}
  (H:(CP t14 (S.setBk gd s) r b p (F8 bs gd b2) ss•pt t12 (.cells (rbA b1 B'.next) 110 (0,0))•StC h S Lv Bv Sv bs ss t3 t5 t11 gd o B' s b1 b2•pt t6 (.cells rh0 52 (0,0))) g) (G:o.good=gd) (l:gd<S.G)
  (a:∀g v,Sub h g->RH g v (if e≠0 then S else S.setBk gd B')->R (.ret (.tuple #[v,.int .i64 e])) g) :
  Pj (ptr t3) (ptr t5) (ptr t6) (ptr t12) (ptr t14) (.int .i64 e) g R:=by
 unfold Pj aF IN Ob ivW;rw[BB,AB];have y:=AF (A8 _ _) H;have x:=AF (A8 _ _) y
 by_cases c:e=0
 ·rw[if_neg (by simp[c])]at a
  refine⟨λe=>absurd e (by simp[c]),λ_=>?_⟩;rw[c]at a;obtain⟨O,D,N,E⟩:=AJ StC.mono x;have f:=CP.k H;simp only[AH,Ad];rw[A5 f (v:=b) rfl,A5 N.k5 (v:=.int .i64 o.good) rfl,G,AI (AM y) (off:=0) (n:=2) (by show 0+2<=2;omega),show (rbA b1 B'.next).extract 0 (0+2)=rbA b1 B'.next from rfl];refine NY (B:=B') H l D.v1 λP u=>?_
  have M:(S.setBk gd s).setBk gd B'=S.setBk gd B':=by
   unfold Hs.setBk;simp only[Hs.mk.injEq,true_and,and_true]
   funext k
   split <;> simp_all
  have L:F8 (F8 bs gd b2) gd b1=F8 bs gd b1:=by
   unfold F8
   funext k
   split <;> simp_all
  rw[M,L,<-Bf (pt t12 _)]at u;refine MZ (K:=λd m=>R (.ret (.tuple #[d,.int .i64 0])) m) u (A8 _ _) rfl (λq j=>?_) λJ v j F=>?_
  ·obtain⟨_,z,t,_⟩:=AF StC.mono j
   refine⟨λi hi=>?_,λi A w hi I=>t.rh.a i A w hi I⟩;unfold F8 Hs.setBk
   by_cases c:i=gd
   ·subst c;simp only[if_true];exact z
   ·simp only[c,if_false];exact t.rh.b i hi
  ·exact a J v (AF StC.mono j).2.2.1.sub F
 ·rw[if_pos c]at a
  refine⟨λ_=>?_,λe=>absurd e (by simp[c])⟩;exact L3 (K:=λd m=>R (.ret (.tuple #[d,.int .i64 e])) m) (AU x (λ_ h=>h.2.2) λ_ h=>h) a
theorem SL {i k t3 t5 t6 t11 t12 t14 gd:Nat} {B':Bk} {x:Ord} {p nx e:Int} {b1 b2 u y s:Value}
  (H:(CP t14 (S.setBk gd {next:=nx,l:=(S.bk gd).l.set k {x with pr:=p,am:=o.am}}) u y s (F8 bs gd b2) ss•pt t12 (.cells (rbA b1 B'.next) 110 (0,0))•StC h S Lv Bv Sv bs ss t3 t5 t11 gd o B' {next:=nx,l:=(S.bk gd).l.set k {x with pr:=p,am:=o.am}} b1 b2•pt t6 (.cells rh0 52 (0,0))) g)
  (a:S.ok) (hs:Snd S) (hi:i<S.L.n) (hg:o.good=gd) (r:gd<S.G) (T:(S.bk gd).l[k]?=some x) (D:x.own=i) (V:0<=p/\p<=1099511627776) (G:1<=o.am/\o.am<=1048576) (W:(S.bk gd).next<=nx/\nx<=9007199254740992)
  (I:(S.L.f i 0-S.L.f i 1<Cl x p o.am\/S.L.f i (2+gd)-S.L.f i (6+gd)<D8 x o.am)->∀g v,Sub h g->RH g v S->R (.ret (.tuple #[v,.int .i64 61])) g)
  (X:¬(S.L.f i 0-S.L.f i 1<Cl x p o.am\/S.L.f i (2+gd)-S.L.f i (6+gd)<D8 x o.am)->∀g v,Sub h g->RH g v (if e≠0 then S else S.setBk gd B')->R (.ret (.tuple #[v,.int .i64 e])) g) :
  Mk (.int .i64 i) (ptr t3) (ptr t5) (ptr t6) (ptr t12) (ptr t14) (.int .i64 e) g R:=by
 unfold Mk N9 VE gAW gGW ivW pnW;have hgG:=a.g;have hcl:=a.cl;have E:=a.bk gd r;have b:=Am.1 (E.right x (List.mem_of_getElem? T));have U:B0 {x with pr:=p,am:=o.am} = true:=Am.2 ⟨b.1,b.2.1,b.2.2.1,b.2.2.2.1,V.1,V.2,G.1,G.2⟩;have Y:=de E T U W;obtain⟨e0,e1⟩:=Uc (p:=p) (m:=o.am) (nx:=nx) a hs hi r T D;have H1:=AF (A8 _ _) H;have H2:=AF (A8 _ _) H1;obtain⟨r2,r1,Z,k11⟩:=AJ StC.mono H2;have l1:=λK=>A5 (K:=K) Z.k5 (show o.a[1]?=some (.int .i64 o.good)from rfl);generalize hB:({next:=nx,l:=(S.bk gd).l.set k {x with pr:=p,am:=o.am}}:Bk)=B2 at *;have Q:=CP.k H
 have z:∀K,A0 (some 5) (.pointer (some ⟨t14,0,none⟩)) g K↔K (.agg (rhA (S.setBk gd B2).L.goods (S.setBk gd B2).now u y s)):=λK=>by
  rw[AI Q (off:=0) (n:=5) (by show 0+5<=5;omega)];rfl
 have q:Ps g (S.setBk gd B2) (F8 bs gd b2) ss:=⟨λj f=>by
  unfold F8 Hs.setBk
  by_cases c:j=gd
  ·subst c;simp only[if_true];exact r2
  ·simp only[c,if_false];exact Z.rh.b j f,λj A w f N=>Z.rh.a j A w f N⟩
 have HX:RHp g (S.setBk gd B2) u y s (F8 bs gd b2) ss:=CP.rh (AJ CP.mono H) q
 have d:(S.setBk gd B2).pre:=by
  refine⟨a.led,a.n1,λj f=>?_,λj A w f N=>⟨(a.au j A w f N).1,(a.au j A w f N).2.2.2⟩,a.now⟩;show (if j=gd then B2 else S.bk j).ok
  split
  ·exact Y
  ·exact a.bk j f
 have F:∀g' A w,g'<(S.setBk gd B2).G->(S.setBk gd B2).au g'=some (A,w)->i<A.n:=λg' A w h1 h2=>by
  have:=(a.au g' A w h1 h2).2.2.1;omega
 have hm1:=Dc V (show 0<=o.am/\o.am<=1048576 by omega);have hm2:=Dc (A:=1099511627776) (B:=1048576) (show 0<=x.pr/\x.pr<=1099511627776 by omega) (show 0<=x.am/\x.am<=1048576 by omega);have bc:-1152921504606846976<=Cl x p o.am/\Cl x p o.am<=1152921504606846976:=by unfold Cl;split <;> omega
 have bg:-1048576<=D8 x o.am/\D8 x o.am<=1048576:=by unfold D8;split <;> omega
 have f1:=a.led.small.num i 1 hi (by omega);have f0:=a.led.small.num i 0 hi (by omega);have f2:=a.led.small.num i (2+gd) hi (by omega);have f6:=a.led.small.num i (6+gd) hi (by omega);have M:Ay (S.setBk gd B2).L i 0=S.L.f i 0:=rfl;have L:Ay (S.setBk gd B2).L i (gd+1)=S.L.f i (2+gd):=by show Ay S.L i (gd+1)=_;unfold Ay;rw[if_neg (by omega),show gd+1+1=2+gd by omega]
 have J:(∀g v,Sub h g->RH g v S->R (.ret (.tuple #[v,.int .i64 61])) g)->A0 (some 5) (.pointer (some ⟨t3,0,none⟩)) g λt=>A9 5 (.pointer (some ⟨t6,0,none⟩)) t g λO=>A0 (some 5) (.pointer (some ⟨t6,0,none⟩)) O λP=>R (.ret (.tuple #[P,.int .i64 61])) O:=
  λU=>L3 (K:=λP O=>R (.ret (.tuple #[P,.int .i64 61])) O) (AU H2 (λ_ h=>h.2.2) λ_ h=>h) U
 rw[z];refine ID (p:=0) HX (by omega) d hi F (by rw[e0];omega) (by rw[M];exact f0) ?_;rw[M,e0];simp only[AK.elim,AC]
 by_cases c1:S.L.f i 0-S.L.f i 1<Cl x p o.am
 ·have d1:S.L.f i 0-(S.L.f i 1+Cl x p o.am)<0:=by omega
  simp only[d1,B6,AZ,C7,Option.some.injEq,Bool.true_eq_false,C1,true_and,ne_eq,CJ,CI,Al,cond_true,cond_false,Bx,and_true,AB];exact J (I (.inl c1))
 ·have d1:¬S.L.f i 0-(S.L.f i 1+Cl x p o.am)<0:=by omega
  have w2:IntKind.i64.wrap (1+(gd:Int))=((gd+1:Nat):Int):=by rw[w64 (by omega) (by omega)];omega
  simp only[d1,BW,AZ,C7,Option.some.injEq,Bool.true_eq_false,Ba,C1,true_and,ne_eq,CJ,CI,Al,cond_true,cond_false,Bx,and_true,AH,Ad,l1,hg,AG,w2];rw[z];refine ID (p:=gd+1) HX (by omega) d hi F (by rw[e1];omega) (by rw[L];exact f2) ?_;rw[L,e1];simp only[AK.elim,AC,AZ,C7,Option.some.injEq,Bool.true_eq_false,Ba,C1,true_and,ne_eq,CJ,CI,Al,cond_true,cond_false,Bx,and_true,AB]
  by_cases c2:S.L.f i (2+gd)-S.L.f i (6+gd)<D8 x o.am
  ·exact⟨λ_=>J (I (.inr c2)),λe=>absurd (of_decide_eq_false e) (by omega)⟩
  ·exact⟨λe=>absurd (of_decide_eq_true e) (by omega),λ_=>UI H hg r (X (by omega))⟩
theorem SK {i t3 t5 t6 t11 gd:Nat} {p id:Int} (H:(StB h S Lv Bv Sv bs ss t3 t5 t11 gd o•pt t6 (.cells rh0 52 (0,0))) g) (N:S.ok) (z:Snd S) (hi:i<S.L.n) (ho:o.ok) (hg:o.good=gd) (a:gd<S.G) (hp:0<=p/\p<=1099511627776) (ham:1<=o.am/\o.am<=1048576) (hid:id=o.id*16+i)
  (L:(EZ (S.bk gd).l id).2=false->∀g v,Sub h g->RH g v S->R (.ret (.tuple #[v,.int .i64 3])) g)
  (f:(EZ (S.bk gd).l id).2=true->(S.L.f i 0-S.L.f i 1<Cl (EZ (S.bk gd).l id).1 p o.am\/S.L.f i (2+gd)-S.L.f i (6+gd)<D8 (EZ (S.bk gd).l id).1 o.am)->∀g v,Sub h g->RH g v S->R (.ret (.tuple #[v,.int .i64 61])) g)
  (d:(EZ (S.bk gd).l id).2=true->¬(S.L.f i 0-S.L.f i 1<Cl (EZ (S.bk gd).l id).1 p o.am\/S.L.f i (2+gd)-S.L.f i (6+gd)<D8 (EZ (S.bk gd).l id).1 o.am)->∀g v,Sub h g->RH g v (if (Bw (S.bk gd) id i p o.am).1≠0 then S else S.setBk gd (Bw (S.bk gd) id i p o.am).2)->R (.ret (.tuple #[v,.int .i64 (Bw (S.bk gd) id i p o.am).1])) g) :
  Mj (.int .i64 i) (ptr t3) (ptr t5) (ptr t6) (ptr t11) (.int .i64 p) (.int .i64 id) g R:=by
 unfold Mj ivW pnW;have hgG:=N.g;have Z:=N.cl;have j:=N.bk gd a;obtain⟨S0,V⟩:=AJ StB.mono H;have l2:=λK=>A5 (K:=K) S0.k5 (show o.a[2]?=some (.int .i64 o.am)from rfl)
 have b2:∀K,A0 (some 2) (.pointer (some ⟨t11,0,none⟩)) g K↔K (.agg (rbA (bs gd) (S.bk gd).next)):=λK=>by
  rw[AI V (off:=0) (n:=2) (by show 0+2<=2;omega)];rfl
 have J:=j.len;rw[b2];refine RJ (S0.rh.b gd a) (by omega) ?_;simp only[AK.elim];cases b:idx (S.bk gd).l id with
 | none=>
  have e1:EZ (S.bk gd).l id=(OH,false):=by unfold EZ;rw[b]
  rw[e1]at L;rw[Gv b,AC,AB];exact⟨λ_=>L3 (K:=λrv h'=>R (.ret (.tuple #[rv,.int .i64 3])) h') H (L rfl),λe=>absurd (of_decide_eq_false e) (by omega)⟩
 | some k=>
  obtain⟨hkl,⟨x,M,hxi⟩,_⟩:=Dt b;have e1:EZ (S.bk gd).l id=(x,true):=by unfold EZ;rw[b];simp only[M]
  rw[e1]at f d;have f:=f rfl;have d:=d rfl;simp only at f d
  have F:x.own=i:=by
   have:=(z.ids gd a x (List.mem_of_getElem? M)).1;have:=ho.id;omega
  rw[FJ b,AC,AB];refine⟨λe=>absurd (of_decide_eq_true e) (by omega),λ_=>?_⟩;rw[b2];simp only[AH,Ad,l2];have I:=YX (B:=S.bk gd) (id:=id) (own:=i) (p:=p) (m:=o.am);have G:=(Qv j id i p o.am).nx
  refine fr (X:=Value) (val:=λv=>.tuple #[v,.int .i64 (Bw (S.bk gd) id i p o.am).1]) (Q:=λv q=>RB q v (Bw (S.bk gd) id i p o.am).2) H StB.mono
   (λq Y R' w=>Xf (Y.1.rh.b gd a) j.len j.nx λg' v z W=>w g' v z W) λv g4 H7=>?_
  obtain⟨b1,rfl,o1,H8⟩:=RB.get H7 StB.mono;simp only[Av,Au];generalize hA:Bw (S.bk gd) id i p o.am=r at *;unfold Qu zq1 Ep pnW;refine AX λt12 h12=>?_;refine AN (cs:=rbA b1 r.2.next) (AD _ _ _) (by rfl) (by rfl) (by rw[List.all_eq_true];exact one2 o1) ?_;rw[An];have O:=Ar (o:=.cells (rbA b1 r.2.next) 110 (0,0)) h12 H8;revert O;generalize ins g4 t12 (.cells (rbA b1 r.2.next) 110 (0,0))=g5;intro O;have c:C3 λq=>BG q b1 6 r.2.l.length (ordsC r.2.l)/\StB h S Lv Bv Sv bs ss t3 t5 t11 gd o q:=B3 BG.mono StB.mono;obtain⟨r5,S5,k115⟩:=AJ c (AF (A8 _ _) O);rw[AI S5.k3 (off:=0) (n:=5) (by show 0+5<=5;omega),show (rhA S.L.goods S.now Lv Bv Sv).extract 0 (0+5)=rhA S.L.goods S.now Lv Bv Sv from rfl];refine Io O (A8 _ _) S5.rh Z (by omega) λg6 t14 Lv' y Sv' t=>?_;have U:=CP.k t;have u:=AF (A8 _ _) t;obtain⟨r6,S6,E⟩:=AJ c (AF (A8 _ _) u);have y1:=λK=>A5 (K:=K) S6.k5 (show o.a[1]?=some (.int .i64 o.good)from rfl);have y2:=λK=>A5 (K:=K) S6.k5 (show o.a[2]?=some (.int .i64 o.am)from rfl);have y3:=λK=>A5 (K:=K) U (show (rhA S.L.goods S.now Lv' y Sv')[3]?=some y from rfl);simp only[AH,Ad,y1,y2,y3]
  rw[AI E (off:=0) (n:=2) (by show 0+2<=2;omega),show (rbA (bs gd) (S.bk gd).next).extract 0 (0+2)=rbA (bs gd) (S.bk gd).next from rfl,
   AI (AM u) (off:=0) (n:=2) (by show 0+2<=2;omega),show (rbA b1 r.2.next).extract 0 (0+2)=rbA b1 r.2.next from rfl]
  have e3:∀X T A P:PH->Prop,X•T•A•P=A•(X•T•P):=λ_ _ _ _=>by ac_rfl
  have e4:∀X T A P:PH->Prop,A•(X•T•P)=X•T•A•P:=λ_ _ _ _=>by ac_rfl
  rw[e3]at t
  refine fr (X:=Value) (val:=λv=>v) (Q:=λv q=>RB q v {next:=r.2.next,l:=(S.bk gd).l.set k {x with pr:=p,am:=o.am}}) t c
   (λq Y R' w=>XT (Y.2.1.rh.b gd a) J b M λg' v z W=>w g' v z W) λv g7 H11=>?_
  obtain⟨b2',rfl,o2,s⟩:=RB.get H11 c;rw[e4]at s;have D:=CP.k s;obtain⟨_,_,S7,_⟩:=AJ (B3 BG.mono c) (AF (A8 _ _) (AF (A8 _ _) s));rw[A5 D (v:=y) rfl,A5 S7.k5 (v:=.int .i64 o.good) rfl,hg];refine⟨rfl,rfl,?_⟩;refine NY (B:={next:=r.2.next,l:=(S.bk gd).l.set k {x with pr:=p,am:=o.am}}) s a o2 λg8 H13=>?_;exact SL (B':=r.2) (b1:=b1) (b2:=b2') H13 N z hi hg a M F hp ham ⟨I,G.2⟩ f d
end
def EY (S:Hs) (i:Nat) (o:OpV):Int×Hs:=if o.kind=9 then De S i o else Hj S i o
section
variable {h g:PH} {R:RT} {C:PH->Prop} {S:Hs} {Lv Bv Sv:Value} {bs ss:Nat->Value} {o:OpV}
theorem QJ {i:Nat} (H:RHp h S Lv Bv Sv bs ss) (w:S.ok) (hs:Snd S) (hi:i<S.L.n) (r:o.ok)
  (F:∀g v,Sub h g->RH g v (EY S i o).2->R (.ret (.tuple #[v,.int .i64 (EY S i o).1])) g) :
  A7 Tryz.prog 85 #[.agg (rhA S.L.goods S.now Lv Bv Sv),.int .i64 i,o.v] h R:=by
 refine nR ?_;show OG _ _ _ _ _;unfold OG Ob K9 jq8 zq1 Ep gGW ivW pnW;rw[show Value.cells (.agg (rhA S.L.goods S.now Lv Bv Sv))=rhA S.L.goods S.now Lv Bv Sv from rfl,show Value.cells o.v=o.a from rfl];refine Ai λt3 g1 _ W k3=>Ai λt5 J _ D k5=>AX λt6 h6=>?_;have hgG:=w.g;have hcl:=w.cl;have St:BM h J S Lv Bv Sv bs ss t3 t5 o:=⟨H.sub (W.trans D),D _ _ k3,k5,W.trans D⟩;have y:((λg=>BM h g S Lv Bv Sv bs ss t3 t5 o)•pt t6 (.cells rh0 52 (0,0))) (ins J t6 (.cells rh0 52 (0,0))):=BX (Ar h6 St);revert y;generalize ins J t6 (.cells rh0 52 (0,0))=g3;intro y;have S3:=AJ BM.mono y;have l0:=λK=>A5 (K:=K) S3.k5 (show o.a[0]?=some (.int .i64 o.kind)from rfl);have l1:=λK=>A5 (K:=K) S3.k5 (show o.a[1]?=some (.int .i64 o.good)from rfl);have l2:=λK=>A5 (K:=K) S3.k5 (show o.a[2]?=some (.int .i64 o.am)from rfl);have l3:=λK=>A5 (K:=K) S3.k5 (show o.a[3]?=some (.int .i64 o.side)from rfl);have Z:=λK=>A5 (K:=K) S3.k5 (show o.a[4]?=some (.int .i64 o.id)from rfl);have l5:=λK=>A5 (K:=K) S3.k5 (show o.a[5]?=some (.float .f64 o.price)from rfl);have z0:=λK=>A5 (K:=K) S3.k3 (show (rhA S.L.goods S.now Lv Bv Sv)[0]?=some (.int .i64 S.L.goods)from rfl);have z3:=λK=>A5 (K:=K) S3.k3 (show (rhA S.L.goods S.now Lv Bv Sv)[3]?=some Bv from rfl);have hgd0:=r.good;have hid0:=r.id;have hsd0:=r.side;have ham0:=r.am
 have eM:∀e,(Bn S i o).e=e->e≠0->EY S i o=(e,S):=λe I z=>by
  unfold EY De Hj;simp only;rw[I,if_pos z,if_pos z]
  split <;> rfl
 have a:∀e:Int,(Bn S i o).e=e->e≠0->A0 (some 5) (.pointer (some ⟨t3,0,none⟩)) g3 λt=>A9 5 (.pointer (some ⟨t6,0,none⟩)) t g3 λA=>A0 (some 5) (.pointer (some ⟨t6,0,none⟩)) A λE=>R (.ret (.tuple #[E,.int .i64 e])) A:=λe I z=>by
  rw[eM e I z]at F;exact CY (K:=λE A=>R (.ret (.tuple #[E,.int .i64 e])) A) y rfl F
 have m:(S.L.goods<=o.good\/1<o.side\/1048576<o.id\/o.am<1\/1048576<o.am)->(Bn S i o).e=1:=λh=>by unfold Bn;rw[if_pos h]
 simp only[AH,Ad,l1,z0,By]
 by_cases U:S.L.goods<=o.good
 ·simp only[U,B6,AZ,C7,Option.some.injEq,Bool.true_eq_false,C1,true_and,ne_eq,CJ,CI,Al,cond_true,AB,Bx,and_true]
  exact a 1 (m (.inl U)) (by omega)
 simp only[U,BW,AZ,C7,Option.some.injEq,Ba,C1,true_and,ne_eq,CJ,CI,Al,cond_false,Bx,and_true,AH,Ad,l3,At]
 by_cases T:1<o.side
 ·simp only[T,B6,AZ,C7,Option.some.injEq,Bool.true_eq_false,C1,true_and,ne_eq,CJ,CI,Al,cond_true,AB,Bx,and_true]
  exact a 1 (m (.inr (.inl T))) (by omega)
 simp only[T,BW,AZ,C7,Option.some.injEq,Ba,C1,true_and,ne_eq,CJ,CI,Al,cond_false,Bx,and_true,AH,Ad,Z,At]
 by_cases Q:1048576<o.id
 ·simp only[Q,B6,AZ,C7,Option.some.injEq,Bool.true_eq_false,C1,true_and,ne_eq,CJ,CI,Al,cond_true,AB,Bx,and_true]
  exact a 1 (m (.inr (.inr (.inl Q)))) (by omega)
 simp only[Q,BW,AZ,C7,Option.some.injEq,Ba,C1,true_and,ne_eq,CJ,CI,Al,cond_false,Bx,and_true,AH,Ad,l2,AC]
 by_cases P:o.am<1
 ·simp only[P,B6,AZ,C7,Option.some.injEq,Bool.true_eq_false,C1,true_and,ne_eq,CJ,CI,Al,cond_true,AB,Bx,and_true]
  exact a 1 (m (.inr (.inr (.inr (.inl P))))) (by omega)
 simp only[P,BW,AZ,C7,Option.some.injEq,Ba,C1,true_and,ne_eq,CJ,CI,Al,cond_false,Bx,and_true,AH,Ad,l2,At,AB]
 by_cases O:1048576<o.am
 ·exact⟨λ_=>a 1 (m (.inr (.inr (.inr (.inr O))))) (by omega),λe=>absurd O (of_decide_eq_false e)⟩
 refine⟨λe=>absurd (of_decide_eq_true e) O,λ_=>?_⟩;simp only[l5];refine QE r.price ?_;have u:Bn S i o=⟨(B8 o.price).1,o.id*16+i,(B8 o.price).2⟩:=by unfold Bn;rw[if_neg (by omega)]
 simp only[AK.elim,Av,Au,BB,AB]
 by_cases p:(B8 o.price).2=0
 case neg=>exact⟨λ_=>a _ (by rw[u]) p,λe=>absurd e (by simp[p])⟩
 refine⟨λe=>absurd e (by simp[p]),λ_=>?_⟩;have hp:=Q4 p;obtain⟨gd,k⟩:∃gd:Nat,o.good=gd:=⟨o.good.toNat,by omega⟩;have l:gd<S.G:=by omega
 have w1:IntKind.i64.wrap (o.id*16)=o.id*16:=w64 (by omega) (by omega);have w2:IntKind.i64.wrap (o.id*16+(i:Int))=o.id*16+i:=w64 (by omega) (by omega);obtain⟨b,off,q1,q2⟩:=S3.rh.book l;simp only[AH,Ad,Z,z3,l1,k,q1,(q2 g3 (Sub.refl g3)).1,CG,w1,AG,w2];have ob:=(S3.rh.b gd l).v1;refine AX λt11 G=>?_;refine AN (cs:=rbA (bs gd) (S.bk gd).next) (AD _ _ _) (by rfl) (by rfl) (by rw[List.all_eq_true];exact one2 ob) ?_;rw[An];have B:=Ar (o:=.cells (rbA (bs gd) (S.bk gd).next) 110 (0,0)) G y;revert B;generalize ins g3 t11 (.cells (rbA (bs gd) (S.bk gd).next) 110 (0,0))=g4;intro B
 have V:(StB h S Lv Bv Sv bs ss t3 t5 t11 gd o•pt t6 (.cells rh0 52 (0,0))) g4:=by
  rw[<-Bf]at B;exact AU B (λq hq=>⟨AF BM.mono hq,AM hq⟩) λ_ h=>h
 have S4:=(AJ StB.mono V).1;rw[A5 S4.k5 (v:=.int .i64 o.kind) rfl];have x:∀{X:Int×Hs},EY S i o=X->∀g v,Sub h g->RH g v X.2->R (.ret (.tuple #[v,.int .i64 X.1])) g:=λe=>by rw[<-e];exact F
 have Y:∀c d:Int,IM S.L (BY (BN S.L i c) i (gd:Int) d):=λc d=>TK (Ik _ _ _) (KW (by rw[(BK S.L i c).1];exact w.led.gd) _ _ _);simp only[BC,AB];refine⟨λc=>?_,λc=>?_⟩
 ·have c:=of_decide_eq_true c
  refine SK V w hs hi r k l hp ⟨by omega,by omega⟩ rfl (λe=>?_) (λe N=>?_) (λe N=>?_)
  ·refine x (X:=(3,S)) ?_
   unfold EY De;simp only[u,k,BR];rw[if_pos c,if_neg (by simp[p]),if_pos e]
  ·refine x (X:=(61,S)) ?_
   unfold EY De;simp only[u,k,BR];rw[if_pos c,if_neg (by simp[p]),if_neg (by simp[e]),if_pos N]
  ·have M:EY S i o=if (Bw (S.bk gd) (o.id*16+i) i (B8 o.price).1 o.am).1≠0 then ((Bw (S.bk gd) (o.id*16+i) i (B8 o.price).1 o.am).1,S)else (0,(S.setBk gd (Bw (S.bk gd) (o.id*16+i) i (B8 o.price).1 o.am).2).setL (BY (BN S.L i (Cl (EZ (S.bk gd).l (o.id*16+i)).1 (B8 o.price).1 o.am)) i (gd:Int) (D8 (EZ (S.bk gd).l (o.id*16+i)).1 o.am))):=by
    unfold EY De;simp only[u,k,BR];rw[if_pos c,if_neg (by simp[p]),if_neg (by simp[e]),if_neg N]
   have f:=x M;intro g v j n
   by_cases s:(Bw (S.bk gd) (o.id*16+i) i (B8 o.price).1 o.am).1=0
   ·rw[if_neg (by simp[s])]at n f
    have:=f g v j (n.likeL (Y _ _));rw[s];exact this
   ·rw[if_pos s]at n f
    exact f g v j n
 ·have c:=of_decide_eq_false c
  refine Us V w hs hi r k l hp ⟨by omega,by omega⟩ (by omega) (λe=>?_) (λe=>?_)
  ·refine x (X:=(61,S)) ?_
   unfold EY Hj;simp only[u];rw[if_neg c,if_neg (by simp[p]),e,if_pos (by omega)]
  ·have L:Bo ⟨(B8 o.price).1,o.id*16+i,(B8 o.price).2⟩ i o=Bo ⟨(B8 o.price).1,o.id*16+i,0⟩ i o:=rfl
   have M:EY S i o=if (E4 (S.bk gd) (Bo ⟨(B8 o.price).1,o.id*16+i,0⟩ i o)).1≠0 then ((E4 (S.bk gd) (Bo ⟨(B8 o.price).1,o.id*16+i,0⟩ i o)).1,S)else (0,(S.setBk gd (E4 (S.bk gd) (Bo ⟨(B8 o.price).1,o.id*16+i,0⟩ i o)).2).setL (BY (BN S.L i (Cz (decide (o.side=0)) (B8 o.price).1 o.am)) i (gd:Int) (Dd (decide (o.side=0)) (B8 o.price).1 o.am))):=by
    unfold EY Hj;simp only[u,L];rw[if_neg c,if_neg (by simp[p]),e,if_neg (by simp),k,BR]
   have f:=x M;intro g v j n
   by_cases s:(E4 (S.bk gd) (Bo ⟨(B8 o.price).1,o.id*16+i,0⟩ i o)).1=0
   ·rw[if_neg (by simp[s])]at n f
    have:=f g v j (n.likeL (Y _ _));rw[s];exact this
   ·rw[if_pos s]at n f
    exact f g v j n
end
section
variable {h g:PH} {R:RT} {B C:PH->Prop} {S:Hs} {Lv Bv Sv:Value} {bs ss:Nat->Value} {o:OpV}
theorem BM.l3 {t3 t9:Nat} (a:BM h g S Lv Bv Sv bs ss t3 t9 o) (K:Value->Prop):A0 (some 5) (.pointer (some ⟨t3,0,none⟩)) g K↔K (.agg (rhA S.L.goods S.now Lv Bv Sv)):=by
 rw[AI a.k3 (off:=0) (n:=5) (by show 0+5<=5;omega),show (rhA S.L.goods S.now Lv Bv Sv).extract 0 (0+5)=rhA S.L.goods S.now Lv Bv Sv from rfl]
theorem BM.l9 {t3 t9:Nat} (a:BM h g S Lv Bv Sv bs ss t3 t9 o) (K:Value->Prop):A0 (some 6) (.pointer (some ⟨t9,0,none⟩)) g K↔K o.v:=by
 rw[AI a.k5 (off:=0) (n:=6) (by show 0+6<=6;omega),show o.a.extract 0 (0+6)=o.a from rfl]
theorem FM {f:FuncId} {i:Nat} {t3 t6 t9 t11:Nat} {z y:Array Value} {S':Hs} {e:Int} {Kp:KP} (p:z.size=5) (r:y.size=5)
  (H:((λg=>BM h g S Lv Bv Sv bs ss t3 t9 o)•pt t11 (.cells y 52 (0,0))•pt t6 (.cells z 52 (0,0))) g)
  (t:∀q,RHp q S Lv Bv Sv bs ss->∀R':RT,(∀g v,Sub q g->RH g v S'->R' (.ret (.tuple #[v,.int .i64 e])) g)->A7 Tryz.prog f #[.agg (rhA S.L.goods S.now Lv Bv Sv),.int .i64 i,o.v] q R')
  (u:∀g v,Sub h g->RH g v S'->R (.ret (.tuple #[v,.int .i64 0,.int .i64 e])) g) :
  A0 (some 5) (.pointer (some ⟨t3,0,none⟩)) g λt37=>A0 (some 6) (.pointer (some ⟨t9,0,none⟩)) g λt39=>
   AA Tryz.prog f #[t37,.int .i64 i,t39] g (λt40 c=>Aa t40 0 λt41=>Aa t40 1 λt42=>
    A9 5 (.pointer (some ⟨t11,0,none⟩)) t41 c λb=>A0 (some 5) (.pointer (some ⟨t11,0,none⟩)) b λt80=>A9 5 (.pointer (some ⟨t6,0,none⟩)) t80 b λa=>
     A0 (some 5) (.pointer (some ⟨t6,0,none⟩)) a λd=>R (.ret (.tuple #[d,.int .i64 0,t42])) a) Kp:=by
 have n:=AJ BM.mono H;rw[n.l3,n.l9]
 refine fr (X:=Value) (val:=λv=>.tuple #[v,.int .i64 e]) (Q:=λv q=>RH q v S') H BM.mono
  (λq k R' l=>t q k.rh R' λg v s j=>l g v s j) λv J G=>?_
 simp only[Av,Au];refine XS.put G BM.mono r λI cs F=>?_;have x:∀A P D E:PH->Prop,(A•P•D)•E=A•P•E•D:=λ_ _ _ _=>by ac_rfl
 have m:=L6 F;unfold XS at m;rw[x]at m;exact XS.ret (K:=λd w=>R (.ret (.tuple #[d,.int .i64 0,.int .i64 e])) w) (C:=emp) m BM.mono p λg' v k j=>u g' v k.sub j
theorem HI {a b:Int} {P Q:Prop} (h:a=b) (p:P):(decide (a=b)=true->P)/\(decide (a=b)=false->Q):=⟨λ_=>p,λe=>absurd e (by simp[h])⟩
theorem Pn {a b:Int} {P Q:Prop} (h:¬a=b) (q:Q):(decide (a=b)=true->P)/\(decide (a=b)=false->Q):=⟨λe=>absurd e (by simp[h]),λ_=>q⟩
theorem dw {i:Nat} {op:ByteArray} (H:RHp h S Lv Bv Sv bs ss) (s:S.ok) (l:Snd S) (hi:i<S.L.n)
  (d:∀g v,Sub h g->RH g v (CX S i op).S->R (.ret (.tuple #[v,.int .i64 (CX S i op).n,.int .i64 (CX S i op).e])) g) :
  A7 Tryz.prog 45 #[.agg (rhA S.L.goods S.now Lv Bv Sv),.int .i64 i,.string op] h R:=by
 refine oJ ?_;unfold qJ jq0 mn jq6 zq1 zq3 ivW pnW;rw[show Value.cells (.agg (rhA S.L.goods S.now Lv Bv Sv))=rhA S.L.goods S.now Lv Bv Sv from rfl];refine Ai λt3 g1 _ s1 p=>AX λt6 h6=>?_;refine ZZ ?_;simp only[AK.elim,Av,Au];have r:=LK op;unfold CX at d;have H6:(pt t6 (.cells rh0 52 (0,0))•(λq=>RHp q S Lv Bv Sv bs ss/\Sub h q/\q t3=some (rhO S.L.goods S.now Lv Bv Sv))) (ins g1 t6 (.cells rh0 52 (0,0))):=Ar h6 ⟨H.sub s1,s1,p⟩;revert H6;generalize ins g1 t6 (.cells rh0 52 (0,0))=g2;intro H6;generalize Cv op=q at *;obtain⟨o,e⟩:=q;simp only at r d ⊢;have E:C3 λq=>RHp q S Lv Bv Sv bs ss/\Sub h q/\q t3=some (rhO S.L.goods S.now Lv Bv Sv):=λa b l H=>⟨H.1.sub l,H.2.1.trans l,l _ _ H.2.2⟩;refine AX λt9 h9=>?_;refine AN (cs:=o.a) (AD _ _ _) (by rfl) (by rfl) (by rfl) ?_;rw[An]
 have N:((λg=>BM h g S Lv Bv Sv bs ss t3 t9 o)•pt t6 (.cells rh0 52 (0,0))) (ins g2 t9 (.cells o.a 25 (0,0))):=by
  have H7:=Ar (o:=.cells o.a 25 (0,0)) h9 H6;have e:∀P A Q:PH->Prop,P•A•Q=(P•Q)•A:=λ_ _ _=>by ac_rfl
  rw[e]at H7;exact AU H7 (λq k=>⟨(AF E k).1,(AF E k).2.2,AM k,(AF E k).2.1⟩) λ_ h=>h
 revert N;generalize ins g2 t9 (.cells o.a 25 (0,0))=g3;intro N;have y:=AJ BM.mono N;rw[BB,AB]
 by_cases W:e=0
 rotate_left
 ·rw[if_neg W]at d
  refine⟨λ_=>?_,λc=>absurd c (by simp[W])⟩;exact CY (K:=λF J=>R (.ret (.tuple #[F,.int .i64 0,.int .i64 90])) J) N rfl λg v a b=>d g v a b
 rw[if_pos W]at d;refine⟨λc=>absurd c (by simp[W]),λ_=>?_⟩;rw[y.l3];refine AX λt11 Z=>?_;refine AN (cs:=rhA S.L.goods S.now Lv Bv Sv) (AD _ _ _) (by rfl) (by rfl) (by rw[List.all_eq_true];exact Fo y.rh.L.v1 y.rh.B.v1 y.rh.A.v1) ?_;rw[An];have j:=Ar (o:=rhO S.L.goods S.now Lv Bv Sv) Z N;rw[Es]at j;revert j;have eq:ins g3 t11 (.cells (rhA S.L.goods S.now Lv Bv Sv) 52 (0,0))=ins g3 t11 (rhO S.L.goods S.now Lv Bv Sv):=rfl;rw[eq];generalize ins g3 t11 (rhO S.L.goods S.now Lv Bv Sv)=Y;intro j;have M:=AJ BM.mono j;rw[AH,Ad,A5 M.k5 (v:=.int .i64 o.kind) rfl];have w:(rh0:Array Value).size=5:=rfl;have x:(rhA S.L.goods S.now Lv Bv Sv).size=5:=rfl;unfold DA at d;rw[BC,AB]
 by_cases V:o.kind=1
 ·rw[if_pos V]at d
  refine HI V ?_;rw[M.l3]
  refine fr (X:=Value) (val:=λv=>.tuple #[v,.int .i64 (Da S).1,.int .i64 (Da S).2.1]) (Q:=λv q=>RH q v (Da S).2.2) j BM.mono
   (λq k R' f=>ZH k.rh s l λg v l hv=>f g v l hv) λv g2 H2=>?_
  simp only[Ek,Ej,Ei];have e2:∀A P D:PH->Prop,A•P•D=D•A•P:=λ_ _ _=>by ac_rfl
  rw[e2]at H2;obtain⟨cs,rfl,c5,c1⟩:=Gm (AJ (B3 RH.mono BM.mono) (AF (A8 _ _) H2)).1;refine Cc (K:=λF J=>R (.ret (.tuple #[F,.int .i64 (Da S).1,.int .i64 (Da S).2.1])) J) H2 (A8 _ _) rfl c5 c1 λY k=>?_;obtain⟨a,b⟩:=AJ (B3 RH.mono BM.mono) k;exact d Y _ b.sub a
 rw[if_neg V]at d;refine Pn V ?_;rw[BC,AB]
 by_cases t:o.kind=2
 ·rw[if_pos t]at d
  refine HI t ?_;rw[AB];refine HI t ?_;have m:FI S i o=GW S.L i o.am:=by unfold FI;rw[if_pos t]
  rw[<-m]at d;exact FM w x j (λq k R' f=>JX k s l hi r (by omega) f) d
 rw[if_neg t]at d;refine Pn t ?_;rw[BC,AB]
 by_cases p:o.kind=3
 ·rw[if_pos p]at d
  refine HI p ?_;rw[AB];refine HI p ?_;have m:FI S i o=EE S.L i o.am:=by unfold FI;rw[if_neg t,if_pos p]
  rw[<-m]at d;exact FM w x j (λq k R' f=>JX k s l hi r (by omega) f) d
 rw[if_neg p]at d;refine Pn p ?_;rw[BC,AB]
 by_cases z:o.kind=4
 ·rw[if_pos z]at d
  refine HI z ?_;rw[AB];refine HI z ?_;have m:FI S i o=DG S.L i o.good o.am:=by unfold FI;rw[if_neg t,if_neg p,if_pos z]
  rw[<-m]at d;exact FM w x j (λq k R' f=>JX k s l hi r (by omega) f) d
 rw[if_neg z]at d;refine Pn z ?_;rw[BC,AB]
 by_cases U:o.kind=5
 ·rw[if_pos U]at d
  refine HI U ?_;have m:FI S i o=DL S.L i o.good o.am:=by unfold FI;rw[if_neg t,if_neg p,if_neg z]
  rw[<-m]at d;exact FM w x j (λq k R' f=>JX k s l hi r (by omega) f) d
 rw[if_neg U]at d;refine Pn U ?_;rw[BC,AB]
 by_cases T:o.kind=6
 ·rw[if_pos T]at d
  refine HI T ?_;exact FM w x j (λq k R' f=>XY k s l hi r f) d
 rw[if_neg T]at d;refine Pn T ?_;rw[BC,AB]
 by_cases O:o.kind=7
 ·rw[if_pos O]at d
  refine HI O ?_;exact FM w x j (λq k R' f=>ZF k s l hi r f) d
 rw[if_neg O]at d;refine Pn O ?_;rw[BC,AB]
 by_cases I:o.kind=8
 ·rw[if_pos I]at d
  refine HI I ?_;rw[AB];refine HI I ?_;have m:EY S i o=Hj S i o:=by unfold EY;rw[if_neg (by omega)]
  rw[<-m]at d;exact FM w x j (λq k R' f=>QJ k s l hi r f) d
 rw[if_neg I]at d;refine Pn I ?_;rw[BC,AB]
 by_cases G:o.kind=9
 ·rw[if_pos G]at d
  refine HI G ?_;have m:EY S i o=De S i o:=by unfold EY;rw[if_pos G]
  rw[<-m]at d;exact FM w x j (λq k R' f=>QJ k s l hi r f) d
 rw[if_neg G]at d;refine Pn G ?_;rw[BC,AB]
 by_cases u:o.kind=10
 ·rw[if_pos u]at d
  refine HI u ?_;exact FM w x j (λq k R' f=>Sz k s l hi r f) d
 rw[if_neg u]at d;refine Pn u ?_;have e2:∀A P D:PH->Prop,A•P•D=D•P•A:=λ_ _ _=>by ac_rfl
 rw[e2]at j;rw[AI (AM (AF (A8 _ _) j)) (off:=0) (n:=5) (by show 0+5<=5;omega),show (rhA S.L.goods S.now Lv Bv Sv).extract 0 (0+5)=rhA S.L.goods S.now Lv Bv Sv from rfl];refine Cc (K:=λF J=>R (.ret (.tuple #[F,.int .i64 0,.int .i64 90])) J) j (A8 _ _) rfl rfl (Fo M.rh.L.v1 M.rh.B.v1 M.rh.A.v1) λY k=>?_;have L:=AF BM.mono k;exact d Y _ L.sub ⟨Lv,Bv,Sv,bs,ss,rfl,L.rh⟩
end
section
variable {h g:PH} {R:RT} {B C:PH->Prop} {S:Hs} {Lv Bv Sv:Value} {bs ss:Nat->Value} {t:Nat}
theorem bV {t:Nat} {y:Array Value} {A:PH->Prop} {K:PH->Prop} {Kp:KP} (l:y.size=5) (o:(A•pt t (.cells y 52 (0,0))) h) (f:RHp h S Lv Bv Sv bs ss) (u:S.L.n<=16) (w:S.G<=4)
  (n:∀g b c a,(CP t S b c a bs ss•A) g->K g) :
  AA Tryz.prog 46 #[.agg (rhA S.L.goods S.now Lv Bv Sv)] h (λv s=>A9 5 (.pointer (some ⟨t,0,none⟩)) v s λr=>K r) Kp:=by
 refine O9 f.L f.B f.A (by omega) (by omega) (by omega) λx b c a d=>?_;simp only[AK.elim];have i:=BL (AJ OS.mono d);have j:=BL (AJ OS.mono (AF (A8 _ _) d));have k:=BL (AJ OS.mono (AF (A8 _ _) (AF (A8 _ _) d)));have H3':=AU d (λ_ h=>h) λ_ h=>AU h (λ_ h=>h) λ_ h=>AU h (λ_ h=>h) λq m=>(A8 _ _) _ _ m o;have e:∀X Y Z A P:PH->Prop,X•Y•Z•A•P=P•X•Y•Z•A:=λ_ _ _ _ _=>by ac_rfl
 rw[e]at H3';refine AN (cs:=rhA S.L.goods S.now b c a) (AM H3') l (by rfl) (by rw[List.all_eq_true];exact Fo i j k) ?_;exact n _ _ _ _ (Ju (Bb (p:=rhO S.L.goods S.now b c a) H3'))
theorem lu {i j:Nat} {v:Value} {L':Led} {K:PH->Prop} (H:(CP t S Lv Bv Sv bs ss•C) h) (hi:i<S.L.n) (r:j<7) (m:v.oneCell'=true) (n:L'.n=S.L.n) (f:L'.goods=S.L.goods)
  (c:∀a,(if a=i then (clC S.L i).set j v else clC S.L a)=clC L' a) (o:∀g,(CP t (S.setL L') Lv Bv Sv bs ss•C) g->K g) :
  AR 7 Lv (.int .i64 i) λp=>vFA j p λq=>A9 1 q v h K:=by
 have l:=Jv H;have w:∀P A B D Q:PH->Prop,P•A•B•D•Q=A•(P•B•D•Q):=λ_ _ _ _ _=>by ac_rfl
 have u:∀P A B D Q:PH->Prop,A•(P•B•D•Q)=P•A•B•D•Q:=λ_ _ _ _ _=>by ac_rfl
 rw[w]at l;obtain⟨b,cap,e,d⟩:=QN (j:=i*7+j) (v:=v) l (by omega) m;rw[e,B9];refine⟨by omega,by omega,?_⟩;rw[show 0+(i:Int).toNat*7=i*7 by omega,AH];refine d _ λg k=>o g (Ju ?_);rw[QF (Ft S.L) hi r,G7 (g:=clC L') λa _=>c a,u]at k;have s:(S.setL L').G=S.G:=by unfold Hs.G Hs.setL;simp only;rw[f]
 rw[s];show (pt t (rhO L'.goods S.now Lv Bv Sv)•OS 108 7 Lv L'.n (BU (clC L') L'.n)•OS 110 2 Bv S.G (BU (bkC bs S) S.G)•OS 115 7 Sv S.G (BU (saC ss S) S.G)•C) g;rw[n,f];exact k
theorem qy {v i p q:Value} {e:Nat} (b:∀K,AR e v i K↔K p) (a:∀K,AR e v i K↔K q):p=q:=(b (λx=>x=q)).1 ((a _).2 rfl)
theorem CP.row (H:(CP t S Lv Bv Sv bs ss•C) h):BG h Lv 7 S.L.n (BU (clC S.L) S.L.n):=CC (AJ OS.mono (AF (A8 _ _) (Jv H))) (Ry _ _)
theorem YM (L:Led) (i:Nat) (s:Int) (a:Nat):(if a=i then (clC L i).set 5 (.int .i64 s)else clC L a)=clC (L.set i 10 s) a:=by
 by_cases e:a=i
 ·subst e
  rw[if_pos rfl];unfold clC Ay;simp only[Led.set,List.set];simp
 ·rw[if_neg e]
  unfold clC Ay;simp only[Led.set];simp[e]
theorem gF (L:Led) (i:Nat) (s:ByteArray) (a:Nat):(if a=i then (clC L i).set 6 (.string s)else clC L a)=clC (L.setR i s) a:=by
 by_cases e:a=i
 ·subst e
  rw[if_pos rfl];unfold clC Ay;simp only[Led.setR,List.set];simp
 ·rw[if_neg e]
  unfold clC Ay;simp only[Led.setR];simp[e]
theorem aB {d:Did} {i:Nat} {stamp:Int} (f:0<=d.e/\d.e<=100) (e:0<=d.n/\d.n<=9007199254740992) (l:1<=stamp) (k:stamp<=1099511627776) (j:d.S.L.f i 10<stamp) :
  HT d i stamp=(d.S.setL (d.S.L.set i 10 stamp)).setL ((d.S.L.set i 10 stamp).setR i (HD d.e d.n)):=by
 unfold HT EK;have c:=Cs (n:=d.e.toNat) (by omega);have b:=Cs (n:=d.n.toNat) (by omega)
 have a:(HD d.e d.n).size=(Br d.e.toNat).length+(Br d.n.toNat).length:=by
  unfold HD;show (List.toArray _).size=_;simp
 rw[if_neg (by omega),if_neg (by omega)]
 rfl
end
section
variable {h g:PH} {R:RT} {B C:PH->Prop} {S:Hs} {Lv Bv Sv:Value} {bs ss:Nat->Value} {t:Nat}
theorem StT.l1 {t4:Nat} (a:StT h S Lv Bv Sv bs ss t4 g) (K:Value->Prop):A0 (some 5) (.pointer (some ⟨t4,0,none⟩)) g K↔K (.agg (rhA S.L.goods S.now Lv Bv Sv)):=by
 rw[AI a.2.2 (off:=0) (n:=5) (by show 0+5<=5;omega),show (rhA S.L.goods S.now Lv Bv Sv).extract 0 (0+5)=rhA S.L.goods S.now Lv Bv Sv from rfl]
theorem dQ {t4 t8:Nat} {K:Value->PH->Prop} (H:(pt t8 (.cells rh0 52 (0,0))•StT h S Lv Bv Sv bs ss t4) g) (e:∀g v,Sub h g->RH g v S->K v g) :
  A0 (some 5) (.pointer (some ⟨t4,0,none⟩)) g λv=>A9 5 (.pointer (some ⟨t8,0,none⟩)) v g λc=>A0 (some 5) (.pointer (some ⟨t8,0,none⟩)) c λd=>K d c:=by
 have a:=AF StT.mono H;rw[a.l1];refine Cc (K:=K) H StT.mono rfl rfl (Fo a.1.L.v1 a.1.B.v1 a.1.A.v1) λf b=>?_;exact e f _ b.2.1 ⟨Lv,Bv,Sv,bs,ss,rfl,b.1⟩
theorem gA {t11 t8 i:Nat} {d:Did} {stamp:Int} {A:PH->Prop} {z:Array Value} (hd:d.S.ok) (hi:i<d.S.L.n) (he:0<=d.e/\d.e<=100) (hn:0<=d.n/\d.n<=9007199254740992) (h1:1<=stamp) (h2:stamp<=1099511627776) (h3:d.S.L.f i 10<stamp) (hm:C3 A) (hz:z.size=5)
  (hs:∀q,A q->Ps q d.S bs ss) (u:∀q,A q->Sub h q)
  (H:(CP t11 d.S Lv Bv Sv bs ss•A•pt t8 (.cells z 52 (0,0))) g)
  (N:∀g v,Sub h g->RH g v (HT d i stamp)->R (.ret (.tuple #[v,.string (HD d.e d.n),.int .i64 0])) g) :
  A0 none (.pointer (some ⟨t11,2,none⟩)) g λt51=>AR 7 t51 (.int .i64 i) λt54=>vFA 5 t54 λt55=>A9 1 t55 (.int .i64 stamp) g λl=>
   A0 none (.pointer (some ⟨t11,2,none⟩)) l λt57=>AA Tryz.prog 47 #[.int .i64 d.e] l (λt60 k=>(A0 none (.pointer (some ⟨t11,2,none⟩)) k λI=>t57=I) /\
    AA Tryz.prog 47 #[.int .i64 d.n] k (λt62 j=>(A0 none (.pointer (some ⟨t11,2,none⟩)) j λG=>t57=G) /\
     A6 Tryz.prog .add 9 t60 t62 λt63=>AR 7 t57 (.int .i64 i) λt64=>vFA 6 t64 λt65=>A9 1 t65 t63 j λf=>
      A0 (some 5) (.pointer (some ⟨t11,0,none⟩)) f λt66=>A0 none (.pointer (some ⟨t11,2,none⟩)) f λt68=>AR 7 t68 (.int .i64 i) λt70=>vFA 6 t70 λt71=>A0 none t71 f λt72=>
       A9 5 (.pointer (some ⟨t8,0,none⟩)) t66 f λa=>(A0 none (.pointer (some ⟨t11,2,none⟩)) a λF=>t68=F)/\(A0 none t71 a λE=>t72=E) /\
        A0 (some 5) (.pointer (some ⟨t8,0,none⟩)) a λs=>R (.ret (.tuple #[s,t72,.int .i64 0])) a) (λc h=>R (.pan c) h)) (λc h=>R (.pan c) h):=by
 rw[aB he hn h1 h2 h3]at N;obtain⟨e,x⟩:∃e:Nat,d.e=e:=⟨d.e.toNat,by omega⟩;obtain⟨n,w⟩:∃n:Nat,d.n=n:=⟨d.n.toNat,by omega⟩;have er:HD d.e d.n=⟨(Br e++Br n).toArray⟩:=by unfold HD;rw[x,w,BR,BR]
 rw[er]at N;rw[x,w];have q1:=Cs (n:=e) (by omega);have q2:=Cs (n:=n) (by omega);have r:∀{S:Hs} {C:PH->Prop} {g:PH},(CP t11 S Lv Bv Sv bs ss•C) g->∀K:Value->Prop,A0 none (.pointer (some ⟨t11,2,none⟩)) g K↔K Lv:=λHc K=>A5 (CP.k Hc) (v:=Lv) rfl;rw[r H];refine lu (L':=d.S.L.set i 10 stamp) H hi (by omega) rfl rfl rfl (YM _ _ _) λg2 D=>?_;rw[r D];refine DH (v:=(e:Int)) (by omega) (by omega) ?_;simp only[AK.elim,BR];refine⟨(r D _).2 rfl,?_⟩;refine DH (v:=(n:Int)) (by omega) (by omega) ?_;simp only[AK.elim,BR];refine⟨(r D _).2 rfl,?_⟩;rw[Ic _ _ (by omega)];refine lu (S:=d.S.setL (d.S.L.set i 10 stamp)) (L':=(d.S.L.set i 10 stamp).setR i ⟨(Br e++Br n).toArray⟩) D hi (by omega) rfl rfl rfl (gF _ _ _) λV m=>?_;have k3:=CP.k m;rw[AI k3 (off:=0) (n:=5) (by show 0+5<=5;omega),r m];obtain⟨b,o,O,X⟩:=(CP.row m).el hi
 have T:∀L:Led,(BU (clC (L.setR i ⟨(Br e++Br n).toArray⟩)) d.S.L.n)[i*7+6]?=some (.string ⟨(Br e++Br n).toArray⟩):=λL=>by
  rw[C4 (Ft _) _ _ _ hi (by omega)];show some (Value.string ((L.setR i ⟨(Br e++Br n).toArray⟩).r i))=_;simp[Led.setR]
 rw[O,AH,(X V (Sub.refl V)).1 6 _ (by omega) (T _)];obtain⟨Y,Z,oA⟩:=CP.ones (AJ CP.mono m);have e5:∀P A Q:PH->Prop,P•A•Q=Q•P•A:=λ_ _ _=>by ac_rfl
 rw[e5]at m;refine AN (cs:=rhA d.S.L.goods d.S.now Lv Bv Sv) (AM m) hz (by rfl) (by rw[List.all_eq_true];exact Fo Y Z oA) ?_;have H4:=Bb (p:=rhO d.S.L.goods d.S.now Lv Bv Sv) m;have y:=AF (A8 _ _) H4;obtain⟨b',o',M,J⟩:=(CP.row y).el hi;have W:=qy O M;simp only[Value.pointer.injEq,Option.some.injEq,Addr.mk.injEq]at W;obtain⟨rfl,rfl,_⟩:=W;refine⟨(r y _).2 rfl,((J _ (Sub.refl _)).1 6 _ (by omega) (T _) _).2 rfl,?_⟩;rw[AI (AD _ _ _) (off:=0) (n:=5) (by show 0+5<=5;omega)];have U:=AF hm y;refine N _ _ (u _ U) ⟨Lv,Bv,Sv,bs,ss,rfl,CP.rh (AJ CP.mono y) ?_⟩;have:=hs _ U;exact⟨this.b,this.a⟩
end
section
variable {h g:PH} {R:RT} {B C:PH->Prop} {S:Hs} {Lv Bv Sv:Value} {bs ss:Nat->Value} {t:Nat}
theorem MF {i p:Nat} (H:RHp h S Lv Bv Sv bs ss) (a:S.ok) (b:Snd S) (hi:i<S.L.n) (c:p<=S.G) (d:R (.ret (.int .i64 ((rOf S.L i).kept p))) h) :
  A7 Tryz.prog 87 #[.agg (rhA S.L.goods S.now Lv Bv Sv),.int .i64 i,.int .i64 p] h R:=by
 have f:=a.g;refine Su (p:=p) H (by omega) (OJ a) hi (Zo a hi) (LR a b hi (by omega)) ?_
 have e:Ez S i p=(rOf S.L i).kept p:=by
  match p,c with
  | 0,_=>exact (HV a b hi).1
  | p+1,c=>
   rw[(HV a b hi).2 p (by omega)];simp only[rOf];rw[if_neg (by omega),show 5+(p+1)=6+p by omega]
 rw[e];exact d
def acP (L:Led) (i k:Nat):Array Value:=#[.int .i64 (L.f i 0),.int .i64 (L.f i 1),
 .int .i64 (if 0<k then L.f i 2 else 0),.int .i64 (if 1<k then L.f i 3 else 0),.int .i64 (if 2<k then L.f i 4 else 0),.int .i64 (if 3<k then L.f i 5 else 0),
 .int .i64 (if 0<k then L.f i 6 else 0),.int .i64 (if 1<k then L.f i 7 else 0),.int .i64 (if 2<k then L.f i 8 else 0),.int .i64 (if 3<k then L.f i 9 else 0)]
theorem cr (L:Led) (i:Nat) {k:Nat} (a:k<4):((acP L i k).setIfInBounds (2+k) (.int .i64 (L.f i (2+k)))).setIfInBounds (6+k) (.int .i64 (L.f i (6+k)))=acP L i (k+1):=by
 have:k=0\/k=1\/k=2\/k=3:=by omega
 rcases this with rfl | rfl | rfl | rfl <;> rfl
theorem jX {S:Hs} (k:S.ok) (f:Snd S) (e:Zer S.L) {i:Nat} (hi:i<S.L.n):acP S.L i S.G=AW S.L i:=by
 have l:=k.g
 have a:∀j:Nat,j<4->(if j<S.G then S.L.f i (2+j)else 0)=S.L.f i (2+j):=λj d=>by
  split
  ·rfl
  ·rw[e i j hi (by omega) d]
 have b:∀j:Nat,j<4->(if j<S.G then S.L.f i (6+j)else 0)=S.L.f i (6+j):=λj d=>by
  split
  ·rfl
  ·rename_i c
   rw[f.lock i j hi d,if_neg c]
 unfold acP AW;rw[a 0 (by omega),a 1 (by omega),a 2 (by omega),a 3 (by omega),b 0 (by omega),b 1 (by omega),b 2 (by omega),b 3 (by omega)]
theorem T0 {i:Nat} (H:RHp h S Lv Bv Sv bs ss) (f:S.ok) (v:Snd S) (T:Zer S.L) (hi:i<S.L.n) (W:R (.ret (.agg (AW S.L i))) h) :
  A7 Tryz.prog 49 #[.agg (rhA S.L.goods S.now Lv Bv Sv),.int .i64 i] h R:=by
 refine A7.drop (oF ?_);unfold qF zq2 eXW ivW pnW;rw[show Value.cells (.agg (rhA S.L.goods S.now Lv Bv Sv))=rhA S.L.goods S.now Lv Bv Sv from rfl];refine Ai λt2 j _ E Q=>AX λt4 Y=>?_;have hg:=f.g;have q:(pt t4 (.cells Lz 61 (0,0))•StT h S Lv Bv Sv bs ss t2) (ins j t4 (.cells Lz 61 (0,0))):=Ar Y ⟨H.sub E,E,Q⟩;revert q;have e0:ins j t4 (.cells #[.int .i64 0,.int .i64 0,.int .i64 0,.int .i64 0,.int .i64 0,.int .i64 0,.int .i64 0,.int .i64 0,.int .i64 0,.int .i64 0] 61 (0,0))=ins j t4 (.cells Lz 61 (0,0)):=rfl;rw[e0];generalize ins j t4 (.cells Lz 61 (0,0))=g2;intro q;have l:=AF StT.mono q;have z:=λK=>A5 (K:=K) l.2.2 (show (rhA S.L.goods S.now Lv Bv Sv)[2]?=some Lv from rfl);obtain⟨b,o,q1,q2,q3⟩:=l.1.has hi (p:=0) (by omega);have q2':∀K,Cp 5 1 (.pointer (some ⟨b,o,none⟩)) (.int .i64 0) K↔K (.pointer (some ⟨b,o+0,none⟩)):=q2;have q3':∀K,A0 none (.pointer (some ⟨b,o,none⟩)) g2 K↔K (.int .i64 (Ay S.L i 0)):=q3 g2 (Sub.refl g2);simp only[AH,Ad,Nat.add_zero,z,q1,q2',q3'];rw[l.l1];refine MF (p:=0) l.1 f v hi (by omega) ?_;simp only[AK.elim,z,q3',true_and];refine⟨acP S.L i 0,by kernel_rfl,?_⟩;refine AX λt5 X=>?_;refine AN (cs:=acP S.L i 0) (AD _ _ _) (by rfl) (by rfl) (by rfl) ?_;rw[An];have H5:=Ar (o:=.cells (acP S.L i 0) 61 (0,0)) X q
 refine AL (λm F g=>∃k:Nat,F = .int .i64 k/\m=S.G-k/\k<=S.G/\(pt t5 (.cells (acP S.L i k) 61 (0,0))•pt t4 (.cells Lz 61 (0,0))•StT h S Lv Bv Sv bs ss t2) g) S.G
  ⟨0,rfl,rfl,by omega,H5⟩ ?_
 rintro m F g ⟨k,rfl,em,hkn,Hg⟩;have w:=AF StT.mono (AF (A8 _ _) Hg);have y:=λK=>A5 (K:=K) w.2.2 (show (rhA S.L.goods S.now Lv Bv Sv)[0]?=some (.int .i64 S.L.goods)from rfl)
 by_cases V:k<S.G
 ·have key:∀(u:V4->Value->PH->Prop) Kp A,(∀g',(pt t5 (.cells (acP S.L i (k+1)) 61 (0,0))•pt t4 (.cells Lz 61 (0,0))•StT h S Lv Bv Sv bs ss t2) g'->u (.int .i64 i,ptr t2,ptr t4,ptr t5) (.int .i64 ((k:Int)+1)) g') ->
    U3 Kp A (.int .i64 i,ptr t2,ptr t4,ptr t5) u (.int .i64 k) g:=by
   intro u Kp A c;unfold U3 KX ivW;have a:(k:Int)<S.L.goods:=by omega
   have M:IntKind.i64.wrap ((k:Int)+1)=(k:Int)+1:=w64 (by omega) (by omega);have D:IntKind.i64.wrap (1+(k:Int))=((k+1:Nat):Int):=by rw[w64 (by omega) (by omega)];omega
   have s:=λK=>A5 (K:=K) w.2.2 (show (rhA S.L.goods S.now Lv Bv Sv)[2]?=some Lv from rfl);obtain⟨b,o,q1,q2,q3⟩:=w.1.has hi (p:=k+1) (by omega);simp only[AH,Ad,y,AC,a,B6,AB];refine nT ?_;rw[s,AG,D,q1,AH,Nat.add_zero,q2,q3 g (Sub.refl g),EX];refine⟨by omega,by omega,?_⟩;rw[show 2+(k:Int).toNat*1=2+k by omega,Aw (AM Hg) (by show 2+k<10;omega) (by rfl)];have d:=Bb (p:=.cells ((acP S.L i k).setIfInBounds (2+k) (.int .i64 (Ay S.L i (k+1)))) 61 (0,0)) Hg;revert d;generalize ins g t5 (.cells ((acP S.L i k).setIfInBounds (2+k) (.int .i64 (Ay S.L i (k+1)))) 61 (0,0))=g6;intro d;have L:=AF StT.mono (AF (A8 _ _) d);rw[L.l1,AG,D];refine MF (p:=k+1) L.1 f v hi (by omega) ?_;simp only[AK.elim];rw[EX];refine⟨by omega,by omega,?_⟩;rw[show 6+(k:Int).toNat*1=6+k by omega,Aw (AM d) (by rw[Array.size_setIfInBounds];show 6+k<10;omega) (by rfl)];have e1:Ay S.L i (k+1)=S.L.f i (2+k):=by unfold Ay;rw[if_neg (by omega),show k+1+1=2+k by omega]
   have e2:(rOf S.L i).kept (k+1)=S.L.f i (6+k):=by simp only[rOf];rw[if_neg (by omega),show 5+(k+1)=6+k by omega]
   rw[e1,e2,cr S.L i (by omega)];rw[AG,M];exact c _ (Bb (p:=.cells (acP S.L i (k+1)) 61 (0,0)) d)
  exact key _ _ _ λg' H'=>⟨rfl,S.G-(k+1),by omega,k+1,rfl,rfl,by omega,H'⟩
 ·have e:k=S.G:=by omega
  subst e;unfold U3 KX ivW;have a:¬(S.G:Int)<S.L.goods:=by omega
  simp only[AH,Ad,y,AC,a,BW,AB];refine nF ?_;intro r I;simp only[Prod.mk.injEq]at I;obtain⟨P,O⟩:=I;simp only[P,O];rw[jX f v T hi]at Hg;rw[AI (AM Hg) (off:=0) (n:=10) (by show 0+10<=10;omega),show (AW S.L i).extract 0 (0+10)=AW S.L i from rfl];refine Cc (K:=λN Z=>∃J,Sub J Z/\R (.ret N) J) (AF (A8 _ _) Hg) StT.mono rfl rfl (by intro x G;simp[AW]at G;rcases G with rfl | rfl | rfl | rfl | rfl | rfl | rfl | rfl | rfl | rfl <;> rfl) λg4 U=>?_;exact⟨h,U.2.1,W⟩
end
def K7 (L:Led) (i k:Nat):KA where
 free:=λp=>if p<k then (rOf L i).free p else 0
 kept:=λp=>if p<k then (rOf L i).kept p else 0
 stamp:=L.f i 10
 reply:=L.r i
theorem Xi (L:Led) (i:Nat) {k:Nat} (a:k<5):((K7 L i k).cells.setIfInBounds (5+k) (.int .i64 ((rOf L i).kept k))).setIfInBounds k (.int .i64 ((rOf L i).free k))=(K7 L i (k+1)).cells:=by
 have:k=0\/k=1\/k=2\/k=3\/k=4:=by omega
 rcases this with rfl | rfl | rfl | rfl | rfl <;> rfl
theorem Zf {S:Hs} (h:S.ok) (d:Snd S) (f:Zer S.L) {i:Nat} (hi:i<S.L.n):(K7 S.L i (S.G+1)).cells=(rOf S.L i).cells:=by
 have l:=h.g
 have b:∀p:Nat,p<5->(K7 S.L i (S.G+1)).kept p=(rOf S.L i).kept p:=λp g=>by
  show (if p<S.G+1 then (rOf S.L i).kept p else 0)=_
  split
  ·rfl
  ·rename_i c
   obtain⟨j,rfl⟩:∃j,p=j+1:=⟨p-1,by omega⟩;have:=d.lock i j hi (by omega);rw[if_neg (by omega)]at this;simp only[rOf];rw[if_neg (by omega),show 5+(j+1)=6+j by omega,this]
 have a:∀p:Nat,p<5->(K7 S.L i (S.G+1)).free p=(rOf S.L i).free p:=λp g=>by
  show (if p<S.G+1 then (rOf S.L i).free p else 0)=_
  split
  ·rfl
  ·rename_i c
   obtain⟨j,rfl⟩:∃j,p=j+1:=⟨p-1,by omega⟩;have e:=d.lock i j hi (by omega);rw[if_neg (by omega)]at e;have k:=f i j hi (by omega) (by omega);simp only[rOf];rw[if_neg (by omega),show 5+(j+1)=6+j by omega,e,show 1+(j+1)=2+j by omega,k];rfl
 unfold KA.cells;rw[a 0 (by omega),a 1 (by omega),a 2 (by omega),a 3 (by omega),a 4 (by omega),b 0 (by omega),b 1 (by omega),b 2 (by omega),b 3 (by omega),b 4 (by omega)]
 rfl
theorem YC (a:KA):Instr.fill (λi=>some (i*12,12)) (rep #[Value.int .i64 0,.int .i64 0,.int .i64 0,.int .i64 0,.int .i64 0,.int .i64 0,.int .i64 0,.int .i64 0,.int .i64 0,.int .i64 0,.int .i64 0,.string ⟨#[]⟩] (1*12)) [(0,.agg a.cells)]=some a.cells:=by
 have e:Array.range 12=#[0,1,2,3,4,5,6,7,8,9,10,11]:=by decide
 simp[Instr.fill,rep,Value.cells,e,KA.cells]
section
variable {h g:PH} {R:RT} {B C:PH->Prop} {S:Hs} {Lv Bv Sv:Value} {bs ss:Nat->Value} {t:Nat}
theorem jP {n:Nat} {l:List Value} {s:Value} {a:KA} {K:Value->PH->Prop} (H:(OS 165 12 s n l•C) g) (E:n<=1000) (w:∀g' k,(OS 165 12 k (n+1) (l++a.cells.toList)•C) g'->K k g') :
  Aj 165 12 1 #[.int .i64 0,.int .i64 0,.int .i64 0,.int .i64 0,.int .i64 0,.int .i64 0,.int .i64 0,.int .i64 0,.int .i64 0,.int .i64 0,.int .i64 0,.string ⟨#[]⟩] [(0,.agg a.cells)] g λt z=>(0<12)/\(0<104)/\(Array.size #[(.int .i64 0:Value),(.int .i64 0:Value),(.int .i64 0:Value),(.int .i64 0:Value),(.int .i64 0:Value),(.int .i64 0:Value),(.int .i64 0:Value),(.int .i64 0:Value),(.int .i64 0:Value),(.int .i64 0:Value),(.int .i64 0:Value),(.string ⟨#[]⟩:Value)]=12) /\
   Ab false 165 12 104 s t z K:=by
 refine⟨_,YC a,λd q=>⟨by omega,by omega,rfl,?_⟩⟩;obtain⟨h0,y,p⟩:=Iw H
 refine Db (m:=1) (news:=a.cells.toList) (p.up (AT _ q)) (by simp only[roomBytes];omega) (by omega) rfl
  (λL i=>.inr (.inr ⟨rfl,d,0,1,1,_,_,_,rfl,AD _ _ _,by show 0+1*12<=12;omega,λx f=>?_,i⟩)) (λJ o D G f F cap b=>?_) λA v c=>w A v (D0 y c)
 ·have:=KA.one a
  rw[List.all_eq_true]at this;exact this x f
 ·cases f
  intro e
  rcases p.buf with⟨j,_⟩ | ⟨g',I,u,j,r,_⟩
  ·rw[j]at b;cases b
  ·rw[j]at b;cases b;rw[<-e,q]at r;cases r
theorem eL {t1 t5 i k:Nat} {t3:Value} {A:PH->Prop} {Kp:KP} {x2:V4->PH->Prop} {r:V4->Value->PH->Prop} (e:S.ok) (y:Snd S) (hi:i<S.L.n) (l:k<=S.G) (s:C3 A) (d:∀q,A q->StT h S Lv Bv Sv bs ss t1 q)
  (H:(pt t5 (.cells (K7 S.L i k).cells 165 (0,0))•A) g)
  (z:∀g',(pt t5 (.cells (K7 S.L i (k+1)).cells 165 (0,0))•A) g'->r (ptr t1,t3,.int .i64 i,ptr t5) (.int .i64 ((k:Int)+1)) g') :
  U4 Kp x2 (ptr t1,t3,.int .i64 i,ptr t5) r (.int .i64 k) g:=by
 have E:=e.g;have n:=d _ (AF s H);have v:=λK=>A5 (K:=K) n.2.2 (show (rhA S.L.goods S.now Lv Bv Sv)[0]?=some (.int .i64 S.L.goods)from rfl);unfold U4 KX ivW;have j:(k:Int)<=S.L.goods:=by omega
 have x:IntKind.i64.wrap ((k:Int)+1)=(k:Int)+1:=w64 (by omega) (by omega);simp only[AH,Ad,v,EI,j,B6,AB];refine nT ?_;rw[n.l1];refine MF (p:=k) n.1 e y hi l ?_;simp only[AK.elim];rw[EX];refine⟨by omega,by omega,?_⟩;rw[show 5+(k:Int).toNat*1=5+k by omega,Aw (AM H) (by show 5+k<12;omega) (by rfl)];have a:=Bb (p:=.cells ((K7 S.L i k).cells.setIfInBounds (5+k) (.int .i64 ((rOf S.L i).kept k))) 165 (0,0)) H;revert a;generalize ins g t5 (.cells ((K7 S.L i k).cells.setIfInBounds (5+k) (.int .i64 ((rOf S.L i).kept k))) 165 (0,0))=g6;intro a;have u:=d _ (AF s a);have w:=λK=>A5 (K:=K) u.2.2 (show (rhA S.L.goods S.now Lv Bv Sv)[2]?=some Lv from rfl);obtain⟨b,o,q1,q2,q3⟩:=u.1.has hi (p:=k) (by omega);rw[w,q1,AH,Nat.add_zero,q2,q3 g6 (Sub.refl g6),EX];refine⟨by omega,by omega,?_⟩
 have m:((K7 S.L i k).cells.setIfInBounds (5+k) (.int .i64 ((rOf S.L i).kept k)))[5+k]?=some (.int .i64 ((rOf S.L i).kept k)):=by
  have f:5+k<(K7 S.L i k).cells.size:=by show 5+k<12;omega
  rw[Array.getElem?_setIfInBounds];simp[f]
 have b1:=ZY e.led.small (p:=k) (by omega) hi;have b2:=MR e hi (p:=k) (by omega)
 have D:Ay S.L i k-(rOf S.L i).kept k=(rOf S.L i).free k:=by
  unfold Ay;simp only[rOf]
  by_cases c:k=0
  ·simp[c]
  ·simp only[c,if_false];rw[Nat.add_comm 1 k]
 rw[show 5+(k:Int).toNat*1=5+k by omega,A5 (AM a) m,Ao,D,w64 (by omega) (by omega),EX];refine⟨by omega,by omega,?_⟩;rw[show 0+(k:Int).toNat*1=k by omega,Aw (AM a) (by rw[Array.size_setIfInBounds];show k<12;omega) (by rfl),Xi S.L i (by omega),AG,x];exact z _ (Bb (p:=.cells (K7 S.L i (k+1)).cells 165 (0,0)) a)
end
end Go.Pw
