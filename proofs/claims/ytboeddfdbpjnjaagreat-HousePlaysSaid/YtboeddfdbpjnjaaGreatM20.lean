/- Texts of this claim, one behind the other. -/
import Derived.Test.YtboeddfdbpjnjaaGreatM10
import Derived.Test.YtboeddfdbpjnjaaGreatM14
import Derived.Test.YtboeddfdbpjnjaaGreatM16
import Derived.Test.YtboeddfdbpjnjaaGreatM17
import Derived.Test.YtboeddfdbpjnjaaGreatM19
set_option linter.unusedSimpArgs false
set_option linter.unusedVariables false
namespace Go.Pw
open Go Go.Proofs
def jW (L:Led) (i:Nat):List Value:=(rOf L i).cells.toList
section
variable {h g:PH} {R:RT} {B C:PH->Prop} {S:Hs} {Lv Bv Sv:Value} {bs ss:Nat->Value} {t:Nat}
def StR (h:PH) (S:Hs) (Lv Bv Sv:Value) (bs ss:Nat->Value) (t1 t3 i:Nat) (s:Value):PH->Prop:=
 OS 165 12 s i (BU (jW S.L) i)•pt t3 (.cells #[.int .i64 S.L.goods,s] 163 (0,0))•StT h S Lv Bv Sv bs ss t1
theorem StR.st {t1 t3 i:Nat} {s:Value} (H:StR h S Lv Bv Sv bs ss t1 t3 i s g):StT h S Lv Bv Sv bs ss t1 g:=AF StT.mono (AF (A8 _ _) H)
theorem Yc {t1 t3 i:Nat} {s:Value} {Kp:KP} {I:V2->PH->Prop} {z:V2->Value->PH->Prop} (f:S.ok) (A:Snd S) (T:Zer S.L) (hi:i<S.L.n)
  (H:StR h S Lv Bv Sv bs ss t1 t3 i s g) (W:∀g' d,StR h S Lv Bv Sv bs ss t1 t3 (i+1) d g'->z (ptr t1,ptr t3) (.int .i64 ((i:Int)+1)) g') :
  U5 Kp I (ptr t1,ptr t3) z (.int .i64 i) g:=by
 have V:=f.cl;have hG:=f.g;have a:=H.st;have l:=λK=>A5 (K:=K) a.2.2 (show (rhA S.L.goods S.now Lv Bv Sv)[2]?=some Lv from rfl);have J:IntKind.i64.wrap ((i:Int)+1)=(i:Int)+1:=w64 (by omega) (by omega);have u:(i:Int)<(S.L.n:Int):=by omega
 obtain⟨b,o,q1,q2⟩:=a.1.L.el hi;have c5:=(q2 g (Sub.refl g)).1 5 (.int .i64 (S.L.f i 10)) (by omega) (by rw[C4 (Ft _) _ _ _ hi (by omega)];rfl);have c6:=(q2 g (Sub.refl g)).1 6 (.string (S.L.r i)) (by omega) (by rw[C4 (Ft _) _ _ _ hi (by omega)];rfl);unfold U5 KM eXW ivW;rw[AH,Ad,l,a.1.L.lens,AC,AB];refine⟨λ_=>?_,λe=>absurd e (by simp[u])⟩;rw[AH,Ad,l,q1,AH,c5,AH,Ad,l,q1,AH,c6];refine⟨(K7 S.L i 0).cells,by kernel_rfl,?_⟩;refine AX λt5 h5=>?_;refine AN (cs:=(K7 S.L i 0).cells) (AD _ _ _) (by rfl) (by rfl) (by rfl) ?_;rw[An];have H5:=Ar (o:=.cells (K7 S.L i 0).cells 165 (0,0)) h5 H
 refine AL (λm d g=>∃k:Nat,d = .int .i64 k/\m=S.G+1-k/\k<=S.G+1/\(pt t5 (.cells (K7 S.L i k).cells 165 (0,0))•StR h S Lv Bv Sv bs ss t1 t3 i s) g) (S.G+1)
  ⟨0,rfl,rfl,by omega,H5⟩ ?_
 rintro m d g ⟨k,rfl,em,hkn,Hg⟩
 by_cases x:k<=S.G
 ·exact eL f A hi x (A8 _ _) (λq U=>StR.st U) Hg λg' H'=>⟨rfl,S.G+1-(k+1),by omega,k+1,rfl,rfl,by omega,H'⟩
 ·have e:k=S.G+1:=by omega
  subst e;have a:=StR.st (AF (A8 _ _) Hg);unfold U4 KX ivW;have w:¬((S.G+1:Nat):Int)<=S.L.goods:=by omega
  have G:=λK=>A5 (K:=K) a.2.2 (show (rhA S.L.goods S.now Lv Bv Sv)[0]?=some (.int .i64 S.L.goods)from rfl);rw[AH,Ad,G,EI,AB];refine⟨λe=>absurd e (by rw[CF];exact w),λ_=>?_⟩;intro r D;simp only[Prod.mk.injEq]at D;obtain⟨O,N,M,L⟩:=D;simp only[O,N,M,L,AH,Ad];rw[Zf f A T hi]at Hg;unfold StR at Hg;have e1:∀P X Y Z:PH->Prop,P•X•Y•Z=Y•X•Z•P:=λ_ _ _ _=>by ac_rfl
  have e2:∀P X Y Z:PH->Prop,P•X•Y•Z=X•Y•Z•P:=λ_ _ _ _=>by ac_rfl
  have c:=Hg;rw[e1]at c;rw[A5 (AM c) (v:=s) rfl,AI (AM Hg) (off:=0) (n:=12) (by show 0+12<=12;omega),show (rOf S.L i).cells.extract 0 (0+12)=(rOf S.L i).cells from rfl];refine⟨by omega,?_⟩;rw[e2]at Hg;refine jP Hg (by omega) λg6 y j=>?_;have E:∀X Y Z:PH->Prop,X•Y•Z=Y•X•Z:=λ_ _ _=>by ac_rfl
  have Q:=BL (AJ OS.mono j);rw[E]at j;rw[Aw (AM j) (by show 1<2;omega) Q];have F:=Bb (p:=.cells #[.int .i64 S.L.goods,y] 163 (0,0)) j;rw[AG,J];refine W _ y ?_;rw[E]at F;unfold StR;rw[Fa];exact AU F (λ_ h=>h) λ_ h=>AU h (λ_ h=>h) λ_ h=>AJ StT.mono h
end
def Gs (l:List Int):ByteArray:=⟨(C9 l).toArray⟩
theorem mU (v:Int):(⟨(Br v.toNat).toArray⟩:ByteArray)=Gs [v]:=by unfold Gs;simp[C9]
theorem Zt (a b:List Int):Gs a++Gs b=Gs (a++b):=by
 unfold Gs;apply ByteArray.ext;rw[ByteArray.data_append,bK];simp
theorem QS (a:List Int):(Gs a).size=(C9 a).length:=by simp[Gs,ByteArray.size]
def KB (l:List Int):Prop:=∀x∈l,0<=x/\x<=9007199254740992
theorem KB.app {a b:List Int} (e:KB a) (d:KB b):KB (a++b):=λx c=>by
 rcases List.mem_append.1 c with h | h
 ·exact e x h
 ·exact d x h
theorem KB.one {v:Int} (h:0<=v/\v<=9007199254740992):KB [v]:=λx a=>by simp at a;rw[a];exact h
theorem Fy {t:TypeId} {a b:List Int} {K:Value->Prop} (d:KB a) (c:KB b) (e:a.length+b.length<=100000):A6 Tryz.prog .add t (.string (Gs a)) (.string (Gs b)) K↔K (.string (Gs (a++b))):=by
 have g:=Ge d;have f:=Ge c;rw[Dg _ _ _ (by rw[QS,QS];omega),Zt]
section
variable {h g:PH} {R:RT} {B:Bk} {bv:Value}
theorem GV {v:Int} (a:0<=v/\v<=9007199254740992) (b:R (.ret (.string (Gs [v]))) h):A7 Tryz.prog 47 #[.int .i64 v] h R:=
 DH a.1 (by omega) (by rw[mU];exact b)
theorem jI (B:Bk):bkB B=Gs (DX B B.l.length):=rfl
theorem Tt {i t1:Nat} {o:Ord} {Kp:KP} {x0:Value->PH->Prop} {I:Value->V2->PH->Prop} (H:BG g bv 6 B.l.length (ordsC B.l)) (C:B.ok) (k1:g t1=some (.cells (rbA bv B.next) 110 (0,0))) (A:B.l[i]?=some o)
  (X:∀g',Sub g g'->I (ptr t1) (.string (Gs (DX B (i+1))),.int .i64 ((i:Int)+1)) g'):Tx Kp x0 (ptr t1) I (.string (Gs (DX B i)),.int .i64 i) g:=by
 have hin:=(Bc.1 A).1;have hlen:=C.len;unfold Tx fN CO ivW;have W:(i:Int)<(B.l.length:Int):=by omega
 have l0:∀K,A0 none (.pointer (some ⟨t1,0,none⟩)) g K↔K bv:=λK=>A5 k1 rfl;simp only[AH,Ad,l0,H.lens,AC,W,B6,AB];refine nT ?_;obtain⟨b,off,q1,q2⟩:=EV H A;rw[q1,(q2 g (Sub.refl g)).2];refine AX λt5 h5=>?_;refine AN (cs:=o.a) (AD _ _ _) (by rfl) (by rfl) (by rfl) ?_;rw[An];have U:Sub g (ins g t5 (.cells o.a 78 (0,0))):=AT _ h5;have l:ins g t5 (.cells o.a 78 (0,0)) t5=some (.cells o.a 78 (0,0)):=AD _ _ _;revert U l;generalize ins g t5 (.cells o.a 78 (0,0))=G;intro U l;have z0:=λK=>A5 (K:=K) l (show o.a[0]?=some (.int .i64 o.id)from rfl);have r:=λK=>A5 (K:=K) l (show o.a[1]?=some (.int .i64 o.own)from rfl);have q:=λK=>A5 (K:=K) l (show o.a[2]?=some (.int .i64 o.pr)from rfl);have p:=λK=>A5 (K:=K) l (show o.a[3]?=some (.int .i64 o.am)from rfl);have n:=λK=>A5 (K:=K) l (show o.a[4]?=some (.int .i64 o.pl)from rfl);have z5:=λK=>A5 (K:=K) l (show o.a[5]?=some (.bool o.buys)from rfl);have w1:IntKind.i64.wrap ((i:Int)+1)=(i:Int)+1:=w64 (by omega) (by omega);have hi:=Am.1 (C.right o (List.mem_of_getElem? A));have hp:=C.pl o (List.mem_of_getElem? A);have hx:=C.nx;have v:KB (DX B i):=Qq C;have bl:=Iq B (k:=i) (by omega);have a:=X G U;rw[Mx A]at a;have t:KB [o.id]:=.one (by omega);have z:KB [o.own]:=.one (by omega);have V:KB [o.pr]:=.one (by omega);have Z:KB [o.am]:=.one (by omega);have n4:KB [o.pl]:=.one (by omega);have F:∀c:Int,c=0\/c=1->KB [c]:=λc D=>.one (by omega)
 have e6:∀c:Int,DX B i ++ [o.id] ++ [o.own] ++ [c] ++ [o.pr] ++ [o.am] ++ [o.pl]=DX B i ++ [o.id,o.own,c,o.pr,o.am,o.pl]:=λc=>by simp
 simp only[AH,Ad,z0,r,q,p,n,z5,AB,AG,w1]
 have m:∀c:Int,c=0\/c=1->(I (ptr t1) (.string (Gs (DX B i ++ [o.id,o.own,c,o.pr,o.am,o.pl])),.int .i64 ((i:Int)+1)) G) ->
   AA Tryz.prog 47 #[.int .i64 o.id] G (λt32 d=>(A0 none (.pointer (some ⟨t5,1,none⟩)) d λu=>Value.int .i64 o.own=u)/\(A0 none (.pointer (some ⟨t5,2,none⟩)) d λT=>Value.int .i64 o.pr=T)/\(A0 none (.pointer (some ⟨t5,3,none⟩)) d λS=>Value.int .i64 o.am=S)/\(A0 none (.pointer (some ⟨t5,4,none⟩)) d λQ=>Value.int .i64 o.pl=Q) /\
    A6 Tryz.prog .add 9 (.string (Gs (DX B i))) t32 λt33=>AA Tryz.prog 47 #[.int .i64 o.own] d (λt36 j=>(A0 none (.pointer (some ⟨t5,2,none⟩)) j λP=>Value.int .i64 o.pr=P)/\(A0 none (.pointer (some ⟨t5,3,none⟩)) j λO=>Value.int .i64 o.am=O)/\(A0 none (.pointer (some ⟨t5,4,none⟩)) j λN=>Value.int .i64 o.pl=N) /\
    A6 Tryz.prog .add 9 t33 t36 λt37=>AA Tryz.prog 47 #[.int .i64 c] j (λt39 f=>(A0 none (.pointer (some ⟨t5,2,none⟩)) f λM=>Value.int .i64 o.pr=M)/\(A0 none (.pointer (some ⟨t5,3,none⟩)) f λL=>Value.int .i64 o.am=L)/\(A0 none (.pointer (some ⟨t5,4,none⟩)) f λJ=>Value.int .i64 o.pl=J) /\
    A6 Tryz.prog .add 9 t37 t39 λt40=>AA Tryz.prog 47 #[.int .i64 o.pr] f (λt43 s=>(A0 none (.pointer (some ⟨t5,3,none⟩)) s λy=>Value.int .i64 o.am=y)/\(A0 none (.pointer (some ⟨t5,4,none⟩)) s λx=>Value.int .i64 o.pl=x) /\
    A6 Tryz.prog .add 9 t40 t43 λt44=>AA Tryz.prog 47 #[.int .i64 o.am] s (λt47 E=>(A0 none (.pointer (some ⟨t5,4,none⟩)) E λw=>Value.int .i64 o.pl=w) /\
    A6 Tryz.prog .add 9 t44 t47 λt48=>AA Tryz.prog 47 #[.int .i64 o.pl] E (λt51 Y=>A6 Tryz.prog .add 9 t48 t51 λt52=>I (ptr t1) (t52,.int .i64 ((i:Int)+1)) Y) Kp) Kp) Kp) Kp) Kp) Kp:=λc D hK=>by
  refine GV (by omega) ?_;simp only[AK.elim,r,q,p,n,true_and];rw[Fy v t (by simp;omega)];refine GV (by omega) ?_;simp only[AK.elim,r,q,p,n,true_and];rw[Fy (v.app t) z (by simp;omega)];refine GV (by omega) ?_;simp only[AK.elim,r,q,p,n,true_and];rw[Fy ((v.app t).app z) (F c D) (by simp;omega)];refine GV (by omega) ?_;simp only[AK.elim,r,q,p,n,true_and];rw[Fy (((v.app t).app z).app (F c D)) V (by simp;omega)];refine GV (by omega) ?_;simp only[AK.elim,r,q,p,n,true_and];rw[Fy ((((v.app t).app z).app (F c D)).app V) Z (by simp;omega)];refine GV (by omega) ?_;simp only[AK.elim,r,q,p,n,true_and];rw[Fy (((((v.app t).app z).app (F c D)).app V).app Z) n4 (by simp;omega),e6];exact hK
 unfold RO at a;cases hb:o.buys with
 | true=>
  rw[hb]at a;exact⟨λ_=>m 0 (.inl rfl) a,λe=>absurd e (by simp)⟩
 | false=>
  rw[hb]at a;exact⟨λe=>absurd e (by simp),λ_=>m 1 (.inr rfl) a⟩
theorem du (H:BG h bv 6 B.l.length (ordsC B.l)) (d:B.ok) (t:R (.ret (.string (bkB B))) h):A7 Tryz.prog 89 #[.agg (rbA bv B.next)] h R:=by
 refine A7.drop (nN ?_);unfold pN eXW ivW pnW;rw[show Value.cells (.agg (rbA bv B.next))=rbA bv B.next from rfl];refine Ai λt1 u _ n a=>?_;have j:=H.sub n;have s:=d.len;have z:=d.nx;have q:=λK=>A5 (K:=K) a (show (rbA bv B.next)[0]?=some bv from rfl);have v:=λK=>A5 (K:=K) a (show (rbA bv B.next)[1]?=some (.int .i64 B.next)from rfl);simp only[AH,Ad,q,v,j.lens];refine GV (by omega) ?_;simp only[AK.elim,q,true_and];refine GV (by omega) ?_;simp only[AK.elim];rw[Fy (.one (by omega)) (.one (by omega)) (by simp)];have y:[B.next] ++ [(B.l.length:Int)]=DX B 0:=by unfold DX;simp
 rw[y];rw[jI]at t;refine AL (λm p g=>∃i:Nat,p=(.string (Gs (DX B i)),.int .i64 i)/\m=B.l.length-i/\i<=B.l.length/\Sub u g) B.l.length ⟨0,rfl,rfl,by omega,Sub.refl u⟩ ?_;rintro m p g ⟨i,rfl,em,hi,hs⟩
 by_cases f:i<B.l.length
 ·obtain⟨o,x⟩:=Bp (l:=B.l) (k:=i) f
  exact Tt (j.sub hs) d (hs _ _ a) x λg' b=>⟨rfl,B.l.length-(i+1),by omega,i+1,rfl,rfl,by omega,hs.trans b⟩
 ·have e:i=B.l.length:=by omega
  subst e;unfold Tx fN CO ivW;have c:¬(B.l.length:Int)<(B.l.length:Int):=by omega
  have l0':∀K,A0 none (.pointer (some ⟨t1,0,none⟩)) g K↔K bv:=λK=>A5 (hs _ _ a) rfl;simp only[AH,Ad,l0',(j.sub hs).lens,AC,c,BW,AB];refine nF ?_;intro r w;rw[show r 3=_ from w];exact⟨h,n.trans hs,t⟩
end
section
variable {h g:PH} {R:RT} {A:Auc} {rv:Value}
theorem V1 {i t1:Nat} {w:Value} {G:PH} {Kp:KP} {E:Value->PH->Prop} {x:Value->V2->PH->Prop} (H:Dl h rv A) (f:A.ok) (J:h t1=some (raO A rv)) (hi:i<A.n) (k:OB 3 1 h (6+i*2) ((Ck A i).map iv) G w)
  (s:∀D a,OB 3 1 h (6+(i+1)*2) ((Ck A (i+1)).map iv) D a->x (ptr t1) (a,.int .i64 ((i:Int)+1)) D):Tw Kp E (ptr t1) x (w,.int .i64 i) G:=by
 have z:=f.n;have c:=k.sub
 have p:∀K,A0 (some 5) (.pointer (some ⟨t1,0,none⟩)) G K↔K (.agg (raA A rv)):=λK=>by
  rw[AI (c _ _ J) (off:=0) (n:=5) (by show 0+5<=5;omega)];rfl
 have F:IntKind.i64.wrap ((i:Int)+1)=(i:Int)+1:=w64 (by omega) (by omega);unfold Tw ivW;rw[p];refine EW (H.sub c) f λO M=>?_;have q:(i:Int)<(A.n:Int):=by omega
 simp only[AK.elim,M.lens,AC,q,B6,AB,p];refine nT ?_;refine LA (H.sub c) f hi ?_;simp only[AK.elim,p,true_and];refine EW (H.sub c) f λI v=>?_;obtain⟨b,o,q1,q2⟩:=GU v hi;simp only[AK.elim,q1,q2 G (Sub.refl G),AG,F,show (2*1<=2^24)from by omega,show (0<1)from by omega,show (0<8)from by omega,show (Array.size #[(.int .i64 0:Value)]=1)from rfl,true_and];refine⟨_,LU _ _ rfl rfl,λr y=>?_⟩
 refine Db (m:=2) (news:=[A.was i,A.now i].map iv) (k.up (AT _ y)) (by simp only[roomBytes];omega) (by omega) rfl
  (λV t=>.inr (.inr ⟨rfl,r,0,2,2,_,_,_,rfl,AD _ _ _,by simp,MN (l:=[A.was i,A.now i]),t⟩)) (λU off l S L P cap d=>?_) λQ N j=>?_
 ·cases L
  intro e
  rcases k.buf with⟨u,_⟩ | ⟨g',T,C,u,B,_⟩
  ·rw[u]at d;cases d
  ·rw[u]at d;cases d;rw[<-e,y]at B;cases B
 ·refine s _ _ ?_
  rw[show 6+(i+1)*2=6+i*2+2 by omega];simp only[Ck,List.map_append];exact j
theorem ZJ {N:List Int} {f:Value} {Kp:KP} {x2:Value->PH->Prop} (H:BG h f 1 N.length (N.map iv)) (n:KB N) (t:N.length<=10000) (s:x2 (.string (Gs N)) h) :
  lf (Qr Kp x2) f (.string ⟨#[]⟩,.int .i64 0) h:=by
 refine AL (λq l G=>∃i:Nat,l=(.string (Gs (N.take i)),.int .i64 i)/\q=N.length-i/\i<=N.length/\G=h) N.length ⟨0,rfl,rfl,by omega,rfl⟩ ?_;rintro q l G ⟨i,rfl,em,hi,rfl⟩
 by_cases d:i<N.length
 ·obtain⟨v,k⟩:∃v,N[i]?=some v:=⟨_,Bu d⟩
  have key:∀j:Value->V2->PH->Prop,j f (.string (Gs (N.take (i+1))),.int .i64 ((i:Int)+1)) G->Qr Kp x2 f j (.string (Gs (N.take i)),.int .i64 i) G:=by
   intro j c;unfold Qr ivW;have a:(i:Int)<(N.length:Int):=by omega
   have p:IntKind.i64.wrap ((i:Int)+1)=(i:Int)+1:=w64 (by omega) (by omega);obtain⟨b,o,q1,q2⟩:=H.ptr1 (i:=i) (x:=.int .i64 v) d (by rw[List.getElem?_map,k];rfl);simp only[H.lens,AC,a,B6,AB,q1,q2 G (Sub.refl G)];refine nT ?_;have m:=n v (List.mem_of_getElem? k);refine GV m ?_;simp only[AK.elim,AG,p];rw[Fy (λx r=>n x (List.mem_of_mem_take r)) (.one m) (by rw[List.length_take];simp only[List.length_cons,List.length_nil];omega)];have e:N.take (i+1)=N.take i ++ [v]:=by rw[List.take_add_one,k];rfl
   rw[e]at c;exact c
  exact key _ ⟨rfl,N.length-(i+1),by omega,i+1,rfl,rfl,by omega,rfl⟩
 ·have e:i=N.length:=by omega
  subst e;unfold Qr ivW;have a:¬(N.length:Int)<(N.length:Int):=by omega
  simp only[H.lens,AC,a,BW,AB];refine nF ?_;rw[List.take_length];exact s
theorem cV (A:Auc):Iv A=Gs (Ck A A.n):=rfl
theorem dv (H:Dl h rv A) (b:A.ok) (F:R (.ret (.string (Iv A))) h):A7 Tryz.prog 90 #[.agg (raA A rv)] h R:=by
 refine A7.drop (nM ?_);unfold pM eXW ivW pnW;rw[show Value.cells (.agg (raA A rv))=raA A rv from rfl];refine Ai λt1 t _ f a=>?_;have E:=b.n;have Hs:=H.sub f;obtain⟨k,N,e,G,w,O⟩:=H.sub f;have C:=λK=>A5 (K:=K) a (show (raA A rv)[0]?=some (.int .i64 A.sup)from rfl);have B:=λK=>A5 (K:=K) a (show (raA A rv)[1]?=some (.int .i64 A.sta)from rfl);have z:=λK=>A5 (K:=K) a (show (raA A rv)[2]?=some (.int .i64 A.stp)from rfl);have y:=λK=>A5 (K:=K) a (show (raA A rv)[3]?=some (.int .i64 A.ste)from rfl);have x:=λK=>A5 (K:=K) a (show (raA A rv)[4]?=some rv from rfl);simp only[AH,Ad,C,B,z,y,x,G.lens];rw[AI a (off:=0) (n:=5) (by show 0+5<=5;omega),show (raA A rv).extract 0 (0+5)=raA A rv from rfl];refine EW Hs b λP M=>?_;simp only[AK.elim,C,B,z,y,x,true_and,M.lens];refine⟨by omega,_,Ro _ _ _ _ _ _ rfl rfl rfl rfl rfl rfl,λq D=>?_⟩;have L:((k+1:Nat):Int)=A.rnd:=by omega
 rw[L]
 have j:OB 3 1 t (6+0*2) ((Ck A 0).map iv) (ins t q (.cells #[.int .i64 A.sup,.int .i64 A.sta,.int .i64 A.stp,.int .i64 A.rnd,.int .i64 A.ste,.int .i64 A.n] 3)) (.slice (some ⟨q,0,none⟩) 6 6):=
  ⟨AT _ D,rfl,.inr ⟨q,_,6,rfl,AD _ _ _,D,rfl,by omega,rfl⟩⟩
 refine AL (λm v g=>∃(i:Nat) (d:Value),v=(d,.int .i64 i)/\m=A.n-i/\i<=A.n/\OB 3 1 t (6+i*2) ((Ck A i).map iv) g d) A.n ⟨0,_,rfl,rfl,by omega,j⟩ ?_;rintro m v g ⟨i,d,rfl,em,hi,ob⟩
 by_cases s:i<A.n
 ·exact V1 Hs b a s ob λQ c l=>⟨rfl,A.n-(i+1),by omega,i+1,c,rfl,rfl,by omega,l⟩
 ·have e:i=A.n:=by omega
  subst e;unfold Tw ivW;rw[AI (ob.sub _ _ a) (off:=0) (n:=5) (by show 0+5<=5;omega),show (raA A rv).extract 0 (0+5)=raA A rv from rfl];refine EW (Hs.sub ob.sub) b λI u=>?_;have p:¬(A.n:Int)<(A.n:Int):=by omega
  simp only[AK.elim,u.lens,AC,p,BW,AB];refine nF ?_;intro r J;rw[show r 3=_ from J];rw[show (6+A.n*2)=(Ck A A.n).length from (EQ A A.n).symm]at ob;refine ZJ (Zr ob MN) (HA b A.n (Nat.le_refl _)) (by rw[EQ];omega) ?_;intro w o;rw[show w 5=_ from o];rw[cV]at F;exact⟨h,f.trans ob.sub,F⟩
end
section
variable {h g:PH} {R:RT} {B C:PH->Prop} {S:Hs} {Lv Bv Sv:Value} {bs ss:Nat->Value} {t:Nat}
theorem jV {s:Value} (H:OS 165 12 s S.L.n (BU (jW S.L) S.L.n) g) (r:1<=S.L.n):∃q,JO g q (.agg #[.int .i64 S.L.goods,s]) S.L:=by
 rcases H.buf with⟨_,u,_⟩ | ⟨b,c,cap,rfl,m,f,d,e⟩
 ·omega
 ·refine⟨b,c,cap,rfl,m,f,d,λi hi=>?_⟩
  have o:(i+1)*12<=S.L.n*12:=Nat.mul_le_mul_right _ (by omega);have n:S.L.n*12<=cap*12:=Nat.mul_le_mul_right _ d;apply Array.ext_getElem?;intro j;rw[Array.getElem?_extract]
  by_cases l:j<12
  ·rw[if_pos (by omega)]
   have p:c[i*12+j]?=(BU (jW S.L) S.L.n)[i*12+j]?:=by
    rw[<-e,List.getElem?_take,if_pos (by omega),Array.getElem?_toList]
   rw[p,C4 (k:=12) (λa=>rfl) _ _ _ hi l];unfold jW;rw[Array.getElem?_toList]
  ·rw[if_neg (by omega),D1 (by show 12<=j;omega)]
theorem aD {p:List UInt8} {i:Nat} {P:Prop} {K:Value->PH->Prop} (hi:i<10) (e:p.length<=100) (c:∀g',Sub g g'->K (.string (Xv p i)) g') :
  Aj 5 1 1 #[.int .u8 0] [(0,.int .u8 ((UInt8.ofNat (48+i)).toNat:Nat))] g λt81 a=>El t81 a λt82=>A6 Tryz.prog .add 9 (.string ⟨p.toArray⟩) t82 λt83=>K t83 a:=by
 refine⟨_,bC _,λb d=>?_⟩;refine .inr ⟨b,0,1,1,_,_,_,[UInt8.ofNat (48+i)],rfl,AD _ _ _,rfl,rfl,?_⟩;refine (Ic p [UInt8.ofNat (48+i)] (by simp;omega)).2 ?_;exact c _ (AT _ d)
theorem cG {t1 i:Nat} {l:List Rec} {s:Value} {j:PH} {Kp:KP} {r:V2->PH->Prop} {o:Value->V2->PH->Prop} (q:S.ok) (z:StT h S Lv Bv Sv bs ss t1 j) (hi:i<S.G) (A:l.length<=1000)
  (m:OB 42 2 j l.length (FQ l) g s)
  (x:∀g' k,OB 42 2 j (l ++ [bkR S i]).length (FQ (l ++ [bkR S i])) g' k->o (ptr t1) (k,.int .i64 ((i:Int)+1)) g') :
  PG Kp r (ptr t1) o (s,.int .i64 i) g:=by
 have D:=q.g;have f:(i:Int)<S.L.goods:=by omega
 have u:IntKind.i64.wrap ((i:Int)+1)=(i:Int)+1:=w64 (by omega) (by omega);have a:=StT.mono _ _ m.sub z;obtain⟨b,off,q1,q2⟩:=a.1.book hi;unfold PG Xy zq4 zq5 ivW;rw[AH,Ad,A5 a.2.2 (v:=.int .i64 S.L.goods) rfl,AC,AB];refine⟨λ_=>?_,λe=>absurd e (by simp[f])⟩;rw[AG,w64 (by omega) (by omega),Ct,E2 (n:=48+i) (by omega) (by omega),AH,Ad,A5 a.2.2 (v:=Bv) rfl,q1,(q2 g (Sub.refl g)).1];refine⟨.string (bkB (S.bk i)),du (a.1.b i hi) (q.bk i hi) ⟨rfl,rfl⟩,by omega,?_⟩;refine aD (p:=Tv) (P:=True) (by omega) (by simp[Tv]) λE d=>?_;refine K6 (m.up d) (by omega) λy w c=>?_;rw[AG,u];exact x y w c
theorem jL {t1 i:Nat} {l:List Rec} {s:Value} {E:PH} {Kp:KP} {J:V2->PH->Prop} {I:Value->V2->PH->Prop} (z:S.ok) (W:StT h S Lv Bv Sv bs ss t1 E) (hi:i<S.G) (X:l.length<=1000)
  (r:OB 42 2 E l.length (FQ l) g s)
  (m:∀g' H,OB 42 2 E (l++auR S i).length (FQ (l++auR S i)) g' H->I (ptr t1) (H,.int .i64 ((i:Int)+1)) g') :
  PF Kp J (ptr t1) I (s,.int .i64 i) g:=by
 have Y:=z.g;have O:=z.cl;have y:(i:Int)<S.L.goods:=by omega
 have G:IntKind.i64.wrap ((i:Int)+1)=(i:Int)+1:=w64 (by omega) (by omega);have k:=StT.mono _ _ r.sub W;obtain⟨b,off,q1,q2⟩:=k.1.sale hi;unfold PF Xy IX zq4 zq5 ivW;rw[AH,Ad,A5 k.2.2 (v:=.int .i64 S.L.goods) rfl,AC,AB];refine⟨λ_=>?_,λe=>absurd e (by simp[y])⟩;rw[AH,Ad,A5 k.2.2 (v:=Sv) rfl,q1,(q2 g (Sub.refl g)).1];refine AX λt10 D=>?_;have L:∀x∈saC ss S i,x.oneCell'=true:=L9 k.1.side hi;refine AN (cs:=(saC ss S i).toArray) (AD _ _ _) (by rfl) (by simp[Em]) (by simpa using L) ?_;rw[An];have d:Sub g (ins g t10 (.cells (saC ss S i).toArray 115 (0,0))):=AT _ D;have a:ins g t10 (.cells (saC ss S i).toArray 115 (0,0)) t10=some (.cells (saC ss S i).toArray 115 (0,0)):=AD _ _ _;revert d a;generalize ins g t10 (.cells (saC ss S i).toArray 115 (0,0))=g2;intro d a;rw[AH,Ad];cases c:S.au i with
 | none=>
  rw[RD c]at a;rw[A5 a (v:=.bool false) rfl,AB];refine nF ?_;have e:auR S i = []:=by unfold auR;rw[c]
  rw[e,List.append_nil]at m;rw[AG,G];exact m g2 s (r.up d)
 | some q=>
  obtain⟨A,w⟩:=q;obtain⟨j,T,Q,N,M⟩:=z.au i A w hi c;rw[Ug c]at a;rw[A5 a (v:=.bool true) rfl,AB];refine nT ?_;obtain⟨f,rfl⟩:∃f:Nat,w=f:=⟨w.toNat,by omega⟩;rw[AG,w64 (by omega) (by omega),Ct,E2 (n:=48+i) (by omega) (by omega),AH,Ad,A5 a (v:=.int .i64 (f:Int)) rfl];refine⟨.string ⟨(Br (f:Int).toNat).toArray⟩,DH (by omega) (by omega) ⟨rfl,rfl⟩,?_⟩;show vFA _ _ _;rw[AH,Ad,Uh a];refine⟨.string (Iv A),dv ((k.1.a i A f hi c).sub d) j ⟨rfl,rfl⟩,?_⟩;show A6 _ _ _ _ _ _;have l1':=Cs (n:=f) (by omega)
  have l2':(C9 (Ck A A.n)).length<=1000:=by
   have h1:=Ge (HA j A.n (Nat.le_refl _));have h2:=EQ A A.n;have Z:=j.n;omega
  have V:(Iv A).data.toList=C9 (Ck A A.n):=by simp[Iv]
  have F:Iv A=⟨(Iv A).data.toList.toArray⟩:=by simp[Iv]
  rw[BR,F,Ic _ _ (by rw[V];omega)];refine⟨by omega,?_⟩;refine aD (p:=Kf) (P:=True) (by omega) (by simp[Kf]) λg3 u=>?_;refine K6 ((r.up d).up u) (by omega) λU K o=>?_;rw[AG,G];have e:auR S i = [(Xv Kf i,⟨(Br f++(Iv A).data.toList).toArray⟩)]:=by simp[auR,c]
  rw[e]at m;exact m U K o
end
section
variable {h g:PH} {R:RT} {B C:PH->Prop} {S:Hs} {Lv Bv Sv:Value} {bs ss:Nat->Value} {t:Nat}
theorem RE (H:RHp h S Lv Bv Sv bs ss) (f:S.ok) (T:Snd S) (Q:Zer S.L) (K:∀g s,OB 42 2 h (Im S).length (FQ (Im S)) g s->R (.ret s) g) :
  A7 Tryz.prog 48 #[.agg (rhA S.L.goods S.now Lv Bv Sv)] h R:=by
 refine oG ?_;unfold qG X5 zq4 zq5 eXW ivW pnW;rw[show Value.cells (.agg (rhA S.L.goods S.now Lv Bv Sv))=rhA S.L.goods S.now Lv Bv Sv from rfl];refine Ai λt1 L _ G I=>?_;have hG:=f.g;have A:=f.cl;have E:StT h S Lv Bv Sv bs ss t1 L:=⟨H.sub G,G,I⟩;rw[AH,Ad,A5 I (v:=.int .i64 S.L.goods) rfl];refine⟨#[.int .i64 S.L.goods,.slice none 0 0],by kernel_rfl,?_⟩;refine AX λt3 Y=>?_;refine AN (cs:=#[.int .i64 S.L.goods,.slice none 0 0]) (AD _ _ _) (by rfl) (by rfl) (by rfl) ?_;rw[An]
 have H3:StR h S Lv Bv Sv bs ss t1 t3 0 (.slice none 0 0) (ins L t3 (.cells #[.int .i64 S.L.goods,.slice none 0 0] 163 (0,0))):=
  D0 (Ar (o:=.cells #[.int .i64 S.L.goods,.slice none 0 0] 163 (0,0)) Y E) ⟨Sub.refl _,rfl,.inl ⟨rfl,rfl,rfl⟩⟩
 refine AL (λm d g=>∃(k:Nat) (s:Value),d = .int .i64 k/\m=S.L.n-k/\k<=S.L.n/\StR h S Lv Bv Sv bs ss t1 t3 k s g) S.L.n
  ⟨0,_,rfl,rfl,by omega,H3⟩ ?_
 rintro m d g ⟨k,s,rfl,em,hkn,Hg⟩
 by_cases c:k<S.L.n
 ·exact Yc f T Q c Hg λg' d H'=>⟨rfl,S.L.n-(k+1),by omega,k+1,d,rfl,rfl,by omega,H'⟩
 have e:k=S.L.n:=by omega
 subst e;have j:=Hg.st;unfold U5 KM eXW ivW;have b:¬(S.L.n:Int)<(S.L.n:Int):=by omega
 rw[AH,Ad,A5 j.2.2 (v:=Lv) rfl,j.1.L.lens,AC,AB];refine⟨λe=>absurd e (by rw[CF];exact b),λ_=>?_⟩;intro r w;simp only[Prod.mk.injEq]at w;obtain⟨y,N⟩:=w;simp only[y,N];have P:=AM (AF (A8 _ _) Hg);rw[AI P (off:=0) (n:=2) (by show 0+2<=2;omega),show (#[.int .i64 S.L.goods,s]:Array Value).extract 0 (0+2)=#[.int .i64 S.L.goods,s]from rfl];obtain⟨q,U⟩:=jV (AJ OS.mono Hg) f.n1;refine Sn U f.led λZ F z=>?_;simp only[AK.elim];have p:=j.2.1
 have ob1':OB 42 2 g (Fc S.L S.L.n).length (FQ (Fc S.L S.L.n)) Z F:=by
  rw[Gp,<-O8];exact z
 have X:(Fc S.L S.L.n).length<=16:=by rw[Gp];exact A
 unfold Im at K;generalize Fc S.L S.L.n=l0 at *
 refine AL (λm d g'=>∃(i:Nat) (s:Value),d=(s,.int .i64 i)/\m=S.G-i/\i<=S.G/\OB 42 2 g (l0++(List.range i).map (bkR S)).length (FQ (l0++(List.range i).map (bkR S))) g' s) S.G
  ⟨0,F,rfl,rfl,by omega,by simpa using ob1'⟩ ?_
 rintro m d g' ⟨i,s,rfl,rfl,hi,ob⟩
 by_cases c:i<S.G
 ·refine cG f j c (by simp;omega) ob λD l a=>?_
  refine⟨rfl,S.G-(i+1),by omega,i+1,l,rfl,rfl,by omega,?_⟩;rw[List.range_succ,List.map_append,<-List.append_assoc];exact a
 have e:i=S.G:=by omega
 subst e;have Sg':=StT.mono _ _ ob.sub j;unfold PG Xy zq4 zq5 ivW;have b:¬(S.G:Int)<S.L.goods:=by omega
 rw[AH,Ad,A5 Sg'.2.2 (v:=.int .i64 S.L.goods) rfl,AC,AB];refine⟨λe=>absurd e (by rw[CF];exact b),λ_=>?_⟩;intro r w;simp only[Prod.mk.injEq]at w;obtain⟨y,M⟩:=w;simp only[y,M];have W:(l0++(List.range S.G).map (bkR S)).length<=20:=by simp;omega
 generalize l0++(List.range S.G).map (bkR S)=l1 at *
 refine AL (λm d g'=>∃(i:Nat) (s:Value),d=(s,.int .i64 i)/\m=S.G-i/\i<=S.G/\OB 42 2 g (l1++Hu S i).length (FQ (l1++Hu S i)) g' s) S.G
  ⟨0,s,rfl,rfl,by omega,by simpa [Hu]using ob⟩ ?_
 clear ob;rintro m d g' ⟨i,s,rfl,rfl,hi,ob⟩;have V:=Lu S i
 by_cases c:i<S.G
 ·refine jL f j c (by simp;omega) ob λD l a=>?_
  refine⟨rfl,S.G-(i+1),by omega,i+1,l,rfl,rfl,by omega,?_⟩;have:Hu S (i+1)=Hu S i++auR S i:=rfl;rw[this,<-List.append_assoc];exact a
 have e:i=S.G:=by omega
 subst e;have x:=StT.mono _ _ ob.sub j;unfold PF Xy IX zq4 zq5 ivW;have b:¬(S.G:Int)<S.L.goods:=by omega
 rw[AH,Ad,A5 x.2.2 (v:=.int .i64 S.L.goods) rfl,AC,AB];refine⟨λe=>absurd e (by rw[CF];exact b),λ_=>?_⟩;intro r2 u;simp only[Prod.mk.injEq]at u;obtain⟨q1,O⟩:=u;simp only[q1,O];have J:=f.now;rw[AH,Ad,A5 x.2.2 (v:=.int .i64 S.now) rfl];refine⟨.string ⟨(Br S.now.toNat).toArray⟩,DH (by omega) (by omega) ⟨rfl,rfl⟩,?_⟩;exact K6 ob (by simp;omega) λD l a=>K D l (a.base p)
end
set_option maxRecDepth 100000 in
theorem jU {K:Value->Prop} (L:Led) (i:Nat):A6 Tryz.prog .neq 61 (.agg (AW L i)) (.agg (AW L i)) K↔K (.bool false):=by
 refine Km λx y w=>?_;have j:=Tryz.underlying3;have m:=Tryz.isAgg3;have g:=Tryz.sizeOf3;have f:=Tryz.isAgg59;have b:=Tryz.sizeOf59;have e:Tryz.prog.underlying 61=some (.struct (Tryz.prog.fieldsOf 61)):=by kernel_rfl
 have c:Tryz.prog.stoodInHeld 61=false:=by kernel_rfl
 have a:=run_eqGuard_agg (P:=Tryz.prog) w .neq 61 x y (AW L i) (AW L i) (by kernel_rfl);have l:(AW L i)[0]?=some (.int .i64 (L.f i 0)):=rfl;have k:(AW L i)[1]?=some (.int .i64 (L.f i 1)):=rfl;have h:(AW L i).extract 2 (2+4)=#[.int .i64 (L.f i 2),.int .i64 (L.f i 3),.int .i64 (L.f i 4),.int .i64 (L.f i 5)]:=rfl;have x2:(AW L i).extract 6 (6+4)=#[.int .i64 (L.f i 6),.int .i64 (L.f i 7),.int .i64 (L.f i 8),.int .i64 (L.f i 9)]:=rfl;have q4:=rD 9997
 have d:(Op.equalIn 10000 61 (.agg (AW L i)) (.agg (AW L i))).run Tryz.prog w = .ok true w:=by
  rw[show (10000:Nat)=9999+1 from rfl,run_equalIn_agg w 9999 61 _ _ e c];simp only[Program.fieldsOf,Tryz.underlying61];clear a
  go_simp
 rw[Sem.run_bind,a];show (binOp .neq 61 _ _).run Tryz.prog w=_;rw[run_neq_struct,d]
 rfl
def auT (S:Hs) (i:Nat):ByteArray:=match S.au i with
 | some p=>Iv p.1
 | none=>⟨#[]⟩
section
variable {h g:PH} {R:RT} {x:Nat} {nm:Nm} {S:Hs} {C:PH->Prop} {i:Nat}
theorem Y9 (H:HsN x nm S h) (B:nm.ok S) (m:S.ok) (hi:i<S.G) (c:R (.ret (.tuple #[.string (auT S i),.int .i64 (CV S i),.bool (S.au i).isSome])) h):A7 Tryz.prog 24 #[ptr x,.int .i64 i] h R:=by
 refine od ?_;unfold qY gAW gGW ivW pnW;have F:=H.f;have D:=m.g;have z:¬(i:Int)<0:=by omega
 have y:decide ((i:Int)>=S.L.goods)=false:=decide_eq_false (by omega);have o:=λK=>A5 (K:=K) F.hx (show (GD nm S)[2]?=some (.int .i64 S.L.goods)from rfl);have l:=λK=>A5 (K:=K) F.hx (show (GD nm S)[5]?=some (.slice (some ⟨nm.ss,0,none⟩) S.G S.G)from rfl)
 have p:∀K,AR 2 (.slice (some ⟨nm.ss,0,none⟩) S.G S.G) (.int .i64 i) K↔K (.pointer (some ⟨nm.ss,i*2,none⟩)):=λK=>by
  rw[B9,show 0+(i:Int).toNat*2=i*2 by omega];exact⟨λa=>a.2.2,λa=>⟨by omega,by omega,a⟩⟩
 have n:=λK=>A5 (K:=K) F.hs (RC (nm:=nm) hi);have k:=λK=>A5 (K:=K) F.hs (W5 (nm:=nm) hi);rw[As Tryz.underlying28];simp only[AZ,C7,CI,C1,and_true,true_and,ne_eq,Bx,AC,z,BW,Al,cond_false,BO,AH,Ad,Nat.add_zero,o,By,y,l,p,n];cases b:S.au i with
 | none=>
  have f:Bg nm S i = .pointer none:=by unfold Bg;rw[b]
  have t:CV S i=0:=by unfold CV;rw[b]
  have d:auT S i=⟨#[]⟩:=by unfold auT;rw[b]
  rw[t,d,b]at c;rw[f,M4 Tryz.underlying96,AB];exact⟨λ_=>c,λe=>absurd e (by simp)⟩
 | some q=>
  obtain⟨A,w⟩:=q;obtain⟨j,v,u,s,r⟩:=m.au i A w hi b;have f:Bg nm S i=ptr (nm.aa i):=by unfold Bg;rw[b]
  have d:auT S i=Iv A:=by unfold auT;rw[b]
  rw[d,b]at c;rw[f,As Tryz.underlying96,AB];refine nF ?_;rw[k];refine Mw (F.au i (A,w) hi b) j ?_;simp only[AK.elim,l,k,true_and];exact c
theorem WI {v:Value} {l:List Ord} {i:Nat} {o:Ord} {K:Value->Prop} (H:BG h v 6 l.length (ordsC l)) (a:l[i]?=some o) (d:K o.v):AR 6 v (.int .i64 i) λp=>A0 (some 6) p h K:=by
 have hi:i<l.length:=(Bc.1 a).1;obtain⟨b,off,q1,q2⟩:=H.el hi;rw[q1];have:=(q2 h (Sub.refl h)).2 0 6 (by omega) K;rw[Nat.add_zero,Nat.add_zero]at this;rw[this]
 have e:((ordsC l).drop (i*6)).take 6=o.a.toList:=by
  apply List.ext_getElem?;intro j;rw[List.getElem?_take]
  split
  ·rename_i c
   rw[List.getElem?_drop,Ex l i o a j c];rfl
  ·rename_i c
   rw[List.getElem?_eq_none (by show 6<=j;omega)]
 rw[e];exact d
theorem XN {v b:Value} {l:List Ord} (p:BG h v 6 l.length (ordsC l)) (n:BG h b 6 l.length (ordsC l)) (t:l.length<=1000) (s:R (.ret (.bool true)) h):A7 Tryz.prog 29 #[v,b] h R:=by
 refine oY ?_;unfold qV eXW ivW pnW;have c:∀K:Value->Prop,Ap v K↔K (.int .i64 l.length):=λK=>p.lens;have q:∀K:Value->Prop,Ap b K↔K (.int .i64 l.length):=λK=>n.lens;simp only[c,q,BB,B6,Bool.not_true,AB];refine nF ?_;refine AL (λm f g'=>∃i:Nat,f=(.bool false,.int .i64 i)/\m=l.length-i/\i<=l.length/\g'=h) l.length ⟨0,rfl,rfl,by omega,rfl⟩ ?_;rintro m f g' ⟨i,rfl,rfl,hi,rfl⟩;unfold cT GB ivW
 by_cases d:i<l.length
 ·obtain⟨o,j⟩:=Bp (l:=l) (k:=i) d
  have a:(i:Int)<(l.length:Int):=by omega
  simp only[c,AC,a,B6,AB];refine nT ?_;refine WI p j ?_;refine WI n j ?_;rw[eR];simp only[AB,AG];refine nF ?_;rw[w64 (by omega) (by omega)];exact⟨by trivial,l.length-(i+1),by omega,i+1,rfl,rfl,by omega,by trivial⟩
 ·have a:¬(i:Int)<(l.length:Int):=by omega
  simp only[c,AC,a,BW,AB];exact⟨λe=>absurd e (by simp),λ_ r _=>s⟩
end
section
variable {h g:PH} {R:RT} {x:Nat} {nm:Nm} {S:Hs} {C:PH->Prop} {i:Nat} {Lv Bv Sv:Value} {bs ss:Nat->Value}
def StL (h:PH) (x:Nat) (nm:Nm) (S:Hs) (Lv Bv Sv:Value) (bs ss:Nat->Value) (t3:Nat):PH->Prop:=λq=>HsN x nm S q/\StT h S Lv Bv Sv bs ss t3 q
theorem StL.mono {t3:Nat}:C3 (StL h x nm S Lv Bv Sv bs ss t3):=B3 HsN.mono StT.mono
theorem Xs {t3 i:Nat} {Kp:KP} {m l:V3->PH->Prop} {j:V2->V2->PH->Prop} (k:S.ok) (r:Snd S) (q:Zer S.L) (hi:i<S.L.n)
  (H:StL h x nm S Lv Bv Sv bs ss t3 g) (t:∀g',StL h x nm S Lv Bv Sv bs ss t3 g'->j (ptr x,ptr t3) (.bool false,.int .i64 ((i:Int)+1)) g') :
  U9 Kp m l (ptr x,ptr t3) j (.bool false,.int .i64 i) g:=by
 have s:=k.cl;have d:(i:Int)<(S.L.n:Int):=by omega
 have n:IntKind.i64.wrap ((i:Int)+1)=(i:Int)+1:=w64 (by omega) (by omega);have e:∀{g},StL h x nm S Lv Bv Sv bs ss t3 g->∀K,A0 none (.pointer (some ⟨t3,2,none⟩)) g K↔K Lv:=λH K=>A5 H.2.2.2 rfl;unfold U9 GB zq2 gAW gGW ivW;simp only[AH,Ad,e H,H.2.1.L.lens,AC,d,B6,AB];refine nT ?_;refine MS H.1 hi ?_;simp only[AK.elim,Av,Au];refine AX λt6 u=>?_;refine AN (cs:=AW S.L i) (AD _ _ _) (by rfl) (by rfl) (by rfl) ?_;rw[An];have a:=StL.mono _ _ (AT (.cells (AW S.L i) 61 (0,0)) u) H;have c:=AD g t6 (.cells (AW S.L i) 61 (0,0));revert a c;generalize ins g t6 (.cells (AW S.L i) 61 (0,0))=g2;intro a c;refine mz a.1 hi ?_;have f:∀K:Value->Prop,A0 (some 10) (.pointer (some ⟨t6,0,none⟩)) g2 K↔K (.agg (AW S.L i)):=λK=>by rw[AI c (by show 0+10<=10;omega)];rfl
 have p:=λK=>a.2.l1 K;simp only[AK.elim,Av,Au,Bm,Bool.not_true,AZ,C7,NB,ne_eq,Bx,forall_const,C1,and_true,f,p];refine T0 a.2.1 k r q hi ?_;obtain⟨b,o,q1,q2⟩:=a.2.1.L.el hi;have w:=(q2 g2 (Sub.refl g2)).1 5 (.int .i64 (S.L.f i 10)) (by omega) (by rw[C4 (Ft _) _ _ _ hi (by omega)];rfl);have v:=(q2 g2 (Sub.refl g2)).1 6 (.string (S.L.r i)) (by omega) (by rw[C4 (Ft _) _ _ _ hi (by omega)];rfl);simp only[AK.elim,f,jU,Al,cond_false,AZ,C7,NB,ne_eq,Bx,forall_const,C1,and_true,true_and,AH,Ad,e a,q1,w,v,BB,Py,B6,Bool.not_true,AB,Ba,AG,n];exact t g2 a
theorem Xr {t3 i:Nat} {Kp:KP} {x2 G:Value->PH->Prop} {z:V2->V2->PH->Prop} (B:nm.ok S) (f:S.ok) (hi:i<S.G)
  (H:StL h x nm S Lv Bv Sv bs ss t3 g) (E:∀g',StL h x nm S Lv Bv Sv bs ss t3 g'->z (ptr x,ptr t3) (.bool false,.int .i64 ((i:Int)+1)) g') :
  PJ Kp x2 G (ptr x,ptr t3) z (.bool false,.int .i64 i) g:=by
 have M:=f.g;have m:(i:Int)<S.L.goods:=by omega
 have t:IntKind.i64.wrap ((i:Int)+1)=(i:Int)+1:=w64 (by omega) (by omega);have F:∀{g},StL h x nm S Lv Bv Sv bs ss t3 g->∀K,A0 none (.pointer (some ⟨t3,0,none⟩)) g K↔K (.int .i64 S.L.goods):=λH K=>A5 H.2.2.2 rfl;have r:∀{g},StL h x nm S Lv Bv Sv bs ss t3 g->∀K,A0 none (.pointer (some ⟨t3,3,none⟩)) g K↔K Bv:=λH K=>A5 H.2.2.2 rfl;have p:∀{g},StL h x nm S Lv Bv Sv bs ss t3 g->∀K,A0 none (.pointer (some ⟨t3,4,none⟩)) g K↔K Sv:=λH K=>A5 H.2.2.2 rfl;unfold PJ GB gAW gGW ivW;simp only[AH,Ad,F H,AC,m,B6,AB];refine nT ?_;refine Y9 H.1 B f hi ?_;obtain⟨b,off,q1,q2⟩:=H.2.1.book hi;simp only[AK.elim,Ek,Ej,Ei,r H,q1,AH,Nat.add_zero,(q2 g (Sub.refl g)).2];refine af H.1 B f hi λa s k=>?_;have d:=StL.mono _ _ k.sub H;have D:=(f.bk i hi).len;simp only[AK.elim,r d,(q2 a k.sub).2,true_and];refine XN (l:=(S.bk i).l) (Zr k λv I=>Cy v I) (d.2.1.b i hi) (by omega) ?_;obtain⟨b2,e,y,u⟩:=d.2.1.A.el hi
 have j:∀K,A0 none (.pointer (some ⟨b2,e,none⟩)) a K↔K (.bool (S.au i).isSome):=by
  refine (u a (Sub.refl a)).1 0 (.bool (S.au i).isSome) (by omega) ?_;rw[C4 (Em ss S) _ _ _ hi (by omega)];unfold saC;cases S.au i <;> rfl
 cases c:S.au i with
 | none=>
  rw[c]at j;have c0':∀K,A0 none (.pointer (some ⟨b2,e,none⟩)) a K↔K (.bool false):=j;have o:(none:Option (Auc×Int)).isSome=false:=rfl;have n:(!(false==false))=false:=rfl;simp only[AK.elim,o,n,Bm,Bool.not_true,AZ,C7,NB,ne_eq,Bx,CJ,forall_const,CI,C1,and_true,true_and,AH,Ad,Nat.add_zero,p d,y,c0',Kn Tryz.underlying4,Al,cond_false,Ba,AB,AG,t];exact E a d
 | some q=>
  obtain⟨A,w⟩:=q;have J:CV S i=w:=by unfold CV;rw[c]
  rw[c]at j;have c0':∀K,A0 none (.pointer (some ⟨b2,e,none⟩)) a K↔K (.bool true):=j
  have L:∀K,A0 none (.pointer (some ⟨b2,e+1,none⟩)) a K↔K (.int .i64 w):=by
   refine (u a (Sub.refl a)).1 1 (.int .i64 w) (by omega) ?_;rw[C4 (Em ss S) _ _ _ hi (by omega)];unfold saC;rw[c];rfl
  have o:(some (A,w):Option (Auc×Int)).isSome=true:=rfl;have n:(!(true==true))=false:=rfl;simp only[AK.elim,o,n,J,Bm,Bool.not_true,AZ,C7,NB,ne_eq,Bx,CJ,forall_const,CI,C1,and_true,true_and,AH,Ad,Nat.add_zero,p d,y,c0',L,Kn Tryz.underlying4,BB,B6,Al,cond_false,cond_true,Ba,AB,AG,t];exact E a d
end
section
variable {h g:PH} {R:RT} {x:Nat} {nm:Nm} {S:Hs} {C:PH->Prop} {i:Nat} {Lv Bv Sv:Value} {bs ss:Nat->Value}
theorem Y3 (a:S.ok):(Im S).length<=30:=by
 have b:=a.cl;have c:=a.g;have d:=Lu S S.G;unfold Im;simp only[List.length_append,List.length_map,List.length_range,Gp,List.length_cons,List.length_nil];omega
theorem aV (L:HsN x nm S h) (H:RHp h S Lv Bv Sv bs ss) (A:nm.ok S) (c:S.ok) (z:Snd S) (y:Zer S.L) (J:R (.ret (.bool true)) h) :
  A7 Tryz.prog 22 #[ptr x,.agg (rhA S.L.goods S.now Lv Bv Sv)] h R:=by
 refine A7.drop (og ?_);unfold qa eXW gAW gGW ivW pnW;rw[show Value.cells (.agg (rhA S.L.goods S.now Lv Bv Sv))=rhA S.L.goods S.now Lv Bv Sv from rfl];refine Ai λt3 B _ n w=>?_;have Q:=c.g;have I:=c.cl;have l:StL h x nm S Lv Bv Sv bs ss t3 B:=⟨HsN.mono _ _ n L,H.sub n,n,w⟩;have u:∀K,A0 none (.pointer (some ⟨t3,1,none⟩)) B K↔K (.int .i64 S.now):=λK=>A5 w rfl;have G:=λK=>l.2.l1 K;rw[AH,Ad,u];refine lg l.1 ?_;simp only[AK.elim,u,true_and,BB,B6,Bool.not_true,AZ,C7,NB,ne_eq,Bx,forall_const,C1,and_true,G];refine Y7 l.1 A c λU O d=>?_;have s:=StL.mono _ _ d.sub l;have o:=λK=>s.2.l1 K;simp only[AK.elim,o,true_and];refine RE s.2.1 c z y λT N a=>?_;have M:=StL.mono _ _ a.sub s;have P:=Y3 c;simp only[AK.elim];refine ZE (WA (d.up a.sub)) (WA a) (by omega) (λ_=>?_) λe=>absurd rfl e;simp only[AK.elim,Bm,Bool.not_true,Al,cond_false,AB];refine nF ?_
 refine AL (λm j g=>∃k:Nat,j=(.bool false,.int .i64 k)/\m=S.L.n-k/\k<=S.L.n/\StL h x nm S Lv Bv Sv bs ss t3 g) S.L.n
  ⟨0,rfl,rfl,by omega,M⟩ ?_
 rintro m j g ⟨k,rfl,em,hkn,Hg⟩
 by_cases q:k<S.L.n
 ·exact Xs c z y q Hg λg' t=>⟨rfl,S.L.n-(k+1),by omega,k+1,rfl,rfl,by omega,t⟩
 have e:k=S.L.n:=by omega
 subst e;unfold U9 GB zq2 gAW gGW ivW;have b:¬(S.L.n:Int)<(S.L.n:Int):=by omega
 rw[AH,Ad,A5 Hg.2.2.2 (v:=Lv) rfl,Hg.2.1.L.lens,AC,AB];refine⟨λe=>absurd e (by rw[CF];exact b),λ_=>?_⟩;intro r p;simp only[Prod.mk.injEq]at p;obtain⟨F,E,D⟩:=p;simp only[F,E,D]
 refine AL (λm j g=>∃k:Nat,j=(.bool false,.int .i64 k)/\m=S.G-k/\k<=S.G/\StL h x nm S Lv Bv Sv bs ss t3 g) S.G
  ⟨0,rfl,rfl,by omega,Hg⟩ ?_
 rintro m2 s2' g' ⟨i,rfl,em2,hkn2,Hg'⟩
 by_cases f:i<S.G
 ·exact Xr A c f Hg' λg' t=>⟨rfl,S.G-(i+1),by omega,i+1,rfl,rfl,by omega,t⟩
 have e:i=S.G:=by omega
 subst e;unfold PJ GB gAW gGW ivW;have b:¬(S.G:Int)<S.L.goods:=by omega
 rw[AH,Ad,A5 Hg'.2.2.2 (v:=.int .i64 S.L.goods) rfl,AC,AB];refine⟨λe=>absurd e (by rw[CF];exact b),λ_=>?_⟩;intro r p;exact⟨h,Hg'.2.2.1,J⟩
end
section
variable {h g:PH} {R:RT} {B C:PH->Prop} {S:Hs} {Lv Bv Sv:Value} {t:Nat}
theorem cW {e:TypeId} {z cs:Array Value} {esz bytes n:Nat} {l:List Value} {s:Value} {D A y:Prop} {K:Value->PH->Prop} (H:(OS e esz s n l•C) g) (M:Instr.fill (λi=>some (i*esz,esz)) (rep z (1*esz)) [(0,.agg cs)]=some cs) (c:cs.size=esz) (b:cs.toList.all Value.oneCell'=true)
  (J:(n+1)*bytes<=roomBytes) (I:D) (G:A) (F:y) (L:∀g' o,(OS e esz o (n+1) (l++cs.toList)•C) g'->K o g') :
  Aj e esz 1 z [(0,.agg cs)] g λt b=>D/\A/\y/\Ab false e esz bytes s t b K:=by
 refine⟨_,M,λd r=>⟨I,G,F,?_⟩⟩;obtain⟨h0,N,q⟩:=Iw H;have v:List.take (1*esz) (List.drop 0 cs.toList)=cs.toList:=by rw[List.drop_zero,List.take_of_length_le (by rw[Array.length_toList];omega)]
 refine Db (m:=1) (news:=cs.toList) (q.up (AT _ r)) J (by omega) (by rw[Array.length_toList,c,Nat.one_mul])
  (λW k=>.inr (.inr ⟨rfl,d,0,1,1,_,_,_,rfl,AD _ _ _,by rw[c];omega,λx f=>?_,?_⟩)) (λV p P T f Q cap a=>?_) λO E j=>L O E (D0 N j)
 ·rw[List.all_eq_true]at b
  rw[v]at f;exact b x f
 ·rw[v];exact k
 ·cases f
  intro e
  rcases q.buf with⟨b,_⟩ | ⟨g',U,w,b,u,_⟩
  ·rw[b]at a;cases a
  ·rw[b]at a;cases a;rw[<-e,r]at u;cases u
def clN:Nat->List Value:=λ_=>[.int .i64 0,.int .i64 0,.int .i64 0,.int .i64 0,.int .i64 0,.int .i64 0,.string ⟨#[]⟩]
def bkN:Nat->List Value:=λ_=>[.slice none 0 0,.int .i64 1]
def saN:Nat->List Value:=λ_=>[.bool false,.int .i64 0,.int .i64 0,.int .i64 0,.int .i64 0,.int .i64 0,.slice none 0 0]
theorem ft:Instr.fill (λi=>some (i*7,7)) (rep #[Value.int .i64 0,.int .i64 0,.int .i64 0,.int .i64 0,.int .i64 0,.int .i64 0,.string ⟨#[]⟩] (1*7)) [(0,.agg #[Value.int .i64 0,.int .i64 0,.int .i64 0,.int .i64 0,.int .i64 0,.int .i64 0,.string ⟨#[]⟩])]=some #[Value.int .i64 0,.int .i64 0,.int .i64 0,.int .i64 0,.int .i64 0,.int .i64 0,.string ⟨#[]⟩]:=by kernel_rfl
theorem fv:Instr.fill (λi=>some (i*2,2)) (rep #[Value.slice none 0 0,.int .i64 0] (1*2)) [(0,.agg #[Value.slice none 0 0,.int .i64 1])]=some #[Value.slice none 0 0,.int .i64 1]:=by kernel_rfl
theorem fq:Instr.fill (λi=>some (i*7,7)) (rep #[Value.bool false,.int .i64 0,.int .i64 0,.int .i64 0,.int .i64 0,.int .i64 0,.slice none 0 0] (1*7)) [(0,.agg #[Value.bool false,.int .i64 0,.int .i64 0,.int .i64 0,.int .i64 0,.int .i64 0,.slice none 0 0])]=some #[Value.bool false,.int .i64 0,.int .i64 0,.int .i64 0,.int .i64 0,.int .i64 0,.slice none 0 0]:=by kernel_rfl
theorem ay:Instr.fill (λi=>[(0,5),(5,1),(6,1)][i]?) #[Value.int .i64 0,.int .i64 0,.int .i64 0,.int .i64 0,.int .i64 0,.int .i64 0,.string ⟨#[]⟩] []=some #[Value.int .i64 0,.int .i64 0,.int .i64 0,.int .i64 0,.int .i64 0,.int .i64 0,.string ⟨#[]⟩]:=by kernel_rfl
theorem az:Instr.fill (λi=>[(0,1),(1,1)][i]?) #[Value.slice none 0 0,.int .i64 0] [(1,.int .i64 1)]=some #[Value.slice none 0 0,.int .i64 1]:=by kernel_rfl
theorem aw:Instr.fill (λi=>[(0,1),(1,1),(2,5)][i]?) #[Value.bool false,.int .i64 0,.int .i64 0,.int .i64 0,.int .i64 0,.int .i64 0,.slice none 0 0] []=some #[Value.bool false,.int .i64 0,.int .i64 0,.int .i64 0,.int .i64 0,.int .i64 0,.slice none 0 0]:=by kernel_rfl
theorem XZ {c g:Int} (u:¬(1<=c/\c<=16/\1<=g/\g<=4)) (r:R (.ret (.tuple #[.agg rh0,.bool false])) h):A7 Tryz.prog 20 #[.int .i64 c,.int .i64 g] h R:=by
 refine A7.drop (cA ?_);unfold mL zq1 eXW gAW gGW ivW pnW;refine Ai λa v q n j=>Ai λb G p l i=>?_
 have e:A0 (some 5) (ptr b) G λt22=>A9 5 (ptr a) t22 G λd=>A0 (some 5) (ptr a) d λo=>∃g,Sub g d/\R (.ret (.tuple #[o,(.bool false)])) g:=by
  rw[AI i (by decide)];refine AN (cs:=rh0) (l _ _ j) (by rfl) (by rfl) (by rfl) ?_;rw[AI (AD _ _ _) (by decide)];exact⟨h,Sub.put (n.trans l) q,r⟩
 by_cases f:c<1
 ·simp[f];exact e
 ·by_cases k:16<c
  ·simp[f,k];exact e
  ·by_cases m:g<1
   ·simp[f,k,m];exact e
   ·have s:4<g:=by omega
    simp[f,k,m,s];exact e
def sz0:Value:=.slice none 0 0
theorem mW {t4 t6 k:Nat} {s:Value} {f a:Int} {Kp:KP} {o:V3->PH->Prop} {l:V4->Value->PH->Prop} (c:(k:Int)<f) (w:k<=16)
  (H:(OS 108 7 s k (BU clN k)•pt t6 (rhO a 0 s sz0 sz0)•C) g)
  (u:∀g' j,(OS 108 7 j (k+1) (BU clN (k+1))•pt t6 (rhO a 0 j sz0 sz0)•C) g'->l (.int .i64 f,.int .i64 a,ptr t4,ptr t6) (.int .i64 ((k:Int)+1)) g') :
  UA Kp o (.int .i64 f,.int .i64 a,ptr t4,ptr t6) l (.int .i64 k) g:=by
 have q:IntKind.i64.wrap ((k:Int)+1)=(k:Int)+1:=w64 (by omega) (by omega);have d:∀X Y Z:PH->Prop,X•Y•Z=Y•X•Z:=λ_ _ _=>by ac_rfl
 unfold UA KX zq8 zq9 ivW;rw[AC,AB];refine⟨λ_=>?_,λe=>absurd e (by simp[c])⟩;have n:=H;rw[d]at n;rw[AH,A5 (AM n) (v:=s) rfl];refine⟨_,ay,by omega,?_⟩;refine cW H ft (by rfl) (by rfl) (by simp only[roomBytes];omega) (by omega) (by omega) (by rfl) λx i b=>?_;have r:=BL (AJ OS.mono b);rw[d]at b;rw[AH,Aw (AM b) (by show 2<5;omega) r,AG,q];have m:=Bb (p:=rhO a 0 i sz0 sz0) b;rw[d]at m;refine u _ i ?_;rw[Fa];exact m
theorem mX {t4 t6 k:Nat} {Lv f c:Value} {b:Int} {Kp:KP} {x:V2->PH->Prop} {q:V3->Value->PH->Prop} (n:(k:Int)<b) (E:k<=16)
  (H:(OS 110 2 f k (BU bkN k)•OS 115 7 c k (BU saN k)•pt t6 (rhO b 0 Lv f c)•C) g)
  (D:∀g' d j,(OS 110 2 d (k+1) (BU bkN (k+1))•OS 115 7 j (k+1) (BU saN (k+1))•pt t6 (rhO b 0 Lv d j)•C) g'->q (.int .i64 b,ptr t4,ptr t6) (.int .i64 ((k:Int)+1)) g') :
  PK Kp x (.int .i64 b,ptr t4,ptr t6) q (.int .i64 k) g:=by
 have y:IntKind.i64.wrap ((k:Int)+1)=(k:Int)+1:=w64 (by omega) (by omega);have s:∀W X Y Z:PH->Prop,W•X•Y•Z=Y•W•X•Z:=λ_ _ _ _=>by ac_rfl
 have G:∀W X Y Z:PH->Prop,Y•W•X•Z=W•X•Y•Z:=λ_ _ _ _=>by ac_rfl
 have r:∀W X Y Z:PH->Prop,Y•W•X•Z=X•W•Y•Z:=λ_ _ _ _=>by ac_rfl
 unfold PK Ep Yf IX Ye ivW;rw[AC,AB];refine⟨λ_=>?_,λe=>absurd e (by simp[n])⟩;have w:=H;rw[s]at w;rw[AH,A5 (AM w) (v:=f) rfl];refine⟨_,az,by omega,?_⟩;refine cW H fv (by rfl) (by rfl) (by simp only[roomBytes];omega) (by omega) (by omega) (by rfl) λF a m=>?_;have A:=BL (AJ OS.mono m);rw[s]at m;rw[AH,Aw (AM m) (by show 3<5;omega) A];have o:=Bb (p:=.cells ((rhA b 0 Lv f c).setIfInBounds 3 a) 52 (0,0)) m;revert o;generalize ins F t6 (.cells ((rhA b 0 Lv f c).setIfInBounds 3 a) 52 (0,0))=g3;intro o;have H3':(pt t6 (rhO b 0 Lv a c)•OS 110 2 a (k+1) (BU bkN k++(#[Value.slice none 0 0,.int .i64 1]:Array Value).toList)•OS 115 7 c k (BU saN k)•C) g3:=o;rw[AH,A5 (AM H3') (v:=c) rfl];refine⟨_,aw,by omega,?_⟩;rw[r]at H3';refine cW H3' fq (by rfl) (by rfl) (by simp only[roomBytes];omega) (by omega) (by omega) (by rfl) λI i l=>?_;have z:=BL (AJ OS.mono l);rw[r]at l;rw[AH,Aw (AM l) (by show 4<5;omega) z];have u:=Bb (p:=rhO b 0 Lv a i) l;rw[AG,y];rw[G]at u;refine D _ a i ?_;rw[Fa,Fa];exact u
theorem ZO {c g:Int} (hc1:1<=c) (hc2:c<=16) (hg1:1<=g) (hg2:g<=4)
  (hR:∀n v,Sub h n->RH n v (Co c g)->R (.ret (.tuple #[v,.bool true])) n) :
  A7 Tryz.prog 20 #[.int .i64 c,.int .i64 g] h R:=by
 refine cA ?_;unfold mL zq1 eXW gAW gGW ivW pnW;obtain⟨b,rfl⟩:∃b:Nat,c=b:=⟨c.toNat,by omega⟩;obtain⟨a,rfl⟩:∃a:Nat,g=a:=⟨g.toNat,by omega⟩;have h1:¬(b:Int)<1:=by omega
 have h2:¬16<(b:Int):=by omega
 have h3:¬(a:Int)<1:=by omega
 have h4:¬4<(a:Int):=by omega
 refine AX λt4 E=>AX λt6 D=>?_;have x:(pt t6 (.cells rh0 52 (0,0))•pt t4 (.cells rh0 52 (0,0))•Own h) (ins (ins h t4 (.cells rh0 52 (0,0))) t6 (.cells rh0 52 (0,0))):=Ar D (Ar E (Sub.refl h));have e0:ins (ins h t4 (.cells #[.int .i64 0,.int .i64 0,.slice none 0 0,.slice none 0 0,.slice none 0 0] 52 (0,0))) t6 (.cells #[.int .i64 0,.int .i64 0,.slice none 0 0,.slice none 0 0,.slice none 0 0] 52 (0,0))=ins (ins h t4 (.cells rh0 52 (0,0))) t6 (.cells rh0 52 (0,0)):=rfl;rw[e0];revert x;generalize ins (ins h t4 (.cells rh0 52 (0,0))) t6 (.cells rh0 52 (0,0))=g2;intro x;simp[h1,h2,h3,h4];refine (Aw (AM x) (by show 0<5;omega) rfl).2 ?_;have H7:=Bb (p:=rhO a 0 sz0 sz0 sz0) x;have H8:(OS 108 7 sz0 0 (BU clN 0)•pt t6 (rhO a 0 sz0 sz0 sz0)•pt t4 (.cells rh0 52 (0,0))•Own h) (ins g2 t6 (rhO a 0 sz0 sz0 sz0)):=D0 H7 ⟨Sub.refl _,rfl,.inl ⟨rfl,rfl,rfl⟩⟩
 refine AL (λm f g=>∃(k:Nat) (s:Value),f = .int .i64 k/\m=b-k/\k<=b/\(OS 108 7 s k (BU clN k)•pt t6 (rhO a 0 s sz0 sz0)•pt t4 (.cells rh0 52 (0,0))•Own h) g) b
  ⟨0,sz0,rfl,rfl,by omega,H8⟩ ?_
 rintro m f g ⟨k,s,rfl,em,hkn,Hg⟩
 by_cases hin:k<b
 ·exact mW (by omega) (by omega) Hg λg' f H=>⟨rfl,b-(k+1),by omega,k+1,f,rfl,rfl,by omega,H⟩
 have e:k=b:=by omega
 subst e;unfold UA KX zq8 zq9 ivW;have d:¬(k:Int)<(k:Int):=by omega
 rw[AC,AB];refine⟨λe=>absurd e (by rw[CF];exact d),λ_=>?_⟩;intro r I;simp only[Prod.mk.injEq]at I;obtain⟨Q,N,M⟩:=I;simp only[Q,N,M];have e8:∀X Y Z:PH->Prop,X•Y•Z=Y•X•Z:=λ_ _ _=>by ac_rfl
 have Hb:(OS 110 2 sz0 0 (BU bkN 0)•OS 115 7 sz0 0 (BU saN 0)•pt t6 (rhO a 0 s sz0 sz0)•OS 108 7 s k (BU clN k)•pt t4 (.cells rh0 52 (0,0))•Own h) g:=by
  rw[e8]at Hg;exact D0 (D0 Hg ⟨Sub.refl _,rfl,.inl ⟨rfl,rfl,rfl⟩⟩) ⟨Sub.refl _,rfl,.inl ⟨rfl,rfl,rfl⟩⟩
 refine AL (λm f g=>∃(i:Nat) (o u:Value),f = .int .i64 i/\m=a-i/\i<=a/\(OS 110 2 o i (BU bkN i)•OS 115 7 u i (BU saN i)•pt t6 (rhO a 0 s o u)•OS 108 7 s k (BU clN k)•pt t4 (.cells rh0 52 (0,0))•Own h) g) a
  ⟨0,sz0,sz0,rfl,rfl,by omega,Hb⟩ ?_
 rintro m2 s2 g2' ⟨i,o,u,rfl,em2,hin2,Hg2⟩
 by_cases hi2:i<a
 ·exact mX (by omega) (by omega) Hg2 λg' y z H=>⟨rfl,a-(i+1),by omega,i+1,y,z,rfl,rfl,by omega,H⟩
 have e:i=a:=by omega
 subst e;unfold PK Ep Yf IX Ye ivW;have d:¬(i:Int)<(i:Int):=by omega
 rw[AC,AB];refine⟨λe=>absurd e (by rw[CF];exact d),λ_=>?_⟩;intro r2 l;simp only[Prod.mk.injEq]at l;obtain⟨q4,U⟩:=l;simp only[q4,U];have e9:∀X Y Z P T O:PH->Prop,X•Y•Z•P•T•O=(Z•P•X•Y)•O•T:=λ_ _ _ _ _ _=>by ac_rfl
 rw[e9]at Hg2;have F:(Co (k:Int) (i:Int)).L.n=k:=BR k;have G:(Co (k:Int) (i:Int)).G=i:=BR i
 have HC:(CP t6 (Co k i) s o u (λ_=>sz0) (λ_=>sz0)•Own h•pt t4 (.cells rh0 52 (0,0))) g2':=by
  unfold CP;rw[F,G];exact Hg2
 refine MZ (K:=λL n=>R (.ret (.tuple #[L,.bool true])) n) HC Own.mono rfl (λq J=>⟨λj W=>?_,λj A w W ha=>?_⟩) λg' v J V=>hR g' v J V
 ·exact⟨rfl,by simp[ordsC,Co],.inl ⟨0,rfl,rfl⟩⟩
 ·simp[Co]at ha
end
section
variable {h g:PH} {R:RT} {B C:PH->Prop} {S:Hs} {Lv Bv Sv:Value} {bs ss:Nat->Value} {t:Nat}
theorem bN {i:Nat} {op:ByteArray} (a:S.ok):(CX S i op).S.L.f i 10=S.L.f i 10:=by
 unfold CX
 split
 ·exact (Vj a).1 i
 ·rfl
theorem mO {who stamp:Int} {op:ByteArray} (H:RHp h S Lv Bv Sv bs ss) (F:S.ok) (p:Snd S)
  (I:∀g v,Sub h g->RH g v (doH S who stamp op).S->R (.ret (.tuple #[v,.string (doH S who stamp op).t,.int .i64 (doH S who stamp op).e])) g) :
  A7 Tryz.prog 21 #[.agg (rhA S.L.goods S.now Lv Bv Sv),.int .i64 who,.int .i64 stamp,.string op] h R:=by
 refine oh ?_;unfold qb zq1 gAW gGW ivW pnW;rw[show Value.cells (.agg (rhA S.L.goods S.now Lv Bv Sv))=rhA S.L.goods S.now Lv Bv Sv from rfl];refine Ai λt4 Y _ W k4=>AX λt8 h8=>?_;have hG:=F.g;have hcl:=F.cl;have u:(pt t8 (.cells rh0 52 (0,0))•StT h S Lv Bv Sv bs ss t4) (ins Y t8 (.cells rh0 52 (0,0))):=Ar h8 ⟨H.sub W,W,k4⟩;revert u;generalize ins Y t8 (.cells rh0 52 (0,0))=g2;intro u;have L:=AF StT.mono u;have z2:=λK=>A5 (K:=K) L.2.2 (show (rhA S.L.goods S.now Lv Bv Sv)[2]?=some Lv from rfl)
 have c:∀(t:ByteArray) (e:Int),doH S who stamp op=⟨t,e,S⟩->A0 (some 5) (.pointer (some ⟨t4,0,none⟩)) g2 λv=>A9 5 (.pointer (some ⟨t8,0,none⟩)) v g2 λJ=>A0 (some 5) (.pointer (some ⟨t8,0,none⟩)) J λM=>R (.ret (.tuple #[M,.string t,.int .i64 e])) J:=λt e he=>by
  rw[he]at I;exact dQ (K:=λM J=>R (.ret (.tuple #[M,.string t,.int .i64 e])) J) u λg v a b=>I g v a b
 unfold doH at c
 by_cases D:who<0
 ·rw[if_pos (by omega)]at c
  simp only[AC,D,B6,AZ,C7,Al,cond_true,ne_eq,Bx,CJ,CI,C1,and_true,true_and,reduceCtorEq,Bool.true_eq_false,Ba,AB,PB,nA];exact c _ _ rfl
 simp only[AC,D,BW,AZ,C7,Al,cond_false,ne_eq,Bx,CJ,CI,C1,and_true,true_and,Bool.true_eq_false,Ba,AH,Ad,z2,L.1.L.lens,By]
 by_cases z:(S.L.n:Int)<=who
 ·rw[if_pos (by omega)]at c
  have hw1':decide (who>=(S.L.n:Int))=true:=decide_eq_true z;simp only[hw1',AB,CI,reduceCtorEq,C1,and_true];exact c _ _ rfl
 have hw1':decide (who>=(S.L.n:Int))=false:=decide_eq_false z;rw[if_neg (by omega)]at c;obtain⟨i,rfl⟩:∃i:Nat,who=i:=⟨who.toNat,by omega⟩;have hi:i<S.L.n:=by omega
 rw[BR]at c;rw[AB];refine⟨λe=>absurd (hw1'.symm.trans e) (by simp),λ_=>?_⟩
 by_cases s:stamp<1
 ·rw[if_pos (.inl s)]at c
  simp only[s,B6,ne_eq,reduceCtorEq,CJ,CI,C1,and_true,true_and,cond_true,Bool.true_eq_false,Ba,AB];exact c _ _ rfl
 simp only[s,BW,ne_eq,Bx,CI,C1,and_true,true_and,cond_false,At]
 by_cases r:1099511627776<stamp
 ·rw[if_pos (.inr r)]at c
  have hs2':decide (stamp>1099511627776)=true:=decide_eq_true r;rw[AB];exact⟨λ_=>c _ _ rfl,λe=>absurd (hs2'.symm.trans e) (by simp)⟩
 rw[if_neg (by omega)]at c;have hs2':decide (stamp>1099511627776)=false:=decide_eq_false r;rw[AB];refine⟨λe=>absurd (hs2'.symm.trans e) (by simp),λ_=>?_⟩;obtain⟨b,o,q1,q2⟩:=L.1.L.el hi;rw[q1,AH,(q2 g2 (Sub.refl g2)).1 5 (.int .i64 (S.L.f i 10)) (by omega) (by rw[C4 (Ft _) _ _ _ hi (by omega)];rfl),EI,AB]
 by_cases m:stamp<=S.L.f i 10
 ·rw[if_pos m]at c
  exact⟨λ_=>c _ _ rfl,λe=>absurd e (by simp[m])⟩
 refine⟨λe=>absurd e (by simp[m]),λ_=>?_⟩;clear c
 have eD:doH S (i:Int) stamp op=⟨HD (CX S i op).e (CX S i op).n,0,HT (CX S i op) i stamp⟩:=by
  unfold doH;rw[if_neg (by omega),if_neg (by omega),BR,if_neg m]
 rw[eD]at I;rw[L.l1];obtain⟨d1,d2,d3,d4,d5⟩:=NU F hi op;have dl:=bN (i:=i) (op:=op) F;rw[I7]at u
 refine fr (X:=Value×Value×Value×(Nat->Value)×(Nat->Value)) (val:=λx=>.tuple #[.agg (rhA (CX S i op).S.L.goods (CX S i op).S.now x.1 x.2.1 x.2.2.1),.int .i64 (CX S i op).n,.int .i64 (CX S i op).e]) (Q:=λx q=>RHp q (CX S i op).S x.1 x.2.1 x.2.2.1 x.2.2.2.1 x.2.2.2.2) u StT.mono
  (λq l R' N=>dw l.1 F p hi λg v p hv=>by
   obtain⟨v1,v2,v3,v4,v5,rfl,hp⟩:=hv;exact N g (v1,v2,v3,v4,v5) p hp) λx g3 Z=>?_
 obtain⟨j,k,f,G,y⟩:=x;simp only[Ek,Ej,Ei];generalize CX S i op=d at *;have dG:=d1.g;have T:=d1.cl;have E:C3 λq=>RHp q d.S j k f G y/\StT h S Lv Bv Sv bs ss t4 q:=B3 (λa b p H=>H.sub p) StT.mono;have V:=(AJ E Z).1;refine AX λt11 O=>?_;have o1:=Fo (gd:=d.S.L.goods) (now:=d.S.now) V.L.v1 V.B.v1 V.A.v1;refine AN (cs:=rhA d.S.L.goods d.S.now j k f) (AD _ _ _) (by rfl) (by rfl) (by rw[List.all_eq_true];exact o1) ?_;rw[An];have w:=Ar (o:=.cells (rhA d.S.L.goods d.S.now j k f) 52 (0,0)) O Z;revert w;generalize ins g3 t11 (.cells (rhA d.S.L.goods d.S.now j k f) 52 (0,0))=g4;intro w;rw[AI (AM w) (off:=0) (n:=5) (by show 0+5<=5;omega),show (rhA d.S.L.goods d.S.now j k f).extract 0 (0+5)=rhA d.S.L.goods d.S.now j k f from rfl];have U:=(AJ E (AF (A8 _ _) w)).1;have e4:∀P A Q:PH->Prop,P•A•Q=(A•Q)•P:=λ_ _ _=>by ac_rfl
 rw[e4]at w
 have H4':(((λq=>RHp q d.S j k f G y/\Sub h q)•pt t8 (.cells rh0 52 (0,0)))•pt t11 (.cells (rhA d.S.L.goods d.S.now j k f) 52 (0,0))) g4:=
  AU w (λq l=>AU l (λq l=>⟨l.1,l.2.2.1⟩) λ_ h=>h) λ_ h=>h
 refine bV (by rfl) H4' U T (by omega) λg5 Lv' Bv' Sv' H5=>?_;simp only[AH,Ad];exact gA d1 (by rw[d3];exact hi) d4 d5 (by omega) (by omega) (by rw[dl];omega) (λa b p H=>⟨H.1.sub p,H.2.trans p⟩) rfl (λq l=>l.1.side) (λq l=>l.2) H5 I
end
section
variable {h g:PH} {R:RT} {x:Nat} {nm:Nm} {S:Hs}
theorem rU {v:Value} {who stamp:Int} {op:ByteArray} (H:RH h v S) (b:S.ok) (a:Snd S)
  (c:∀g v,Sub h g->RH g v (doH S who stamp op).S->R (.ret (.tuple #[v,.string (doH S who stamp op).t,.int .i64 (doH S who stamp op).e])) g) :
  A7 Tryz.prog 21 #[v,.int .i64 who,.int .i64 stamp,.string op] h R:=by
 obtain⟨e,f,d,bs,ss,rfl,H⟩:=H;exact mO H b a c
theorem mr {v:Value} (f:HsN x nm S h) (H:RH h v S) (c:nm.ok S) (d:S.ok) (b:Snd S) (a:Zer S.L) (e:R (.ret (.bool true)) h) :
  A7 Tryz.prog 22 #[ptr x,v] h R:=by
 obtain⟨j,k,i,bs,ss,rfl,H⟩:=H;exact aV f H c d b a e
set_option maxRecDepth 10000 in
theorem Uv {t9 i:Nat} {cs:Array Value} {v:Value} {l:List Ask} {a:Ask} {q:Value} {Kp:KP} {x0 xr:Value->PH->Prop} {kn:V3->V2->PH->Prop}
  (J:Hv h v l) (ha:l[i]?=some a) (t:a.ok) (hi60:i<60) (hn:nm.ok S) (C:S.ok) (z:Snd S) (hz:Zer S.L)
  (H:XS t9 cs S (Own h) (HsN x nm S) g)
  (hX:∀g' Y nm',nm'.ok (doH S a.who a.stamp a.text).S->XS t9 Y (doH S a.who a.stamp a.text).S (Own h) (HsN x nm' (doH S a.who a.stamp a.text).S) g'->kn (v,ptr x,ptr t9) (q,.int .i64 ((i:Int)+1)) g') :
  cN Kp x0 xr (v,ptr x,ptr t9) kn (q,.int .i64 i) g:=by
 unfold cN zq0 zq1 gAW gGW ivW;have hil:=(Bc.1 ha).1;have m:=J.sub (XS.b H Own.mono);have M:(i:Int)<(l.length:Int):=by omega
 have d:(i:Int)<60:=by omega
 simp only[m.len,AC,M,B6,AZ,C7,CI,ne_eq,Bx,C1,and_true,d,Al,cond_true,AB];refine⟨?_,λe=>absurd e (by simp)⟩;refine m.ld ha ?_;refine AX λc hc=>?_;refine AN (cs:=a.a) (AD _ _ _) (by rfl) (by rfl) (by rfl) ?_;rw[An];have h5:=XS.size H Own.mono;have f:=Ar (o:=.cells a.a 27 (0,0)) hc H;revert f;generalize ins g c (.cells a.a 27 (0,0))=G1;intro f;have y:Mz G1 c a:=⟨AM f⟩;have k:∀K,A0 (some 5) (.pointer (some ⟨t9,0,none⟩)) G1 K↔K (.agg cs):=λK=>XS.load (AF (A8 _ _) f) Own.mono;simp only[AH,Ad,k,y.w,y.s,y.all];refine Nr t ?_;simp only[AK.elim,k,y.w,y.s,true_and];unfold XS at f;have e1:∀A X P N:PH->Prop,A•X•P•N=X•(A•P•N):=λ_ _ _ _=>by ac_rfl
 rw[e1]at f
 refine fr (X:=Value) (val:=λv=>.tuple #[v,.string (doH S a.who a.stamp a.text).t,.int .i64 (doH S a.who a.stamp a.text).e]) (Q:=λv q=>RH q v (doH S a.who a.stamp a.text).S) f (B3 RH.mono Own.mono)
  (λq B R' V=>rU B.1 C z λg v z J=>V g v z J) λv2 g2 H2=>?_
 have hd:=Ot C a.who a.stamp a.text;have U:=Wj C z a.who a.stamp a.text;have O:Zer (doH S a.who a.stamp a.text).S.L:=Yg hz lm;simp only[Ek,Ej,Ei];have L:C3 λq=>RH q v2 (doH S a.who a.stamp a.text).S/\RH q (.agg cs) S/\Own h q:=B3 RH.mono (B3 RH.mono Own.mono);obtain⟨b,rfl,c5,c1⟩:=Gm (AJ L H2).1;refine AX λt13 W=>?_;refine AN (cs:=b) (AD _ _ _) (by rfl) c5 (by rw[List.all_eq_true];exact c1) ?_;rw[An];have u:=Ar (o:=.cells b 52 (0,0)) W H2;revert u;generalize ins g2 t13 (.cells b 52 (0,0))=G3;intro u;have w:Mz G3 c a:=⟨AM (AF (A8 _ _) (AF (A8 _ _) u))⟩;simp only[AH,Ad,w.w,w.s,w.all];refine Nr t ?_;simp only[AK.elim,w.w,w.s,true_and];have e3:∀T X A P N:PH->Prop,T•X•A•P•N=N•(T•X•A•P):=λ_ _ _ _ _=>by ac_rfl
 rw[e3]at u;refine li u hn C λG4 j F r=>?_;simp only[AK.elim,Av,Au];have e4:∀T X A P N:PH->Prop,N•(T•X•A•P)=P•(T•X•A•N):=λ_ _ _ _ _=>by ac_rfl
 have I:=AM (AF (A8 _ _) F);have ee:b.extract 0 (0+5)=b:=by rw[show 0+5=b.size by omega,Array.extract_size]
 rw[AI I (off:=0) (n:=5) (by omega),ee];rw[e4]at F;refine AN (cs:=b) (AM F) h5 c5 (by rw[List.all_eq_true];exact c1) ?_;have E:=Bb (p:=.cells b 52 (0,0)) F;revert E;generalize ins G4 t9 (.cells b 52 (0,0))=G5;intro E;have e5:∀T X A P N:PH->Prop,P•(T•X•A•N)=(X•P•N)•(T•A):=λ_ _ _ _ _=>by ac_rfl
 rw[e5]at E;have D:XS t9 b (doH S a.who a.stamp a.text).S (Own h) (HsN x j (doH S a.who a.stamp a.text).S) G5:=AU (AJ (A8 _ _) E) (λq B=>⟨B.1,B.2.2⟩) λ_ h=>h;have w1:IntKind.i64.wrap ((i:Int)+1)=(i:Int)+1:=w64 (by omega) (by omega);have s:=hX G5 b j r D;have Z:=(AJ (B3 RH.mono Own.mono) D).1;have HN5:=AF HsN.mono (AF (A8 _ _) D);have G:∀K,A0 (some 5) (.pointer (some ⟨t9,0,none⟩)) G5 K↔K (.agg b):=λK=>XS.load D Own.mono;obtain⟨d1,_,_⟩:=hd;generalize doH S a.who a.stamp a.text=dn at *;simp only[Py,BB,B6,Bool.not_true,AZ,C7,NB,ne_eq,Bx,CJ,forall_const,CI,C1,and_true,true_and,Al,cond_false,G];refine mr HN5 Z r d1 U O ?_;simp only[AK.elim,Bm,Bool.not_true,Al,cond_false,AB,Ba,C1,CI,true_and,AG,w1];exact s
end
section
variable {h g:PH} {R:RT} {x:Nat} {nm:Nm} {S:Hs}
set_option maxRecDepth 10000 in
theorem Y4 {v:Value} {l:List Ask} {c gd:Int} (A:Hv h v l) (hl:∀a∈l,a.ok) (hR:R (.ret (.bool true)) h):A7 Tryz.prog 6 #[.int .i64 c,.int .i64 gd,v] h R:=by
 refine A7.drop (rK ?_);unfold sh6 zq1 eXW gAW gGW ivW pnW
 have w:∀{B:PH},Sub h B->AA Tryz.prog 16 #[] B (λu T=>∃g,Sub g T/\R (.ret u) g) (λc T=>∃g,Sub g T/\R (.pan c) g):=λ{B} hs5=>Y6 (by
  show ∃g,Sub g B/\_;exact⟨h,hs5,hR⟩)
 by_cases L:1<=c/\c<=16/\1<=gd/\gd<=4
 rotate_left
 ·refine Y8 L ?_
  simp only[AK.elim,Av,Au];refine XZ L ?_;simp only[AK.elim,Av,Au];refine AX λt9 P=>?_;refine AN (cs:=rh0) (AD _ _ _) (by rfl) (by rfl) (by rfl) ?_;rw[An];have E:Sub h (ins h t9 (.cells rh0 52 (0,0))):=AT _ P;have U:(!(false==false))=false:=rfl;have W:decide ((1:Int)=0)=false:=rfl;have V:decide ((1:Int)=1)=true:=rfl;simp only[BC,W,V,Kn Tryz.underlying4,U,AZ,C7,NB,ne_eq,Bx,CJ,forall_const,CI,C1,and_true,true_and,Al,cond_false,cond_true,J1 Tryz.underlying28,Bm,Bool.not_false,Bool.not_true,B6,BB,AB,Ba,reduceCtorEq,Bool.true_eq_false];exact w E
 ·obtain⟨s,p,n,k⟩:=L
  refine lh s p n k λg x nm H0 I=>?_;have H:=H0 (Own h) (Sub.refl h);simp only[AK.elim,Av,Au];rw[I7]at H
  refine fr (X:=Value) (val:=λv=>.tuple #[v,.bool true]) (Q:=λv q=>RH q v (Co c gd)) H Own.mono
   (λq hq R' O=>ZO s p n k λg v G A=>O g v G A) λv2 g2 H2=>?_
  simp only[Av,Au];have z:(Co c gd).ok:=T7 s p n k;have F:Snd (Co c gd):=ed c gd;have D:Zer (Co c gd).L:=λ_ _ _ _ _=>rfl;have K:Qz (Co c gd).L:=λ_ _ _=>rfl;generalize Co c gd=S0 at *;obtain⟨d,rfl,c5,c1⟩:=Gm (AJ (B3 RH.mono Own.mono) H2).1;refine AX λt9 P=>?_;refine AN (cs:=d) (AD _ _ _) (by rfl) c5 (by rw[List.all_eq_true];exact c1) ?_;rw[An];have C:=Ar (o:=.cells d 52 (0,0)) P H2;revert C;generalize ins g2 t9 (.cells d 52 (0,0))=G3;intro C;rw[Es]at C;have H4:XS t9 d S0 (Own h) (HsN x nm S0) G3:=C;have U:(!(true==true))=false:=rfl;have Y:decide ((0:Int)=0)=true:=rfl;simp only[BC,Y,Kn Tryz.underlying4,U,AZ,C7,NB,ne_eq,Bx,CJ,forall_const,CI,C1,and_true,true_and,Al,cond_false,cond_true,JP Tryz.underlying28,Bm,Bool.not_false,Bool.not_true,B6,AB,Ba,reduceCtorEq,Bool.true_eq_false];refine AL (λm s' g'=>∃(i:Nat) (nm:Nm) (cs:Array Value),s'=(.bool false,.int .i64 i)/\m=l.length-i/\i<=l.length/\i<=60/\XS t9 cs (MC S0 (l.take i)) (Own h) (HsN x nm (MC S0 (l.take i))) g'/\nm.ok (MC S0 (l.take i))) l.length ⟨0,nm,d,rfl,rfl,by omega,by omega,H4,I⟩ ?_;rintro m s' g' ⟨i,nm,cs,rfl,rfl,hi,hi60,Hg,hn⟩;have y:=A.sub (XS.b Hg Own.mono)
  by_cases j:i<l.length/\i<60
  ·obtain⟨j,t⟩:=j
   obtain⟨a,N⟩:∃a,l[i]?=some a:=⟨_,Bu j⟩;have M:=hl a (List.mem_of_getElem? N);have b:=XP (S:=S0) N;have hk:=(W7 (l.take i) z).1;obtain⟨G,hz,_⟩:=Sl (l.take i) z F D K;generalize MC S0 (l.take i)=S at *;exact Uv A N M t hn hk G hz Hg λg2 Z nm' J H'=>⟨rfl,l.length-(i+1),by omega,i+1,nm',Z,rfl,rfl,by omega,by omega,by rw[b];exact H',by rw[b];exact J⟩
  ·have e:=XS.b Hg Own.mono
   unfold cN zq0 zq1 gAW gGW ivW
   by_cases f:i<l.length
   ·have t:¬(i:Int)<60:=by omega
    simp[y.len,f,t];intro r hr;exact w e
   ·simp[y.len,f]
    intro r hr;exact w e
end
end Go.Pw
