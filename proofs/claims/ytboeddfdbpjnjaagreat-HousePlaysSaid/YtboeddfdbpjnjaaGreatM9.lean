/- Texts of this claim, one behind the other. -/
import Derived.Test.YtboeddfdbpjnjaaGreatM6
import Derived.KernelRfl
set_option linter.unusedSimpArgs false
set_option linter.unusedVariables false
namespace Go.Pw
open Go
def Ord.k (o:Ord):Int:=if o.buys then-o.pr else o.pr
def ltK (x y:Ord):Prop:=x.k<y.k\/x.k=y.k/\x.pl<y.pl
def leK (x y:Ord):Prop:=¬ltK y x
instance (x y:Ord):Decidable (ltK x y):=by unfold ltK;exact inferInstance
instance (x y:Ord):Decidable (leK x y):=by unfold leK;exact inferInstance
theorem Th {a b:Int}:JK a b<0↔a<b:=by unfold JK;split <;> (try split) <;> omega
theorem be {a b:Int}:0<JK a b↔b<a:=by unfold JK;split <;> (try split) <;> omega
theorem YJ {a b:Int}:JK a b=0↔a=b:=by unfold JK;split <;> (try split) <;> omega
theorem Lx {x y:Ord} (a:x.buys=y.buys):Ml x y<0↔ltK x y:=by
 have e:=@Th x.pr y.pr;have d:=@be x.pr y.pr;have c:=@YJ x.pr y.pr;have b:=@Th x.pl y.pl;unfold Ml ltK Ord.k;rw[<-a];cases x.buys <;> simp only[Ba,if_false,if_true]
 ·split <;> omega
 ·split <;> omega
theorem LP (x:Ord):leK x x:=by unfold leK ltK;omega
theorem Ds {x y z:Ord} (b:leK x y) (a:leK y z):leK x z:=by unfold leK ltK at *;omega
theorem MK {x y:Ord} (h:ltK x y):leK x y:=by unfold leK;unfold ltK at *;omega
structure Rea (l l':List Ord) (a b:Nat):Prop where
 perm:l'.Perm l
 out:∀p,p<a\/b<=p->l'[p]?=l[p]?
def Bh (l:List Ord) (a b:Nat):Prop:=∀i j x y,a<=i->i<j->j<b->l[i]?=some x->l[j]?=some y->leK x y
section
variable {l l1 l2 l':List Ord} {a b c d i j:Nat}
theorem Rea.len (h:Rea l l' a b):l'.length=l.length:=h.perm.length_eq
theorem Rea.refl (l:List Ord) (a b:Nat):Rea l l a b:=⟨List.Perm.refl _,λ_ _=>rfl⟩
theorem Rea.trans (g:Rea l l1 a b) (f:Rea l1 l2 a b):Rea l l2 a b:=⟨f.perm.trans g.perm,λp e=>by rw[f.out p e,g.out p e]⟩
theorem Rea.wide (e:Rea l l1 c d) (h:a<=c) (g:d<=b):Rea l l1 a b:=⟨e.perm,λp f=>e.out p (by omega)⟩
theorem Rea.mem (h:Rea l l' a b) (r:a<=b) {p:Nat} {x:Ord} (v:a<=p) (u:p<b) (n:l'[p]?=some x):∃q,a<=q/\q<b/\l[q]?=some x:=by
 have t:l'.take a=l.take a:=List.ext_getElem? λk=>by
  rw[List.getElem?_take,List.getElem?_take]
  split
  ·exact h.out k (.inl ‹_›)
  ·rfl
 have s:l'.drop b=l.drop b:=List.ext_getElem? λk=>by
  rw[List.getElem?_drop,List.getElem?_drop];exact h.out _ (.inr (by omega))
 have f:∀m:List Ord,m=m.take a++((m.drop a).take (b-a)++m.drop b):=λm=>by
  have:m.drop b=(m.drop a).drop (b-a):=by rw[List.drop_drop];congr 1;omega
  rw[this,List.take_append_drop,List.take_append_drop]
 have g:=h.perm;rw[f l',f l,t,s,List.perm_append_left_iff,List.perm_append_right_iff]at g
 have o:x∈(l'.drop a).take (b-a):=List.mem_iff_getElem?.2 ⟨p-a,by
  rw[List.getElem?_take,if_pos (by omega),List.getElem?_drop,show a+(p-a)=p by omega,n]⟩
 obtain⟨q,e⟩:=List.mem_iff_getElem?.1 (g.mem_iff.1 o);rw[List.getElem?_take]at e
 split at e
 ·rw[List.getElem?_drop]at e
  exact⟨a+q,by omega,by omega,e⟩
 ·cases e
theorem LH {x y:Ord} (f:l[i]?=some x) (e:l[j]?=some y) (hi:a<=i/\i<b) (o:a<=j/\j<b):Rea l ((l.set i y).set j x) a b:=by
 obtain⟨h,m⟩:=Bc.1 f;obtain⟨g,k⟩:=Bc.1 e;refine⟨?_,λp n=>?_⟩
 ·rw[<-m,<-k]
  exact List.set_set_perm h g
 ·rw[List.getElem?_set_ne (by omega),List.getElem?_set_ne (by omega)]
theorem Ku {x y:Ord} (k:l[i]?=some x) (g:l[j]?=some y) (p:Nat):((l.set i y).set j x)[p]?=if p=j then some x else if p=i then some y else l[p]?:=by
 have n:=(Bc.1 k).1;have m:=(Bc.1 g).1
 by_cases e:p=j
 ·subst e;rw[if_pos rfl,List.getElem?_set_self (by rw[List.length_set];exact m)]
 ·rw[if_neg e,List.getElem?_set_ne (λh=>e h.symm)]
  by_cases f:p=i
  ·subst f;rw[if_pos rfl,List.getElem?_set_self n]
  ·rw[if_neg f,List.getElem?_set_ne (λh=>f h.symm)]
theorem da (h:Bh l 0 l.length):l.Pairwise leK:=by
 rw[List.pairwise_iff_getElem];intro i j hi f e;exact h i j _ _ (by omega) e f (Bu hi) (Bu f)
theorem Vz (g:l'.Perm l1) (o:l'.Pairwise leK) (n:l1.Pairwise leK) (m:∀x∈l1,∀y∈l1,x.k=y.k->x.pl=y.pl->x=y):l'=l1:=by
 refine List.Perm.eq_of_pairwise (le:=leK) (λx y k h f e=>?_) o n g;refine m x (g.mem_iff.1 k) y h ?_ ?_ <;> · unfold leK ltK at f e;omega
def VG (o:Ord):List Ord->List Ord
 | []=>[o]
 | x::l=>if ltK x o then x::VG o l else o::x::l
def CT:List Ord->List Ord
 | []=>[]
 | o::l=>VG o (CT l)
theorem MP (o:Ord):∀l:List Ord,(VG o l).Perm (o::l)
 | []=>List.Perm.refl _
 | x::l=>by
  unfold VG
  split
  ·exact (List.Perm.cons x (MP o l)).trans (List.Perm.swap _ _ _)
  ·exact List.Perm.refl _
theorem Cj:∀l:List Ord,(CT l).Perm l
 | []=>List.Perm.refl _
 | o::l=>(MP o _).trans (List.Perm.cons o (Cj l))
theorem TO (o:Ord):∀l:List Ord,l.Pairwise leK->(VG o l).Pairwise leK
 | [],_=>by simp[VG]
 | x::l,h=>by
  rw[List.pairwise_cons]at h;unfold VG
  split
  ·rename_i e
   rw[List.pairwise_cons];refine⟨λy f=>?_,TO o l h.2⟩
   rcases List.mem_cons.1 ((MP o l).mem_iff.1 f)with rfl | f
   ·exact MK e
   ·exact h.1 y f
  ·rename_i e
   rw[List.pairwise_cons];refine⟨λy f=>?_,List.pairwise_cons.2 h⟩
   rcases List.mem_cons.1 f with rfl | f
   ·exact e
   ·exact Ds e (h.1 y f)
theorem MO:∀l:List Ord,(CT l).Pairwise leK
 | []=>by simp[CT]
 | o::l=>TO o _ (MO l)
def Mm (l:List Ord) (a b j:Nat):Prop:=∀p q x y,a<=p->p<q->q<b->q≠j->l[p]?=some x->l[q]?=some y->leK x y
theorem R7 (h:Bh l a b):Mm l a (b+1) b:=λp q x y k g n m f e=>h p q x y k g (by omega) f e
theorem Sd (h:Mm l a b j) (f:j=a\/∀x y,l[j-1]?=some x->l[j]?=some y->leK x y):Bh l a b:=λp q x y n r t g m=>by
 by_cases e:q=j
 ·subst e
  rcases f with e | f
  ·omega
  ·have s:q<l.length:=(Bc.1 m).1
   have k:l[q-1]?=some l[q-1]:=Bu (by omega);have o:=f _ _ k m
   by_cases u:p=q-1
   ·subst u;rw[k]at g;cases g;exact o
   ·exact Ds (h p (q-1) x _ n (by omega) (by omega) (by omega) g k) o
 ·exact h p q x y n r t e g m
theorem Se {x y:Ord} (h:Mm l a b j) (B:a<j) (A:j<b) (s:l[j]?=some x) (m:l[j-1]?=some y) (o:ltK x y):Mm ((l.set j y).set (j-1) x) a b (j-1):=λp q u v t z r n f g=>by
 rw[Ku s m]at f g;rw[if_neg n]at g
 by_cases e:q=j
 ·subst e
  rw[if_pos rfl]at g;cases g
  by_cases k:p=q-1
  ·rw[if_pos k]at f;cases f;exact MK o
  ·rw[if_neg k,if_neg (by omega)]at f
   exact h p (q-1) u _ t (by omega) (by omega) (by omega) f m
 ·rw[if_neg e]at g
  by_cases k:p=j-1
  ·rw[if_pos k]at f;cases f
   exact h j q _ v (by omega) (by omega) r e s g
  ·rw[if_neg k]at f
   by_cases w:p=j
   ·rw[if_pos w]at f;cases f
    exact h (j-1) q _ v (by omega) (by omega) r e m g
   ·rw[if_neg w]at f
    exact h p q u v t z r e f g
end
open Go Go.Proofs
abbrev OO (h0:PH) (l:List Ord) (h:PH) (s:Value):Prop:=OB 78 6 h0 l.length (ordsC l) h s
abbrev EC:Value:=.func (.func 186) #[] #[]
section
variable {h h0 g:PH} {R:RT} {l l':List Ord} {s:Value} {t:Bool}
theorem OO.at (a:OO h0 l h s):Df h s l:=AJ OS.mono (D0 (C:=emp) trivial a)
theorem GQ {K:Value->Prop} {k:Nat} {o:Ord} (a:OO h0 l h s) (b:l[k]?=some o) {i:Int} (hi:i=k) (c:K o.v):AR 6 s (.int .i64 i) λt=>A0 (some 6) t h K:=by
 subst hi;exact MJ a.at b c
theorem Mt {K:PH->Prop} {k:Nat} {o o':Ord} (b:OO h0 l h s) (c:l[k]?=some o) {i:Int} (hi:i=k) (d:∀g,OO h0 (l.set k o') g s->K g):AR 6 s (.int .i64 i) λt=>A9 6 t o'.v h K:=by
 subst hi;refine RN b c λg a=>d g ?_;unfold OO;rw[List.length_set];exact a
theorem Bp {k:Nat} (a:k<l.length):∃o,l[k]?=some o:=⟨_,Bu a⟩
theorem Ng {x y:Ord} {K:Value->PH->Prop} {Kp:KP} (a:K (.int .i64 (Ml x y)) h):Ha Tryz.prog EC #[x.v,y.v] h K Kp:=
 ⟨_,_,_,rfl,cj a⟩
theorem G6 {k:Nat} {o:Ord} (a:∀o∈l,o.buys=t) (b:l[k]?=some o):o.buys=t:=a o (List.mem_of_getElem? b)
theorem Gl {a b:Nat} (c:∀o∈l,o.buys=t) (d:Rea l l' a b):∀o∈l',o.buys=t:=λo e=>c o (d.perm.mem_iff.1 e)
theorem Oc {a b:Nat} (ob:OO h0 l h s) (A:∀o∈l,o.buys=t) (hz:l.length<=64) (hb:b<=l.length) (ha:a<=64)
  (hR:∀g l',OO h0 l' g s->Rea l l' a b->Bh l' a b->R (.ret (.tuple #[])) g):A7 Tryz.prog 194 #[s,.int .i64 a,.int .i64 b,EC] h R:=by
 refine gJ ?_;unfold jh eXW ivW pnW;simp only[AG];rw[w64 (by omega) (by omega)]
 refine AL (λm G g=>∃(i:Nat) (I:List Ord),G = .int .i64 i/\m=b-i/\a<i/\(i<=b\/i=a+1)/\OO h0 I g s/\Rea l I a b/\Bh I a i) (b-(a+1))
  ⟨a+1,l,by simp,by omega,by omega,.inr rfl,ob,Rea.refl _ _ _,λp q x y hp hq Y _ _=>by omega⟩ ?_
 rintro m G g ⟨i,I,rfl,rfl,hai,hib,ob2,hre,hso⟩;have hl2:=hre.len
 by_cases hin:i<b
 ·have key:∀(O:V4->Value->PH->Prop) Kp x0,(∀g2 c,OO h0 c g2 s->Rea l c a b->Bh c a (i+1)->O (s,.int .i64 a,.int .i64 b,EC) (.int .i64 ((i:Int)+1)) g2) ->
    PM Kp x0 (s,.int .i64 a,.int .i64 b,EC) O (.int .i64 i) g:=by
   intro O Kp x0 Z;unfold PM eXW ivW;have f:(i:Int)<(b:Int):=by omega
   simp only[AC,f,B6,AB];refine nT ?_
   refine AL (λm G g=>∃(j:Nat) (c:List Ord),G = .int .i64 j/\m=j/\a<=j/\j<=i/\OO h0 c g s/\Rea l c a b/\Mm c a (i+1) j) i
    ⟨i,I,rfl,rfl,by omega,by omega,ob2,hre,R7 hso⟩ ?_
   rintro j G g ⟨_,c,rfl,rfl,haj,hji,n,d,hsb⟩;have hl3:=d.len;have T:IntKind.i64.wrap ((i:Int)+1)=(i:Int)+1:=w64 (by omega) (by omega)
   have F:(j=a\/∀x y,c[j-1]?=some x->c[j]?=some y->leK x y)->exq (λρ=>(ρ 0,ρ 1,ρ 2,ρ 3,ρ 8)) (s,Value.int .i64 a,Value.int .i64 b,EC,Value.int .i64 i) (λr h_1=>A6 Tryz.prog .add 3 (r 8) (.int .i64 1) λt16=>O ((r 0),(r 1),(r 2),(r 3)) t16 h_1) g:=by
    intro V r X;simp only[Prod.mk.injEq]at X;obtain⟨r0,r1,r2,r3,r8⟩:=X;simp only[r0,r1,r2,r3,r8,AG,T];exact Z _ _ n d (Sd hsb V)
   have E:∀(x y:Ord),a<j->c[j]?=some x->c[j-1]?=some y->ltK x y->∀B,OO h0 ((c.set j y).set (j-1) x) B s->∃(C:Nat) (H:List Ord),((j:Int)-1)=(C:Int)/\C<j/\a<=C/\C<=i/\OO h0 H B s/\Rea l H a b/\Mm H a (i+1) C:=by
    intro x y u w v f B z;exact⟨j-1,_,by omega,by omega,by omega,by omega,z,d.trans (LH w v ⟨by omega,by omega⟩ ⟨by omega,by omega⟩),Se hsb u (by omega) w v f⟩
   have J:∀(D:V5->Value->PH->Prop) Kp x2,((j=a\/∀x y,c[j-1]?=some x->c[j]?=some y->leK x y)->x2 (s,.int .i64 a,.int .i64 b,EC,.int .i64 i) g) ->
     (∀(x y:Ord),a<j->c[j]?=some x->c[j-1]?=some y->ltK x y->∀B,OO h0 ((c.set j y).set (j-1) x) B s->D (s,.int .i64 a,.int .i64 b,EC,.int .i64 i) (.int .i64 ((j:Int)-1)) B) ->
     SC Kp x2 (s,.int .i64 a,.int .i64 b,EC,.int .i64 i) D (.int .i64 j) g:=by
    intro D Kp x2 hX hK;unfold SC gAW gGW ivW
    by_cases u:a<j
    ·have f:(a:Int)<(j:Int):=by omega
     have U:IntKind.i64.wrap ((j:Int)-1)=(j:Int)-1:=w64 (by omega) (by omega);obtain⟨x,w⟩:=Bp (l:=c) (k:=j) (by omega);obtain⟨y,v⟩:=Bp (l:=c) (k:=j-1) (by omega);simp[f,U];refine GQ n w rfl ?_;refine GQ n v (by omega) ?_;refine Ng ?_;have W:x.buys=y.buys:=by rw[G6 (Gl A d) w,G6 (Gl A d) v]
     have N:=Lx W
     by_cases P:Ml x y<0
     ·simp[P]
      refine GQ n v (by omega) ?_;refine GQ n w rfl ?_;refine Mt n w rfl λB z=>?_;have S:(c.set j y)[j-1]?=some y:=by rw[List.getElem?_set_ne (by omega)];exact v
      refine Mt z S (by omega) λg5 Q=>?_;exact hK x y u w v (N.1 P) g5 Q
     ·simp[P]
      refine hX (.inr λx' y' L K=>?_);rw[v]at L;cases L;rw[w]at K;cases K;exact λhh=>P (N.2 hh)
    ·have f:¬(a:Int)<(j:Int):=by omega
     simp[f];exact hX (.inl (by omega))
   refine J _ _ _ F λx y u w v f B z=>?_;obtain⟨C,H,e,h1,h2,h3,h4,h5,h6⟩:=E x y u w v f B z;exact⟨rfl,C,h1,C,H,by rw[e],rfl,h2,h3,h4,h5,h6⟩
  exact key _ _ _ λg2 c n d M=>⟨rfl,b-(i+1),by omega,i+1,c,rfl,rfl,by omega,.inl (by omega),n,d,M⟩
 ·unfold PM eXW ivW
  have hge:¬(i:Int)<(b:Int):=by omega
  simp[hge];intro r X;exact hR _ _ ob2 hre λp q x y hp hq Y w v=>hso p q x y hp hq (by omega) w v
def UL (l l':List Ord) (a b n:Nat):Prop:=∀p,l'[p]?=if a<=p/\p<a+n then l[b+(p-a)]? else if b<=p/\p<b+n then l[a+(p-b)]? else l[p]?
theorem Ia {a b n lo hi:Nat} (M:OO h0 l h s) (W:l.length<=64) (T:a+n<=b) (S:b+n<=l.length) (O:lo<=a) (Q:b+n<=hi) {V:Value}
  (U:∀g l',OO h0 l' g s->Rea l l' lo hi->UL l l' a b n->R (.ret (.tuple #[])) g):A7 Tryz.prog 198 #[s,.int .i64 a,.int .i64 b,.int .i64 n,V] h R:=by
 refine gG ?_;unfold je eXW ivW pnW
 refine AL (λm E g=>∃(i:Nat) (c:List Ord),E = .int .i64 i/\m=n-i/\i<=n/\OO h0 c g s/\Rea l c lo hi/\UL l c a b i) n
  ⟨0,l,rfl,rfl,by omega,M,Rea.refl _ _ _,λp=>by rw[if_neg (by omega),if_neg (by omega)]⟩ ?_
 rintro m E g ⟨i,c,rfl,rfl,hin,ob2,hre,hsw⟩;have P:=hre.len
 by_cases N:i<n
 ·have key:∀(z:V4->Value->PH->Prop) Kp D,(∀C d,OO h0 d C s->Rea l d lo hi->UL l d a b (i+1)->z (s,.int .i64 a,.int .i64 b,.int .i64 n) (.int .i64 ((i:Int)+1)) C) ->
    PL Kp D (s,.int .i64 a,.int .i64 b,.int .i64 n) z (.int .i64 i) g:=by
   intro z Kp D B;unfold PL ivW;have hlt':(i:Int)<(n:Int):=by omega
   have L:IntKind.i64.wrap ((a:Int)+i)=(a:Int)+i:=w64 (by omega) (by omega);have K:IntKind.i64.wrap ((b:Int)+i)=(b:Int)+i:=w64 (by omega) (by omega);have J:IntKind.i64.wrap ((i:Int)+1)=(i:Int)+1:=w64 (by omega) (by omega);obtain⟨x,j⟩:=Bp (l:=c) (k:=a+i) (by omega);obtain⟨y,f⟩:=Bp (l:=c) (k:=b+i) (by omega);simp[hlt',L,K,J];refine GQ ob2 f (by omega) ?_;refine GQ ob2 j (by omega) ?_;refine Mt ob2 j (by omega) λZ v=>?_;have A:(c.set (a+i) y)[b+i]?=some y:=by rw[List.getElem?_set_ne (by omega)];exact f
   refine Mt v A (by omega) λY u=>?_;refine B _ _ u (hre.trans (LH j f ⟨by omega,by omega⟩ ⟨by omega,by omega⟩)) λp=>?_;rw[Ku j f];have G:=hsw (a+i);rw[if_neg (by omega),if_neg (by omega)]at G;have F:=hsw (b+i);rw[if_neg (by omega),if_neg (by omega)]at F
   by_cases I:p=b+i
   ·rw[if_pos I,if_neg (by omega),if_pos (by omega),<-j,G]
    congr 1;omega
   ·rw[if_neg I]
    by_cases H:p=a+i
    ·rw[if_pos H,if_pos (by omega),<-f,F]
     congr 1;omega
    ·rw[if_neg H,hsw p]
     have q1:(a<=p/\p<a+i)↔(a<=p/\p<a+(i+1)):=by omega
     have q2:(b<=p/\p<b+i)↔(b<=p/\p<b+(i+1)):=by omega
     simp only[q1,q2]
  exact key _ _ _ λC d w q o=>⟨rfl,n-(i+1),by omega,i+1,d,rfl,rfl,by omega,w,q,o⟩
 ·have e:i=n:=by omega
  subst e;unfold PL ivW;simp;intro r X;exact U _ _ ob2 hre hsw
def NF (l l':List Ord) (a m b:Nat):Prop:=∀p,l'[p]?=if a<=p/\p<a+(b-m)then l[p+(m-a)]? else if a+(b-m)<=p/\p<b then l[p-(b-m)]? else l[p]?
theorem XW {a m b:Nat} (S:OO h0 l h s) (hz:l.length<=64) (X:a<m) (U:m<b) (W:b<=l.length) {z:Value}
  (Y:∀g l',OO h0 l' g s->Rea l l' a b->NF l l' a m b->R (.ret (.tuple #[])) g):A7 Tryz.prog 197 #[s,.int .i64 a,.int .i64 m,.int .i64 b,z] h R:=by
 refine gH ?_;unfold jf eXW pnW;simp only[Ao];rw[w64 (x:=(m:Int)-a) (by omega) (by omega),w64 (x:=(b:Int)-m) (by omega) (by omega)]
 let T:Nat->Option Ord:=λp=>if a<=p/\p<a+(b-m)then l[p+(m-a)]? else if a+(b-m)<=p/\p<b then l[p-(b-m)]? else l[p]?
 have B:∀p,T p=if a<=p/\p<a+(b-m)then l[p+(m-a)]? else if a+(b-m)<=p/\p<b then l[p-(b-m)]? else l[p]?:=λ_=>rfl
 refine AL (λq J g=>∃(i j:Nat) (u:List Ord),J=(.int .i64 i,.int .i64 j)/\q=i+j/\0<i/\0<j/\a+i<=m/\m+j<=b/\OO h0 u g s/\Rea l u a b /\
   (∀p,p<m-i\/m+j<=p->u[p]?=T p)/\(∀p,m-i<=p->p<m-i+j->T p=u[p+i]?)/\(∀p,m-i+j<=p->p<m+j->T p=u[p-j]?)) (m-a+(b-m))
  ⟨m-a,b-m,l,by rw[show ((m-a:Nat):Int)=(m:Int)-a by omega,show ((b-m:Nat):Int)=(b:Int)-m by omega],rfl,by omega,by omega,by omega,by omega,S,Rea.refl _ _ _,
   λp L=>by rw[B,if_neg (by omega),if_neg (by omega)],λp G F=>by rw[B,if_pos (by omega)],λp G F=>by rw[B,if_neg (by omega),if_pos (by omega)]⟩ ?_
 rintro q J g ⟨i,j,u,rfl,rfl,hi,hj,hai,hjb,ob2,hre,t1,t2,t3⟩;have V:=hre.len
 have key:∀(A:V3->V2->PH->Prop) Kp C,(i=j->C (s,.int .i64 m,z,.int .i64 i) g) ->
   (j<i->∀n k,OO h0 k n s->Rea u k a b->UL u k (m-i) m j->A (s,.int .i64 m,z) (.int .i64 ((i-j:Nat):Int),.int .i64 j) n) ->
   (i<j->∀n k,OO h0 k n s->Rea u k a b->UL u k (m-i) (m+j-i) i->A (s,.int .i64 m,z) (.int .i64 i,.int .i64 ((j-i:Nat):Int)) n) ->
   S9 Kp C (s,.int .i64 m,z) A (.int .i64 i,.int .i64 j) g:=by
  intro A Kp C G F Z;unfold S9;have I:IntKind.i64.wrap ((m:Int)-i)=(m:Int)-i:=w64 (by omega) (by omega)
  by_cases o:i=j
  ·subst o
   simp;exact G rfl
  ·have c1':¬(i:Int)=(j:Int):=by omega
   by_cases y:j<i
   ·have c2':(j:Int)<(i:Int):=by omega
    simp[c1',c2',I];have H:(m:Int)-(i:Int)=((m-i:Nat):Int):=by omega
    rw[H];refine Ia ob2 (by omega) (lo:=a) (hi:=b) (by omega) (by omega) (by omega) (by omega) λn k d f c=>?_;simp only[AK.elim];have:=F y n k d f c;rw[w64 (by omega) (by omega),show (i:Int)-(j:Int)=((i-j:Nat):Int)by omega];exact this
   ·have c2':¬(j:Int)<(i:Int):=by omega
    have N:IntKind.i64.wrap ((m:Int)+j)=(m:Int)+j:=w64 (by omega) (by omega);have M:IntKind.i64.wrap ((m:Int)+j-i)=(m:Int)+j-i:=w64 (by omega) (by omega);simp[c1',c2',I,N,M];have H:(m:Int)-(i:Int)=((m-i:Nat):Int):=by omega
    have e2:(m:Int)+(j:Int)-(i:Int)=((m+j-i:Nat):Int):=by omega
    rw[H,e2];refine Ia ob2 (by omega) (lo:=a) (hi:=b) (by omega) (by omega) (by omega) (by omega) λn k d f c=>?_;simp only[AK.elim];have:=Z (by omega) n k d f c;rw[w64 (by omega) (by omega),show (j:Int)-(i:Int)=((j-i:Nat):Int)by omega];exact this
 refine key _ _ _ (λe=>?_) (λE n k d f c=>?_) (λE n k d f c=>?_)
 ·intro r K
  simp only[Prod.mk.injEq]at K;obtain⟨Q,P,O,D⟩:=K;simp only[Q,P,O,D,Ao];rw[w64 (by omega) (by omega),show (m:Int)-(i:Int)=((m-i:Nat):Int)by omega];refine Ia ob2 (by omega) (lo:=a) (hi:=b) (by omega) (by omega) (by omega) (by omega) λn k d f c=>?_;refine Y _ _ d (hre.trans f) λp=>?_;rw[<-B,c p]
  by_cases o:m-i<=p/\p<m-i+i
  ·rw[if_pos o,t2 p (by omega) (by omega)];congr 1;omega
  ·rw[if_neg o]
   by_cases y:m<=p/\p<m+i
   ·rw[if_pos y,t3 p (by omega) (by omega)];congr 1;omega
   ·rw[if_neg y,t1 p (by omega)]
 ·refine⟨rfl,i-j+j,by omega,i-j,j,k,rfl,rfl,by omega,by omega,by omega,by omega,d,hre.trans f,λp L=>?_,λp w v=>?_,λp w v=>?_⟩
  ·rw[c p]
   by_cases o:m-i<=p/\p<m-i+j
   ·rw[if_pos o,t2 p (by omega) (by omega)];congr 1;omega
   ·rw[if_neg o,if_neg (by omega),t1 p (by omega)]
  ·rw[t3 p (by omega) (by omega),c]
   by_cases o:m-i+j<=p/\p<m-i+2*j
   ·by_cases y:m-i<=p+(i-j)/\p+(i-j)<m-i+j
    ·omega
    ·rw[if_neg y,if_pos (by omega)];congr 1;omega
   ·omega
  ·rw[t3 p (by omega) (by omega),c,if_neg (by omega),if_neg (by omega)]
 ·refine⟨rfl,i+(j-i),by omega,i,j-i,k,rfl,rfl,by omega,by omega,by omega,by omega,d,hre.trans f,λp L=>?_,λp w v=>?_,λp w v=>?_⟩
  ·rw[c p]
   by_cases o:m+j-i<=p/\p<m+j-i+i
   ·rw[if_neg (by omega),if_pos o,t3 p (by omega) (by omega)];congr 1;omega
   ·rw[if_neg (by omega),if_neg o,t1 p (by omega)]
  ·rw[t2 p (by omega) (by omega),c,if_neg (by omega),if_neg (by omega)]
  ·rw[t2 p (by omega) (by omega),c,if_pos (by omega)];congr 1;omega
end
theorem F9 {n:Int} (h0:0<=n) (a:n<18446744073709551616):IntKind.u64.wrap n=n:=by
 simp[IntKind.wrap,IntKind.bits,IntKind.signed];omega
theorem XB {P:Program} {K:Value->Prop} (t:TypeId) {n:Int} (h0:0<=n):A6 P .shr t (.int .u64 n) (.int .u64 1) K↔K (.int .u64 (n/2)):=by
 refine Bi λ_ _=>?_;have e:n.fdiv 2=n/2:=Int.fdiv_eq_ediv_of_nonneg n (by omega);simp[eqGuard,binOp,Op.shift,IntKind.bits,e]
 rfl
theorem NT {P:Program} {K:Value->Prop} (t:TypeId) {x:Int} {i j:Nat} (c:x=(i:Int)+j) (hi:i+j<1000) (d:K (.int .i64 ((i+j)/2:Nat))) :
  D2 .u64 (.int .i64 x) λa=>A6 P .shr t a (.int .u64 1) λb=>D2 .i64 b K:=by
 subst c;simp only[Ct];rw[F9 (by omega) (by omega),XB t (by omega),Ct,w64 (by omega) (by omega),show ((i:Int)+(j:Int))/2=(((i+j)/2:Nat):Int)by omega];exact d
def Vk (l b:List Ord) (a i:Nat):Prop:=∀p,b[p]?=if a<=p/\p<i then l[p+1]? else if p=i then l[a]? else l[p]?
def Vl (l a:List Ord) (i m:Nat):Prop:=∀p,a[p]?=if p=i then l[m]? else if i<p/\p<=m then l[p-1]? else l[p]?
section
variable {l l':List Ord} {a b m i:Nat}
theorem UZ (h:Bh l (a+1) b) (r:Vk l l' a i) (F:a<=i) (D:i<b) (E:b<=l.length) (n:i=a\/∀x y,l[i]?=some x->l[a]?=some y->ltK x y) (o:i+1=b\/∀x y,l[i+1]?=some x->l[a]?=some y->¬ltK x y):Bh l' a b:=by
 intro p q x y J C k c d;rw[r p]at c;rw[r q]at d
 have I:∀u v (z:Ord),a+1<=u->u<v->v<b->l[v]?=some z->∃w,l[u]?=some w/\leK w z:=λu v z g H G s=>by
  have:=(Bc.1 s).1;exact⟨_,Bu (by omega),h u v _ z g H G (Bu (by omega)) s⟩
 by_cases L:q<i
 ·rw[if_pos (by omega)]at c
  rw[if_pos (by omega)]at d;exact h _ _ _ _ (by omega) (by omega) (by omega) c d
 ·by_cases A:q=i
  ·rw[if_pos (by omega)]at c
   rw[if_neg (by omega),if_pos A]at d
   rcases n with e | n
   ·omega
   ·have j:i<l.length:=by omega
    have f:l[i]?=some l[i]:=Bu j;have g:=MK (n _ _ f d)
    by_cases e:p+1=i
    ·rw[e,f]at c;cases c;exact g
    ·exact Ds (h (p+1) i x _ (by omega) (by omega) (by omega) c f) g
  ·rw[if_neg (by omega),if_neg A]at d
   by_cases K:p<i
   ·rw[if_pos (by omega)]at c
    exact h (p+1) q _ _ (by omega) (by omega) k c d
   ·by_cases t:p=i
    ·rw[if_neg (by omega),if_pos t]at c
     rcases o with e | o
     ·omega
     ·have B:=(Bc.1 d).1
      have f:l[i+1]?=some l[i+1]:=Bu (by omega);have g:leK x l[i+1]:=o _ _ f c
      by_cases e:q=i+1
      ·subst e;rw[f]at d;cases d;exact g
      ·exact Ds g (h (i+1) q _ _ (by omega) (by omega) k f d)
    ·rw[if_neg (by omega),if_neg t]at c
     exact h p q _ _ (by omega) C k c d
theorem Ua (g:Bh l a m) (s:Vl l l' i m) (n:a<=i) (z:i<=m) (o:i=a\/∀x y,l[i-1]?=some x->l[m]?=some y->¬ltK y x) (r:i=m\/∀x y,l[i]?=some x->l[m]?=some y->ltK y x):Bh l' a (m+1):=by
 intro p q x y j w A d c;rw[s p]at d;rw[s q]at c
 by_cases C:q<i
 ·rw[if_neg (by omega),if_neg (by omega)]at d c
  exact g _ _ _ _ j w (by omega) d c
 ·by_cases u:q=i
  ·rw[if_neg (by omega),if_neg (by omega)]at d
   rw[if_pos u]at c
   rcases o with e | o
   ·omega
   ·have k:i-1<l.length:=by
     have:=(Bc.1 c).1;omega
    have f:l[i-1]?=some l[i-1]:=Bu k;have h:leK l[i-1] y:=o _ _ f c
    by_cases e:p=i-1
    ·rw[e,f]at d;cases d;exact h
    ·exact Ds (g p (i-1) x _ j (by omega) (by omega) d f) h
  ·rw[if_neg u,if_pos (by omega)]at c
   by_cases B:p<i
   ·rw[if_neg (by omega),if_neg (by omega)]at d
    exact g p (q-1) _ _ j (by omega) (by omega) d c
   ·by_cases t:p=i
    ·rw[if_pos t]at d
     rcases r with e | r
     ·omega
     ·have v:=(Bc.1 c).1
      have f:l[i]?=some l[i]:=Bu (by omega);have h:leK x l[i]:=MK (r _ _ f d)
      by_cases e:q-1=i
      ·rw[e,f]at c;cases c;exact h
      ·exact Ds h (g i (q-1) _ _ n (by omega) (by omega) f c)
    ·rw[if_neg t,if_pos (by omega)]at d
     exact g (p-1) (q-1) _ _ (by omega) (by omega) (by omega) d c
end
section
variable {h h0 g:PH} {R:RT} {l l':List Ord} {s:Value} {t:Bool} {a b m:Nat}
theorem Xp (Y:OO h0 l h s) (n:∀o∈l,o.buys=t) (hz:l.length<=64) (hb:b<=l.length) (hab:a+1<b) (hs:Bh l (a+1) b)
  (hR:∀g l',OO h0 l' g s->Rea l l' a b->Bh l' a b->R (.ret (.tuple #[])) g):A7 Tryz.prog 195 #[s,.int .i64 a,.int .i64 ((a+1:Nat):Int),.int .i64 b,EC] h R:=by
 refine Rz ?_;unfold W2 aJ jq1 aI eXW gAW gGW ivW pnW;obtain⟨y,O⟩:=Bp (l:=l) (k:=a) (by omega);have h1:IntKind.i64.wrap (((a+1:Nat):Int)-a)=1:=by rw[w64 (by omega) (by omega)];omega
 simp only[Ao,h1,BC,B6,AB];refine nT ?_
 refine AL (λq E g=>∃i j:Nat,E=(.int .i64 i,.int .i64 j)/\q=j-i/\a+1<=i/\i<=j/\j<=b/\g=h/\(i=a+1\/∀x,l[i-1]?=some x->ltK x y)/\(j=b\/∀x,l[j]?=some x->¬ltK x y)) (b-(a+1))
  ⟨a+1,b,rfl,rfl,by omega,by omega,by omega,rfl,.inl rfl,.inl rfl⟩ ?_
 rintro q E g ⟨i,j,rfl,rfl,hai,hij,hjb,rfl,hL,hG⟩
 have key:∀(D:V3->V2->PH->Prop) Kp B,(i=j->B (s,.int .i64 a,.int .i64 i) g) ->
   (∀z w:Nat,w-z<j-i->a+1<=z->z<=w->w<=b->(z=a+1\/∀x,l[z-1]?=some x->ltK x y)->(w=b\/∀x,l[w]?=some x->¬ltK x y)->D (s,.int .i64 a,EC) (.int .i64 z,.int .i64 w) g) ->
   SB Kp B (s,.int .i64 a,EC) D (.int .i64 i,.int .i64 j) g:=by
  intro D Kp B hX P;unfold SB ivW;simp only[AC,AB,CF,D9];refine⟨λL=>?_,λhge=>hX (by omega)⟩;have hlt':i<j:=by omega
  simp only[AG];rw[w64 (x:=(i:Int)+j) (by omega) (by omega)];refine NT _ rfl (by omega) ?_;generalize hc:(i+j)/2=c;have hc1:i<=c:=by omega
  have hc2:c<j:=by omega
  obtain⟨x,A⟩:=Bp (l:=l) (k:=c) (by omega);refine GQ Y A rfl ?_;refine GQ Y O rfl ?_;refine Ng ?_;have M:=Lx (show x.buys=y.buys by rw[G6 n A,G6 n O]);simp only[AC,Bm,AG,AB,CF,D9,Bool.not_eq_true',Bool.not_eq_false'];rw[w64 (x:=(c:Int)+1) (by omega) (by omega)];refine⟨λhl=>?_,λhl=>?_⟩
  ·refine P (c+1) j (by omega) (by omega) (by omega) hjb (.inr λx' f=>?_) hG
   rw[show c+1-1=c by omega,A]at f;cases f;exact M.1 hl
  ·refine P i c (by omega) hai hc1 (by omega) hL (.inr λx' f=>?_)
   rw[A]at f;cases f;exact λhh=>hl (M.2 hh)
 refine key _ _ _ (λe=>?_) (λz w h1 h2 h3 h4 h5 h6=>⟨rfl,w-z,h1,z,w,rfl,rfl,h2,h3,h4,rfl,h5,h6⟩);subst e;intro r hr;simp only[Prod.mk.injEq]at hr;obtain⟨r0,r1,U⟩:=hr;simp only[r0,r1,U]
 refine AL (λq E Q=>∃(k:Nat) (C:List Ord),E = .int .i64 k/\q=i-k/\a<=k/\k+1<=i/\OO h0 C Q s/\Rea l C a b/\Vk l C a k) (i-a)
  ⟨a,l,rfl,rfl,by omega,by omega,Y,Rea.refl _ _ _,λp=>by
   rw[if_neg (by omega)]
   split
   ·rename_i e;rw[e]
   ·rfl⟩ ?_
 rintro q E Q ⟨k,C,rfl,rfl,hak,hki,ob2,hre,hmv⟩;have hl2:=hre.len
 have G:∀(D:V2->Value->PH->Prop) Kp B,(k+1=i->B () Q) ->
   (k+1<i->∀g3 F,OO h0 F g3 s->Rea l F a b->Vk l F a (k+1)->D (s,.int .i64 i) (.int .i64 ((k:Int)+1)) g3) ->
   SA Kp B (s,.int .i64 i) D (.int .i64 k) Q:=by
  intro D Kp B hX P;unfold SA ivW;simp only[Ao,AC,AB,CF,D9,AG];rw[w64 (x:=(i:Int)-1) (by omega) (by omega),w64 (x:=(k:Int)+1) (by omega) (by omega)];refine⟨λL=>?_,λhge=>hX (by omega)⟩;obtain⟨u,I⟩:=Bp (l:=C) (k:=k+1) (by omega);obtain⟨v,H⟩:=Bp (l:=C) (k:=k) (by omega);refine GQ ob2 I (by omega) ?_;refine GQ ob2 H rfl ?_;refine Mt ob2 H rfl λg4 W=>?_;have Z:(C.set k u)[k+1]?=some u:=by rw[List.getElem?_set_ne (by omega)];exact I
  refine Mt W Z (by omega) λg5 V=>?_;refine P (by omega) _ _ V (hre.trans (LH H I ⟨by omega,by omega⟩ ⟨by omega,by omega⟩)) λp=>?_;rw[Ku H I];have e1:=hmv k;rw[if_neg (by omega),if_pos rfl]at e1;have N:=hmv (k+1);rw[if_neg (by omega),if_neg (by omega)]at N
  by_cases T:p=k+1
  ·rw[if_pos T,if_neg (by omega),if_pos T,<-H,e1]
  ·rw[if_neg T]
   by_cases S:p=k
   ·rw[if_pos S,if_pos (by omega),S,<-N,I]
   ·rw[if_neg S,hmv p,if_neg S,if_neg T]
    have q1:(a<=p/\p<k)↔(a<=p/\p<k+1):=by omega
    simp only[q1]
 refine G _ _ _ (λe=>?_) (λL g3 F X J K=>⟨rfl,i-(k+1),by omega,k+1,F,rfl,rfl,by omega,by omega,X,J,K⟩);intro r2 hr2;refine hR _ _ ob2 hre (UZ hs hmv hak (by omega) hb ?_ ?_)
 ·rcases hL with N | hL
  ·exact .inl (by omega)
  ·refine .inr λx y' A d=>?_
   rw[O]at d;cases d;exact hL x (by rw[show i-1=k by omega];exact A)
 ·rw[e]
  rcases hG with N | hG
  ·exact .inl N
  ·refine .inr λx y' A d=>?_
   rw[O]at d;cases d;exact hG x A
theorem VA (Y:OO h0 l h s) (n:∀o∈l,o.buys=t) (hz:l.length<=64) (hb:m+1<=l.length) (ham:a+1<m) (hs:Bh l a m)
  (hR:∀g l',OO h0 l' g s->Rea l l' a (m+1)->Bh l' a (m+1)->R (.ret (.tuple #[])) g):A7 Tryz.prog 195 #[s,.int .i64 a,.int .i64 m,.int .i64 ((m+1:Nat):Int),EC] h R:=by
 refine Rz ?_;unfold W2 aJ jq1 aI eXW gAW gGW ivW pnW;obtain⟨y,O⟩:=Bp (l:=l) (k:=m) (by omega);have h1:IntKind.i64.wrap (((m+1:Nat):Int)-m)=1:=by rw[w64 (by omega) (by omega)];omega
 have h2:IntKind.i64.wrap ((m:Int)-a)=(m:Int)-a:=w64 (by omega) (by omega);have h3:¬((m:Int)-a=1):=by omega
 simp only[Ao,h1,h2,BC,B6,h3,BW,AB];refine⟨λe=>absurd e (by simp),λ_=>⟨λ_=>?_,λe=>absurd e (by simp)⟩⟩
 refine AL (λq F g=>∃i j:Nat,F=(.int .i64 i,.int .i64 j)/\q=j-i/\a<=i/\i<=j/\j<=m/\g=h/\(i=a\/∀x,l[i-1]?=some x->¬ltK y x)/\(j=m\/∀x,l[j]?=some x->ltK y x)) (m-a)
  ⟨a,m,rfl,rfl,by omega,by omega,by omega,rfl,.inl rfl,.inl rfl⟩ ?_
 rintro q F g ⟨i,j,rfl,rfl,hai,hij,hjb,rfl,hL,hG⟩
 have key:∀(D:V3->V2->PH->Prop) Kp B,(i=j->B (s,.int .i64 m,.int .i64 i) g) ->
   (∀z w:Nat,w-z<j-i->a<=z->z<=w->w<=m->(z=a\/∀x,l[z-1]?=some x->¬ltK y x)->(w=m\/∀x,l[w]?=some x->ltK y x)->D (s,.int .i64 m,EC) (.int .i64 z,.int .i64 w) g) ->
   Nd Kp B (s,.int .i64 m,EC) D (.int .i64 i,.int .i64 j) g:=by
  intro D Kp B hX P;unfold Nd ivW;simp only[AC,AB,CF,D9];refine⟨λM=>?_,λhge=>hX (by omega)⟩;have hlt':i<j:=by omega
  simp only[AG];rw[w64 (x:=(i:Int)+j) (by omega) (by omega)];refine NT _ rfl (by omega) ?_;generalize hc:(i+j)/2=c;have hc1:i<=c:=by omega
  have hc2:c<j:=by omega
  obtain⟨x,A⟩:=Bp (l:=l) (k:=c) (by omega);refine GQ Y O rfl ?_;refine GQ Y A rfl ?_;refine Ng ?_;have N:=Lx (show y.buys=x.buys by rw[G6 n A,G6 n O]);simp only[AC,Bm,AG,AB,CF,D9,Bool.not_eq_true',Bool.not_eq_false'];rw[w64 (x:=(c:Int)+1) (by omega) (by omega)];refine⟨λhl=>?_,λhl=>?_⟩
  ·refine P (c+1) j (by omega) (by omega) (by omega) hjb (.inr λx' f=>?_) hG
   rw[show c+1-1=c by omega,A]at f;cases f;exact λhh=>hl (N.2 hh)
  ·refine P i c (by omega) hai hc1 (by omega) hL (.inr λx' f=>?_)
   rw[A]at f;cases f;exact N.1 hl
 refine key _ _ _ (λe=>?_) (λz w h1 h2 h3 h4 h5 h6=>⟨rfl,w-z,h1,z,w,rfl,rfl,h2,h3,h4,rfl,h5,h6⟩);subst e;intro r hr;simp only[Prod.mk.injEq]at hr;obtain⟨r0,r2,U⟩:=hr;simp only[r0,r2,U]
 refine AL (λq F Q=>∃(k:Nat) (C:List Ord),F = .int .i64 k/\q=k/\i<=k/\k<=m/\OO h0 C Q s/\Rea l C a (m+1)/\Vl l C k m) m
  ⟨m,l,rfl,rfl,by omega,by omega,Y,Rea.refl _ _ _,λp=>by
   split
   ·rename_i e;rw[e]
   ·rw[if_neg (by omega)]⟩ ?_
 rintro k F Q ⟨_,C,rfl,rfl,hik,hkm,ob2,hre,hmv⟩;have hl2:=hre.len
 have H:∀(D:V2->Value->PH->Prop) Kp B,(k=i->B () Q) ->
   (i<k->∀g3 G,OO h0 G g3 s->Rea l G a (m+1)->Vl l G (k-1) m->D (s,.int .i64 i) (.int .i64 ((k-1:Nat):Int)) g3) ->
   Nc Kp B (s,.int .i64 i) D (.int .i64 k) Q:=by
  intro D Kp B hX P;unfold Nc ivW;simp only[Ao,At,AB,CF,D9,AG];rw[w64 (x:=(k:Int)-1) (by omega) (by omega)];refine⟨λM=>?_,λhge=>hX (by omega)⟩;obtain⟨u,J⟩:=Bp (l:=C) (k:=k-1) (by omega);obtain⟨v,I⟩:=Bp (l:=C) (k:=k) (by omega);refine GQ ob2 J (by omega) ?_;refine GQ ob2 I rfl ?_;refine Mt ob2 I rfl λg4 W=>?_;have Z:(C.set k u)[k-1]?=some u:=by rw[List.getElem?_set_ne (by omega)];exact J
  refine Mt W Z (by omega) λg5 V=>?_;rw[show (k:Int)-1=((k-1:Nat):Int)by omega];refine P (by omega) _ _ V (hre.trans (LH I J ⟨by omega,by omega⟩ ⟨by omega,by omega⟩)) λp=>?_;rw[Ku I J];have e1:=hmv k;rw[if_pos rfl]at e1;have E:=hmv (k-1);rw[if_neg (by omega),if_neg (by omega)]at E
  by_cases T:p=k-1
  ·rw[if_pos T,if_pos T,<-I,e1]
  ·rw[if_neg T,if_neg T]
   by_cases S:p=k
   ·rw[if_pos S,if_pos (by omega),S,<-E,J]
   ·rw[if_neg S,hmv p,if_neg S]
    have q1:(k<p/\p<=m)↔(k-1<p/\p<=m):=by omega
    simp only[q1]
 refine H _ _ _ (λe=>?_) (λM g3 G X K L=>⟨rfl,k-1,by omega,k-1,G,rfl,rfl,by omega,by omega,X,K,L⟩);intro r2 hr2;rw[e]at hmv;refine hR _ _ ob2 hre (Ua hs hmv hai (by omega) ?_ ?_)
 ·rcases hL with E | hL
  ·exact .inl E
  ·refine .inr λx y' A d=>?_
   rw[O]at d;cases d;exact hL x A
 ·rcases hG with E | hG
  ·exact .inl E
  ·refine .inr λx y' A d=>?_
   rw[O]at d;cases d;exact hG x A
end
section
variable {l l1 l2 l3:List Ord} {a b m mid st e:Nat}
theorem lX (c:NF l l1 st m e) (g:st<=m) (f:m<=e) {p:Nat} (d:p<st):l1[p]?=l[p]?:=by rw[c p,if_neg (by omega),if_neg (by omega)]
theorem ZL (c:NF l l1 st m e) (g:st<=m) (f:m<=e) {p:Nat} (d:e<=p):l1[p]?=l[p]?:=by rw[c p,if_neg (by omega),if_neg (by omega)]
theorem lY (c:NF l l1 st m e) (h:st<=m) (g:m<=e) {p:Nat} (f:st<=p) (d:p<st+(e-m)):l1[p]?=l[p+(m-st)]?:=by rw[c p,if_pos ⟨f,d⟩]
theorem ZM (c:NF l l1 st m e) (h:st<=m) (g:m<=e) {p:Nat} (f:st+(e-m)<=p) (d:p<e):l1[p]?=l[p-(e-m)]?:=by rw[c p,if_neg (by omega),if_pos ⟨f,d⟩]
theorem rJ (g:NF l l1 st m e) (d:a<=st) (k:st<=m) (j:m<=e) (f:Bh l a m):Bh l1 a st:=λp q x y i h n d c=>by
 rw[lX g k j (by omega)]at d c;exact f p q x y i h (by omega) d c
theorem rI (g:NF l l1 st m e) (i:st<=m) (h:m<=e) (r:e<=b) (n:st+e=mid+m) (f:Bh l m b):Bh l1 st mid:=λp q x y k j o d c=>by
 rw[lY g i h (by omega) (by omega)]at d c;exact f _ _ x y (by omega) (by omega) (by omega) d c
theorem rH (g:NF l l1 st m e) (d:a<=st) (i:st<=m) (h:m<=e) (n:st+e=mid+m) (f:Bh l a m):Bh l1 mid e:=λp q x y k j o d c=>by
 rw[ZM g i h (by omega) (by omega)]at d c;exact f _ _ x y (by omega) (by omega) (by omega) d c
theorem rG (g:NF l l1 st m e) (i:st<=m) (h:m<=e) (f:Bh l m b):Bh l1 e b:=λp q x y k j n d c=>by
 rw[ZL g i h (by omega)]at d c;exact f _ _ x y (by omega) (by omega) (by omega) d c
def cu (l:List Ord) (a mid b:Nat):Prop:=∀p q x y,a<=p->p<mid->mid<=q->q<b->l[p]?=some x->l[q]?=some y->leK x y
theorem rF (i:NF l l1 st m e) (J:a<=st) (n:st<=m) (j:m<=e) (I:e<=b) (H:st+e=mid+m) (w:st<=mid) (B:mid<=e) (t:Bh l a m) (s:Bh l m b) (C:b<=l.length)
  (E:a<st->e<b->∀x y,l[st-1]?=some x->l[e]?=some y->leK x y) (D:m<e->st<m->∀x y,l[e-1]?=some x->l[st]?=some y->leK x y):cu l1 a mid b:=λp q x y v A G z d c=>by
 by_cases F:p<st
 ·rw[lX i n j F]at d
  by_cases u:q<e
  ·rw[ZM i n j (by omega) u]at c
   exact t _ _ x y v (by omega) (by omega) d c
  ·rw[ZL i n j (by omega)]at c
   have g:l[st-1]?=some l[st-1]:=Bu (by omega);have f:l[e]?=some l[e]:=Bu (by omega);have k:=E (by omega) (by omega) _ _ g f
   have r:leK x l[st-1]:=by
    by_cases h:p=st-1
    ·subst h;rw[g]at d;cases d;exact LP _
    ·exact t _ _ x _ v (by omega) (by omega) d g
   have o:leK l[e] y:=by
    by_cases h:q=e
    ·subst h;rw[f]at c;cases c;exact LP _
    ·exact s _ _ _ y (by omega) (by omega) (by omega) f c
   exact Ds r (Ds k o)
 ·rw[lY i n j (by omega) (by omega)]at d
  by_cases u:q<e
  ·rw[ZM i n j (by omega) u]at c
   have g:l[e-1]?=some l[e-1]:=Bu (by omega);have f:l[st]?=some l[st]:=Bu (by omega);have k:=D (by omega) (by omega) _ _ g f
   have r:leK x l[e-1]:=by
    by_cases h:p+(m-st)=e-1
    ·rw[h,g]at d;cases d;exact LP _
    ·exact s _ _ x _ (by omega) (by omega) (by omega) d g
   have o:leK l[st] y:=by
    by_cases h:q-(e-m)=st
    ·rw[h,f]at c;cases c;exact LP _
    ·exact t _ _ _ y (by omega) (by omega) (by omega) f c
   exact Ds r (Ds k o)
  ·rw[ZL i n j (by omega)]at c
   exact s _ _ x y (by omega) (by omega) (by omega) d c
theorem Z8 (v:cu l1 a mid b) (h:a<=mid) (g:mid<=b) (i:Rea l1 l2 a mid) (s:Bh l2 a mid) (f:Rea l2 l3 mid b) (r:Bh l3 mid b):Bh l3 a b:=λp q x y k j n c d=>by
 by_cases z:q<mid
 ·rw[f.out _ (by omega)]at c d
  exact s p q x y k j z c d
 ·by_cases w:p<mid
  ·rw[f.out _ (by omega)]at c
   obtain⟨u,C,B,A⟩:=i.mem h k w c;obtain⟨t,b1,b2,o⟩:=f.mem g (by omega) n d;rw[i.out _ (by omega)]at o;exact v u t x y C B b1 b2 A o
  ·exact r p q x y (by omega) j n c d
theorem dm (c:l1.Perm l) (d:NF l l1 st m e) (g:st<=m) (f:m<=e):Rea l l1 st e:=⟨c,λp c=>by rw[d p,if_neg (by omega),if_neg (by omega)]⟩
end
section
variable {h h0 g:PH} {R:RT} {l l':List Ord} {s:Value} {t:Bool}
def mgR (s i e b:Value) (R:RT) (h:PH):Prop:=
 A6 Tryz.prog .lss 3 i e λt208=>
 gq (B5 t208) true (λo=>o e h)
 (λt210 f=>
 gq (B5 t208) true (λn=>n b f)
 (λt211 d=>
 gq (B5 t208) true (λm=>A6 Tryz.prog .lss 3 t210 t211 λk=>m k d)
 (λt212 a=>
 AP t208 t212 (.bool false) λt213=>
 dIf t213 (AA Tryz.prog 195 #[s,i,e,b,EC] a (λt219 j=>R (.ret (.tuple #[])) j) (λc h=>R (.pan c) h))
 (R (.ret (.tuple #[])) a)) d) f) h
def mgL (s a n d e b:Value) (R:RT) (h:PH):Prop:=
 A6 Tryz.prog .lss 3 a n λt194=>
 gq (B5 t194) true (λq=>q n h)
 (λt196 j=>
 gq (B5 t194) true (λp=>p d j)
 (λt197 i=>
 gq (B5 t194) true (λo=>A6 Tryz.prog .lss 3 t196 t197 λm=>o m i)
 (λt198 f=>
 AP t194 t198 (.bool false) λt199=>
 dIf t199 (AA Tryz.prog 195 #[s,a,n,d,EC] f (λt205 k=>mgR s d e b R k) (λc h=>R (.pan c) h))
 (mgR s d e b R f)) i) j) h
def mgC (s a k m d e b:Value) (R:RT) (h:PH):Prop:=
 A6 Tryz.prog .lss 3 k m λt180=>
 gq (B5 t180) true (λK=>K m h)
 (λt182 j=>
 gq (B5 t180) true (λp=>p e j)
 (λt183 i=>
 gq (B5 t180) true (λo=>A6 Tryz.prog .lss 3 t182 t183 λu=>o u i)
 (λt184 f=>
 AP t180 t184 (.bool false) λt185=>
 dIf t185 (AA Tryz.prog 197 #[s,k,m,e,EC] f (λt191 n=>mgL s a k d e b R n) (λc h=>R (.pan c) h))
 (mgL s a k d e b R f)) i) j) h
def Nh (t:Bool) (N:Nat):Prop:=∀(a m b:Nat) (l:List Ord) (s:Value) (h0 h:PH) (R:RT),b-a<=N->a<m->m<b->b<=l.length->l.length<=64->(∀o∈l,o.buys=t)->OO h0 l h s->Bh l a m->Bh l m b ->
 (∀g l',OO h0 l' g s->Rea l l' a b->Bh l' a b->R (.ret (.tuple #[])) g)->A7 Tryz.prog 195 #[s,.int .i64 a,.int .i64 m,.int .i64 b,EC] h R
theorem UT {x y z:Nat} {A B:PH->Prop} (h:PH):(A6 Tryz.prog .lss 3 (.int .i64 x) (.int .i64 y) λc=>
  gq (B5 c) true (λK=>K (.int .i64 y) h) (λu h=>gq (B5 c) true (λK=>K (.int .i64 z) h) (λv h=>gq (B5 c) true (λK=>A6 Tryz.prog .lss 3 u v λw=>K w h) (λw h=>AP c w (.bool false) λd=>dIf d (A h) (B h)) h) h) h) ↔
  (x<y/\y<z->A h)/\(¬(x<y/\y<z)->B h):=by
 by_cases a:x<y
 ·have c1':(x:Int)<(y:Int):=by omega
  by_cases b:y<z
  ·have c2':(y:Int)<(z:Int):=by omega
   simp[a,b]
  ·have c2':¬(y:Int)<(z:Int):=by omega
   simp[a,b]
 ·have c1':¬(x:Int)<(y:Int):=by omega
  simp[a]
theorem ma {a e b:Nat} {N:Nat} (u:Nh t N) (C:b-a<=N) (y:a<=e) (z:e<=b) (m:b<=l.length) (v:l.length<=64) (f:∀o∈l,o.buys=t) (q:OO h0 l h s) (p:Bh l a e) (n:Bh l e b)
  (r:∀g l',OO h0 l' g s->Rea l l' a b->Bh l' a b->R (.ret (.tuple #[])) g):mgR s (.int .i64 a) (.int .i64 e) (.int .i64 b) R h:=by
 unfold mgR;refine (UT (A:=λd=>AA Tryz.prog 195 #[s,.int .i64 a,.int .i64 e,.int .i64 b,EC] d (λt219 i=>R (.ret (.tuple #[])) i) (λc h=>R (.pan c) h)) (B:=λd=>R (.ret (.tuple #[])) d) h).2 ⟨λk=>?_,λk=>?_⟩
 ·refine u a e b l s h0 h _ C k.1 k.2 m v f q p n λg l' j x w=>?_
  exact r g l' j x w
 ·refine r h l q (Rea.refl _ _ _) ?_
  by_cases c:a=e
  ·rw[c];exact n
  ·rw[show b=e by omega];exact p
theorem mc {a j d e b:Nat} {N:Nat} (Q:Nh t N) (hN:b-d<=N) (I:d-a<=N) (Z:a<=j) (X:j<=d) (F:d<=e) (G:e<=b) (Y:b<=l.length) (V:l.length<=64) (f:∀o∈l,o.buys=t) (P:OO h0 l h s)
  (O:Bh l a j) (M:Bh l j d) (T:Bh l d e) (S:Bh l e b) (W:cu l a d b)
  (hR:∀g l',OO h0 l' g s->Rea l l' a b->Bh l' a b->R (.ret (.tuple #[])) g):mgL s (.int .i64 a) (.int .i64 j) (.int .i64 d) (.int .i64 e) (.int .i64 b) R h:=by
 unfold mgL
 have right:∀g m,OO h0 m g s->Rea l m a d->Bh m a d->mgR s (.int .i64 d) (.int .i64 e) (.int .i64 b) R g:=λg m z k E=>by
  have hl:=k.len;have e3:Bh m d e:=λp q x y L K J v u=>by rw[k.out _ (by omega)]at v u;exact T p q x y L K J v u
  have e4:Bh m e b:=λp q x y L K J v u=>by rw[k.out _ (by omega)]at v u;exact S p q x y L K J v u
  refine ma Q hN F G (by omega) (by omega) (Gl f k) z e3 e4 λg3 U w n D=>?_;exact hR g3 U w ((k.wide (Nat.le_refl _) (by omega)).trans (n.wide (by omega) (Nat.le_refl _))) (Z8 W (by omega) (by omega) k E n D)
 refine (UT (A:=λi=>AA Tryz.prog 195 #[s,.int .i64 a,.int .i64 j,.int .i64 d,EC] i (λt205 r=>mgR s (.int .i64 d) (.int .i64 e) (.int .i64 b) R r) (λc h=>R (.pan c) h)) (B:=λi=>mgR s (.int .i64 d) (.int .i64 e) (.int .i64 b) R i) h).2 ⟨λH=>?_,λH=>?_⟩
 ·refine Q a j d l s h0 h _ I H.1 H.2 (by omega) V f P O M λg l' C k E=>?_
  exact right g l' C k E
 ·refine right h l P (Rea.refl _ _ _) ?_
  by_cases c:a=j
  ·rw[c];exact M
  ·rw[show d=j by omega];exact O
theorem Zx {a f m d e b:Nat} {N:Nat} (W:Nh t N) (hN:b-d<=N) (Q:d-a<=N) (j:a<=f) (z:f<=d) (D:d<=e) (k:e<=b) (O:b<=l.length) (X:l.length<=64) (q:∀o∈l,o.buys=t) (S:OO h0 l h s)
  (v:f<=m) (u:m<=e) (L:f+e=d+m) (I:Bh l a m) (H:Bh l m b) (hA:a<f->e<b->∀x y,l[f-1]?=some x->l[e]?=some y->leK x y) (hB:m<e->f<m->∀x y,l[e-1]?=some x->l[f]?=some y->leK x y)
  (Z:∀g l',OO h0 l' g s->Rea l l' a b->Bh l' a b->R (.ret (.tuple #[])) g):mgC s (.int .i64 a) (.int .i64 f) (.int .i64 m) (.int .i64 d) (.int .i64 e) (.int .i64 b) R h:=by
 unfold mgC
 have left:∀g w,OO h0 w g s->w.Perm l->NF l w f m e->mgL s (.int .i64 a) (.int .i64 f) (.int .i64 d) (.int .i64 e) (.int .i64 b) R g:=λg w F Y n=>by
  have i:Rea l w a b:=(dm Y n v u).wide j k;have hl:=i.len;refine mc W hN Q j z D k (by omega) (by omega) (Gl q i) F (rJ n j v u I) (rI n v u k L H) (rH n j v u L I) (rG n v u H) (rF n j v u k L z D I H O hA hB) λg3 V E K J=>?_;exact Z g3 V E (i.trans K) J
 refine (UT (A:=λr=>AA Tryz.prog 197 #[s,.int .i64 f,.int .i64 m,.int .i64 e,EC] r (λt191 P=>mgL s (.int .i64 a) (.int .i64 f) (.int .i64 d) (.int .i64 e) (.int .i64 b) R P) (λc h=>R (.pan c) h)) (B:=λr=>mgL s (.int .i64 a) (.int .i64 f) (.int .i64 d) (.int .i64 e) (.int .i64 b) R r) h).2 ⟨λM=>?_,λM=>?_⟩
 ·refine XW S X M.1 M.2 (by omega) λg l' G n C=>?_
  exact left g l' G n.perm C
 ·refine left h l S (List.Perm.refl _) λp=>?_
  by_cases U:f<=p/\p<f+(e-m)
  ·rw[if_pos U];congr 1;omega
  ·rw[if_neg U]
   by_cases T:f+(e-m)<=p/\p<e
   ·rw[if_pos T];congr 1;omega
   ·rw[if_neg T]
end
section
variable {h h0 g:PH} {R:RT} {l l':List Ord} {s:Value} {t:Bool}
theorem Oy {n a b:Nat} {A M B p C:Value} {Kp:KP} {w:V8->PH->Prop} (L:OO h0 l h s) (m:∀o∈l,o.buys=t) (hz:l.length<=64)
  (h0r:a<=b) (N:b<=64) (Q:1<=n) (hn:n<=128) (J:∀c,a<=c->c<b->c<l.length/\c+1<=n/\n-1-c<l.length)
  (G:∀v,a<=v->v<=b->(v=a\/∀x y,l[v-1]?=some x->l[n-v]?=some y->leK x y)->(v=b\/∀x y,l[n-1-v]?=some x->l[v]?=some y->leK x y)->w (s,A,M,B,EC,p,C,.int .i64 v) h) :
  lf (Jx Kp w) (s,A,M,B,EC,p,C,.int .i64 ((n:Int)-1)) (.int .i64 a,.int .i64 b) h:=by
 refine AL (λq K g=>∃i j:Nat,K=(.int .i64 i,.int .i64 j)/\q=j-i/\a<=i/\i<=j/\j<=b/\g=h/\(i=a\/∀x y,l[i-1]?=some x->l[n-i]?=some y->leK x y)/\(j=b\/∀x y,l[n-1-j]?=some x->l[j]?=some y->leK x y)) (b-a)
  ⟨a,b,rfl,rfl,by omega,by omega,by omega,rfl,.inl rfl,.inl rfl⟩ ?_
 rintro q K g ⟨i,j,rfl,rfl,hai,hij,hjb,rfl,hL,hG⟩
 have key:∀(F:V8->V2->PH->Prop) Kp w,(i=j->w (s,A,M,B,EC,p,C,.int .i64 i) g) ->
   (∀u r:Nat,r-u<j-i->a<=u->u<=r->r<=b->(u=a\/∀x y,l[u-1]?=some x->l[n-u]?=some y->leK x y)->(r=b\/∀x y,l[n-1-r]?=some x->l[r]?=some y->leK x y)->F (s,A,M,B,EC,p,C,.int .i64 ((n:Int)-1)) (.int .i64 u,.int .i64 r) g) ->
   Jx Kp w (s,A,M,B,EC,p,C,.int .i64 ((n:Int)-1)) F (.int .i64 i,.int .i64 j) g:=by
  intro F Kp w X O;unfold Jx ivW;simp only[AC,AB,CF,D9];refine⟨λS=>?_,λU=>X (by omega)⟩;have hlt':i<j:=by omega
  simp only[AG];rw[w64 (x:=(i:Int)+j) (by omega) (by omega)];refine NT _ rfl (by omega) ?_;generalize hc:(i+j)/2=c;have I:i<=c:=by omega
  have W:c<j:=by omega
  have V:=J c (by omega) (by omega);obtain⟨x,E⟩:=Bp (l:=l) (k:=c) (by omega);obtain⟨y,D⟩:=Bp (l:=l) (k:=n-1-c) (by omega);simp only[Ao];rw[w64 (x:=(n:Int)-1-c) (by omega) (by omega)];refine GQ L D (by omega) ?_;refine GQ L E rfl ?_;refine Ng ?_;have z:=Lx (show y.buys=x.buys by rw[G6 m E,G6 m D]);simp only[AC,Bm,AG,AB,CF,D9,Bool.not_eq_true',Bool.not_eq_false'];rw[w64 (x:=(c:Int)+1) (by omega) (by omega)];refine⟨λH=>?_,λH=>?_⟩
  ·refine O (c+1) j (by omega) (by omega) (by omega) hjb (.inr λx' P f d=>?_) hG
   rw[show c+1-1=c by omega,E]at f;cases f;rw[show n-(c+1)=n-1-c by omega,D]at d;cases d;exact λT=>H (z.2 T)
  ·refine O i c (by omega) hai I (by omega) hL (.inr λx' P f d=>?_)
   rw[D]at f;cases f;rw[E]at d;cases d;exact MK (z.1 H)
 refine key _ _ _ (λe=>?_) (λu r h1 h2 h3 h4 Z Y=>⟨rfl,r-u,h1,u,r,rfl,rfl,h2,h3,h4,rfl,Z,Y⟩);subst e;exact G i hai hjb hL hG
theorem QW:∀N,Nh t N
 | 0=>λa m b l s h0 h R X U B=>by omega
 | N+1=>λa m b l s h0 h R X U B n z f w L K C=>by
  have V:=QW N
  by_cases c1:m=a+1
  ·subst c1;exact Xp w f z n B K C
  by_cases c2:b=m+1
  ·subst c2;exact VA w f z n (by omega) L C
  refine Rz ?_;unfold W2 aJ jq1 aI eXW gAW gGW ivW pnW;have h1:IntKind.i64.wrap ((m:Int)-a)=(m:Int)-a:=w64 (by omega) (by omega);have h2:IntKind.i64.wrap ((b:Int)-m)=(b:Int)-m:=w64 (by omega) (by omega);have Z:¬((m:Int)-a=1):=by omega
  have Y:¬((b:Int)-m=1):=by omega
  simp only[Ao,h1,h2,BC,Z,Y,BW,AB];refine⟨λe=>absurd e (by simp),λ_=>⟨λe=>absurd e (by simp),λ_=>?_⟩⟩;simp only[AG];rw[w64 (x:=(a:Int)+b) (by omega) (by omega)];refine NT _ rfl (by omega) ?_;generalize W:(a+b)/2=d;have m1:a<d:=by omega
  have m2:d<b:=by omega
  simp only[AG,Ao,At,AB,CF,D9];rw[w64 (x:=(d:Int)+m) (by omega) (by omega),w64 (x:=(d:Int)+m-b) (by omega) (by omega),w64 (x:=(d:Int)+m-1) (by omega) (by omega)];have P:(d:Int)+m-1=((d+m:Nat):Int)-1:=by omega
  rw[P];refine⟨λQ=>?_,λQ=>?_⟩
  ·rw[show (d:Int)+m-b=((d+m-b:Nat):Int)by omega]
   refine Oy w f z (by omega) (by omega) (by omega) (by omega) (λc T S=>⟨by omega,by omega,by omega⟩) λi O M u v=>?_;intro r A;simp only[Prod.mk.injEq]at A;obtain⟨H,G,F,E,D,q,p,o⟩:=A;simp only[H,G,F,E,D,q,p,o,Ao];rw[w64 (x:=(d:Int)+m-i) (by omega) (by omega),show (d:Int)+m-i=((d+m-i:Nat):Int)by omega];show mgC s (.int .i64 a) (.int .i64 i) (.int .i64 m) (.int .i64 d) (.int .i64 ((d+m-i:Nat):Int)) (.int .i64 b) R h;refine Zx V (by omega) (by omega) (by omega) (by omega) (by omega) (by omega) n z f w (by omega) (by omega) (by omega) L K (λJ I x y k j=>?_) (λJ I x y k j=>?_) C
   ·rcases u with e | u
    ·omega
    ·exact u x y k j
   ·rcases v with e | v
    ·omega
    ·refine v x y ?_ j
     rw[show d+m-1-i=d+m-i-1 by omega];exact k
  ·refine Oy w f z (by omega) (by omega) (by omega) (by omega) (λc T S=>⟨by omega,by omega,by omega⟩) λi O M u v=>?_
   intro r A;simp only[Prod.mk.injEq]at A;obtain⟨H,G,F,E,D,q,p,o⟩:=A;simp only[H,G,F,E,D,q,p,o,Ao];rw[w64 (x:=(d:Int)+m-i) (by omega) (by omega),show (d:Int)+m-i=((d+m-i:Nat):Int)by omega];show mgC s (.int .i64 a) (.int .i64 i) (.int .i64 m) (.int .i64 d) (.int .i64 ((d+m-i:Nat):Int)) (.int .i64 b) R h;refine Zx V (by omega) (by omega) (by omega) (by omega) (by omega) (by omega) n z f w (by omega) (by omega) (by omega) L K (λJ I x y k j=>?_) (λJ I x y k j=>?_) C
   ·rcases u with e | u
    ·omega
    ·exact u x y k j
   ·rcases v with e | v
    ·omega
    ·refine v x y ?_ j
     rw[show d+m-1-i=d+m-i-1 by omega];exact k
theorem Mr {a m b:Nat} (i:OO h0 l h s) (c:∀o∈l,o.buys=t) (j:l.length<=64) (f:a<m) (d:m<b) (e:b<=l.length) (n:Bh l a m) (k:Bh l m b)
  (p:∀g l',OO h0 l' g s->Rea l l' a b->Bh l' a b->R (.ret (.tuple #[])) g):A7 Tryz.prog 195 #[s,.int .i64 a,.int .i64 m,.int .i64 b,EC] h R:=
 QW (b-a) a m b l s h0 h R (Nat.le_refl _) f d e j c i n k p
def SP (l:List Ord) (z:Nat):Prop:=∀k,Bh l (k*z) (min (k*z+z) l.length)
theorem XK (ob:OO h0 l h s) (A:∀o∈l,o.buys=t) (hz:l.length<=64)
  (hR:∀g l',OO h0 l' g s->l'.Perm l->l'.Pairwise leK->R (.ret (.tuple #[])) g):A7 Tryz.prog 191 #[s,.int .i64 l.length,EC] h R:=by
 refine gM ?_;unfold jk eXW ivW pnW;generalize hn:l.length=n at *
 refine AL (λq P g=>∃(k:Nat) (X:List Ord),P=(.int .i64 ((k*20:Nat):Int),.int .i64 ((k*20+20:Nat):Int))/\q=n-k/\k*20<=n/\OO h0 X g s/\Rea l X 0 n/\(∀j,j<k->Bh X (j*20) (j*20+20))) n
  ⟨0,l,rfl,rfl,by omega,ob,Rea.refl _ _ _,λj hj=>by omega⟩ ?_
 rintro q P g ⟨k,X,rfl,rfl,hk,ob2,hre,hbk⟩;have hl2:X.length=n:=by rw[hre.len,hn]
 have key:∀(L:V4->V2->PH->Prop) Kp x0,(k*20+20<=n->∀g3 H,OO h0 H g3 s->Rea X H (k*20) (k*20+20)->Bh H (k*20) (k*20+20)->L (s,.int .i64 n,EC,.int .i64 20) (.int .i64 ((k*20+20:Nat):Int),.int .i64 ((k*20+20+20:Nat):Int)) g3) ->
   (n<k*20+20->x0 (s,.int .i64 n,EC,.int .i64 20,.int .i64 ((k*20:Nat):Int)) g) ->
   SF Kp x0 (s,.int .i64 n,EC,.int .i64 20) L (.int .i64 ((k*20:Nat):Int),.int .i64 ((k*20+20:Nat):Int)) g:=by
  intro L Kp x0 Z hX;unfold SF;simp only[EI,AB,CF,D9];refine⟨λD=>?_,λU=>hX (by omega)⟩;refine Oc ob2 (Gl A hre) (by omega) (by omega) (by omega) λg3 H K C M=>?_;simp only[AK.elim,AG];rw[w64 (by omega) (by omega)];exact Z (by omega) g3 H K C M
 refine key _ _ _ (λD g3 H K C M=>⟨rfl,n-(k+1),by omega,k+1,H,?_,rfl,by omega,K,hre.trans (C.wide (by omega) D),λj hj=>?_⟩) (λT=>?_)
 ·rw[show (k+1)*20=k*20+20 by omega]
 ·by_cases e:j=k
  ·rw[e];exact M
  ·intro p q x y G E O m f
   rw[C.out _ (by omega)]at m f;exact hbk j (by omega) p q x y G E O m f
 intro r Y;simp only[Prod.mk.injEq]at Y;obtain⟨r0,r1,r2,r6,r7⟩:=Y;simp only[r0,r1,r2,r6,r7];refine Oc ob2 (Gl A hre) (by omega) (by omega) (by omega) λg3 H K C M=>?_;simp only[AK.elim];have Q:Rea l H 0 n:=hre.trans (C.wide (by omega) (by omega));have hl3:H.length=n:=by rw[Q.len,hn]
 have hb20:SP H 20:=λj=>by
  intro p q x y G E O m f
  rcases Nat.lt_trichotomy j k with e | e | e
  ·rw[C.out _ (by omega)]at m f
   exact hbk j e p q x y G E (by omega) m f
  ·subst e
   exact M p q x y G E (by omega) m f
  ·omega
 -- the doubling
 refine AL (λq P g=>∃(z:Nat) (N:List Ord),P = .int .i64 z/\q=128-z/\20<=z/\z<=127/\OO h0 N g s/\Rea l N 0 n/\SP N z) 108 ⟨20,H,rfl,by omega,by omega,by omega,K,Q,hb20⟩ ?_;rintro q P g4 ⟨z,N,rfl,rfl,hz20,hz127,ob4,hre4,hb4⟩;have hl4:N.length=n:=by rw[hre4.len,hn]
 have key2:∀(L:V3->Value->PH->Prop) Kp x2,(n<=z->x2 () g4)->(z<n->∀W u,OO h0 u W s->Rea N u 0 n->SP u (2*z)->L (s,.int .i64 n,EC) (.int .i64 ((2*z:Nat):Int)) W) ->
   (Kp=λc h=>R (.pan c) h)->SE Kp x2 (s,.int .i64 n,EC) L (.int .i64 z) g4:=by
  intro L Kp x2 hX Z hKp;unfold SE eXW ivW;simp only[AC,AB,CF,D9];refine⟨λT=>?_,λU=>hX (by omega)⟩;have hzn:z<n:=by omega
  simp only[CG];rw[w64 (by omega) (by omega)]
  refine AL (λq P g=>∃(k:Nat) (u:List Ord),P=(.int .i64 ((k*(2*z):Nat):Int),.int .i64 ((k*(2*z)+2*z:Nat):Int))/\q=n-k/\k*(2*z)<=n/\OO h0 u g s/\Rea N u 0 n/\(∀j,j<k->Bh u (j*(2*z)) (j*(2*z)+2*z))/\(∀p,k*(2*z)<=p->u[p]?=N[p]?)) n
   ⟨0,N,by rw[show ((2:Int)*(z:Int))=((0*(2*z)+2*z:Nat):Int)by omega];simp,rfl,by omega,ob4,Rea.refl _ _ _,λj hj=>by omega,λ_ _=>rfl⟩ ?_
  rintro q P W ⟨k,u,rfl,rfl,hk,J,b,hbk5,hsame⟩;have hl5:u.length=n:=by rw[b.len,hl4]
  have F:∀o∈u,o.buys=t:=Gl A (hre4.trans b);have e2k:k*(2*z)=(2*k)*z:=by rw[Nat.mul_comm 2 k,Nat.mul_assoc]
  have e2k1:k*(2*z)+z=(2*k+1)*z:=by rw[Nat.add_mul,Nat.one_mul,<-e2k]
  have hA:∀S,S<=n->Bh u (k*(2*z)) (min (k*(2*z)+z) S):=λS hlim p q x y G E O m f=>by
   rw[hsame _ (by omega)]at m f;exact hb4 (2*k) p q x y (by omega) E (by rw[<-e2k];omega) m f
  have hB:Bh u (k*(2*z)+z) (min (k*(2*z)+2*z) n):=λp q x y G E O m f=>by
   rw[hsame _ (by omega)]at m f;refine hb4 (2*k+1) p q x y (by omega) E ?_ m f;rw[<-e2k1,hl4];omega
  generalize v:k*(2*z)=a at *;have hkk:k<=a:=by rw[<-v];exact Nat.le_mul_of_pos_right _ (by omega)
  have key3:∀(L:V4->V2->PH->Prop) Kp x4,(a+2*z<=n->∀V w,OO h0 w V s->Rea u w a (a+2*z)->Bh w a (a+2*z)->L (s,.int .i64 n,EC,.int .i64 z) (.int .i64 ((a+2*z:Nat):Int),.int .i64 ((a+2*z+2*z:Nat):Int)) V) ->
    (n<a+2*z->x4 (s,.int .i64 n,EC,.int .i64 z,.int .i64 a) W) ->
    SD Kp x4 (s,.int .i64 n,EC,.int .i64 z) L (.int .i64 a,.int .i64 ((a+2*z:Nat):Int)) W:=by
   intro L Kp x4 Z hX;unfold SD ivW;simp only[EI,AB,CF,D9];refine⟨λD=>?_,λU=>hX (by omega)⟩;simp only[AG];rw[w64 (x:=(a:Int)+z) (by omega) (by omega),show (a:Int)+z=((a+z:Nat):Int)by omega];have hA':=hA n (Nat.le_refl _);rw[show min (a+z) n=a+z by omega]at hA';have hB':=hB;rw[show min (a+2*z) n=a+2*z by omega]at hB';refine Mr J F (by omega) (by omega) (by omega) (by omega) hA' hB' λV w I d B=>?_;simp only[AK.elim,CG,AG];rw[w64 (x:=2*(z:Int)) (by omega) (by omega),w64 (by omega) (by omega),show ((a+2*z:Nat):Int)+2*(z:Int)=((a+2*z+2*z:Nat):Int)by omega];exact Z (by omega) V w I d B
  refine key3 _ _ _ (λD V w I d B=>⟨rfl,n-(k+1),by omega,k+1,w,?_,rfl,?_,I,b.trans (d.wide (by omega) D),λj hj=>?_,λp hp=>?_⟩) (λT=>?_)
  ·rw[Nat.add_mul,v,Nat.one_mul]
  ·rw[Nat.add_mul,v,Nat.one_mul];exact D
  ·by_cases e:j=k
   ·rw[e,v];exact B
   ·have hjk:j*(2*z)+2*z<=a:=by
     rw[<-v];have:(j+1)*(2*z)<=k*(2*z):=Nat.mul_le_mul_right _ (by omega);rw[Nat.add_mul,Nat.one_mul]at this;exact this
    intro p q x y G E O m f;rw[d.out _ (by omega)]at m f;exact hbk5 j (by omega) p q x y G E O m f
  ·rw[Nat.add_mul,v,Nat.one_mul]at hp
   rw[d.out _ (by omega),hsame _ (by omega)]
  intro r Y;simp only[Prod.mk.injEq]at Y;obtain⟨q0,q1,q2,q6,q7⟩:=Y;simp only[q0,q1,q2,q6,q7,AG,CG,AC,AB,CF,D9];rw[w64 (x:=(a:Int)+z) (by omega) (by omega),w64 (x:=(z:Int)*2) (by omega) (by omega),show (z:Int)*2=((2*z:Nat):Int)by omega,show (a:Int)+z=((a+z:Nat):Int)by omega]
  have fin:∀w,Rea u w a n->Bh w a n->SP w (2*z):=λw d B j p q x y G E O m f=>by
   have hl6:w.length=n:=by rw[d.len,hl5]
   rw[hl6]at O
   rcases Nat.lt_trichotomy j k with e | e | e
   ·have hjk:j*(2*z)+2*z<=a:=by
     rw[<-v];have:(j+1)*(2*z)<=k*(2*z):=Nat.mul_le_mul_right _ (by omega);rw[Nat.add_mul,Nat.one_mul]at this;exact this
    rw[d.out _ (by omega)]at m f;exact hbk5 j e p q x y G E (by omega) m f
   ·subst e
    rw[v]at G O;exact B p q x y G E (by omega) m f
   ·have:(k+1)*(2*z)<=j*(2*z):=Nat.mul_le_mul_right _ (by omega)
    rw[Nat.add_mul,Nat.one_mul,v]at this;omega
  refine⟨λhlt2=>?_,λU=>?_⟩
  ·have hA':=hA n (Nat.le_refl _)
   rw[show min (a+z) n=a+z by omega]at hA';have hB':=hB;rw[show min (a+2*z) n=n by omega]at hB';refine Mr J F (by omega) (by omega) (by omega) (by omega) hA' hB' λV w I d B=>?_;exact Z hzn V w I (b.trans (d.wide (by omega) (Nat.le_refl _))) (fin w d B)
  ·have hA':=hA n (Nat.le_refl _)
   rw[show min (a+z) n=n by omega]at hA';exact Z hzn W u J b (fin u (Rea.refl _ _ _) hA')
 refine key2 _ _ _ (λD=>?_) (λT W u J b hb5=>⟨rfl,128-2*z,by omega,2*z,u,rfl,rfl,by omega,by omega,J,hre4.trans b,hb5⟩) rfl;intro r Y;refine hR g4 N ob4 hre4.perm (da λi j x y G E O m f=>?_);exact hb4 0 i j x y (by omega) E (by omega) m f
theorem dW (f:OO h0 l h s) (a:∀o∈l,o.buys=t) (i:l.length<=64) (e:∀x∈l,∀y∈l,x.k=y.k->x.pl=y.pl->x=y)
  (q:∀g,OO h0 (CT l) g s->R (.ret (.tuple #[])) g):A7 Tryz.prog 185 #[s,EC] h R:=by
 refine gT ?_;unfold jp pnW;obtain⟨p,cap,d⟩:=GN f;rw[d];simp only[BQ];rw[<-d];refine XK f a i λg l' c n m=>?_;simp only[AK.elim];have b:=Cj l;rw[Vz (n.trans b.symm) m (MO l) (λx k y j=>e x (b.mem_iff.1 k) y (b.mem_iff.1 j))]at c;exact q g c
end
structure Fil where
 id:Int
 own:Int
 am:Int
deriving DecidableEq
def Fil.cells (f:Fil):List Value:=[.int .i64 f.id,.int .i64 f.own,.int .i64 f.am]
def Fil.a (f:Fil):Array Value:=#[.int .i64 f.id,.int .i64 f.own,.int .i64 f.am]
abbrev Fil.v (f:Fil):Value:=.agg f.a
def DR (l:List Fil):List Value:=l.flatMap Fil.cells
theorem Jn {l:List Fil}:∀v∈DR l,v.oneCell'=true:=by
 intro v b;obtain⟨o,_,a⟩:=List.mem_flatMap.1 b;simp only[Fil.cells,List.mem_cons,List.not_mem_nil,or_false]at a
 rcases a with rfl | rfl | rfl <;> rfl
theorem Jo:∀(l:List Fil) (i:Nat) (o:Fil),l[i]?=some o->∀j,j<3->(DR l)[i*3+j]?=o.cells[j]?
 | [],i,o,h,_,_=>by simp at h
 | a::l,0,o,h,j,hj=>by
  simp only[List.getElem?_cons_zero,Option.some.injEq]at h;subst h;unfold DR;rw[List.flatMap_cons,List.getElem?_append_left (by show 0*3+j<3;omega),Nat.zero_mul,Ad]
 | a::l,i+1,o,h,j,hj=>by
  simp only[List.getElem?_cons_succ]at h;unfold DR;rw[List.flatMap_cons,List.getElem?_append_right (by show 3<=_;omega)];have:=Jo l i o h j hj;unfold DR at this;rw[<-this]
  congr 1
  show (i+1)*3+j-3=_;omega
theorem Kb (l:List Fil) (f:Fil):DR l++f.a.toList=DR (l ++ [f]):=by simp[DR,Fil.cells,Fil.a]
theorem Om (o:Fil):Instr.fill (λi=>some (i*3,3)) (rep #[Value.int .i64 0,.int .i64 0,.int .i64 0] (1*3)) [(0,o.v)]=some o.a:=by
 have e:Array.range 3=#[0,1,2]:=by decide
 simp[Instr.fill,rep,Value.cells,e,Fil.a]
theorem Qn (a b c:Int):Instr.fill (λi=>[(0,1),(1,1),(2,1)][i]?) #[Value.int .i64 0,.int .i64 0,.int .i64 0] [(0,.int .i64 a),(1,.int .i64 b),(2,.int .i64 c)]=some (Fil.a ⟨a,b,c⟩):=by
 simp[Instr.fill,Value.cells,Fil.a]
theorem Gh {P:Program} {K:Value->Prop} {t:TypeId} (c:P.underlying t=some .bool) (a b:Bool):A6 P .eql t (.bool a) (.bool b) K↔K (.bool (a==b)):=
 NK (λx y=>DI (λ_=>by simp) (by simp)) rfl (by
  show Az P (Op.equalIn (9999+1) t _ _)=_;rw[Op.equalIn];exact Dh (DU c) rfl)
def BP (b:Bool) (p:Int) (o:Ord):Bool:=decide (o.buys=b/\((b=true/\p<=o.pr)\/(b=false/\o.pr<=p)))
def CZ (l:List Ord) (b:Bool) (p:Int):List Ord:=(Bj l).filter (BP b p)
def stF (s:Int×List Fil) (o:Ord):Int×List Fil:=if 0<min s.1 o.am then (s.1-min s.1 o.am,s.2 ++ [⟨o.id,o.own,min s.1 o.am⟩])else s
def Ed (l:List Ord) (n:Int) (out:List Fil):List Fil:=(l.foldl stF (n,out)).2
def DK (l:List Ord) (p n:Int):List Fil:=Ed (CT (CZ l false p)) n (Ed (CT (CZ l true p)) n [])
theorem dV (s:Int×List Fil) (o:Ord):(stF s o).2.length<=s.2.length+1:=by unfold stF;split <;> simp
theorem Jk:∀(l:List Ord) (s:Int×List Fil),(l.foldl stF s).2.length<=s.2.length+l.length
 | [],s=>by simp
 | o::l,s=>by
  have b:=Jk l (stF s o);have a:=dV s o;simp only[List.foldl_cons,List.length_cons];omega
theorem Ok {M:Int}:∀(l:List Ord) (s:Int×List Fil),0<=s.1/\s.1<=M->0<=(l.foldl stF s).1/\(l.foldl stF s).1<=M
 | [],s,h=>h
 | o::l,s,h=>by
  simp only[List.foldl_cons];refine Ok l _ ?_;unfold stF
  split <;> (try simp only) <;> omega
section
variable {h h0 g G hb:PH} {R:RT} {l l':List Ord} {s s1 s2:Value} {t:Bool} {e1 e2:TypeId} {z1 z2 n1 n2:Nat} {c1 c2:List Value}
theorem OB.os (a:OB e1 z1 hb n1 c1 G s1):OS e1 z1 s1 n1 c1 G:=AJ OS.mono (D0 (C:=emp) trivial a)
theorem OB.turn (k:OB e1 z1 hb n1 c1 G s1) (j:OB e2 z2 G n2 c2 g s2):∃h0,Sub hb h0/\OB e1 z1 h0 n1 c1 g s1/\OS e2 z2 s2 n2 c2 h0:=by
 rcases k.buf with⟨rfl,rfl,rfl⟩ | ⟨i,c,cap,rfl,p,n,r⟩
 ·exact⟨g,k.sub.trans j.sub,⟨Sub.refl g,k.len,.inl ⟨rfl,rfl,rfl⟩⟩,j.os⟩
 ·have f:∀b,b≠i->Eh g i b=g b:=λb hb=>by unfold Eh;rw[ey hb];rfl
  have m:Eh g i i=none:=by unfold Eh;rw[Nat.beq_refl];rfl
  refine⟨Eh g i,λb o d=>?_,⟨λb o d=>?_,k.len,.inr ⟨i,c,cap,rfl,j.sub _ _ p,m,r⟩⟩,j.len,?_⟩
  ·rw[f b (λe=>by rw[e,n]at d;cases d)]
   exact j.sub _ _ (k.sub _ _ d)
  ·by_cases e:b=i
   ·rw[e,m]at d;cases d
   ·rw[f b e]at d;exact d
  ·rcases j.buf with a | ⟨q,c',cap',a1,a2,a3,a4⟩
   ·exact .inl a
   ·exact .inr ⟨q,c',cap',a1,by rw[f q (λe=>by rw[e,p]at a3;cases a3)];exact a2,a4⟩
theorem dc {F:Value×Value×Value×Value×Value×Value×Value×Value×Value×Value} {p:Int} {Kp:KP} {x2:V8->PH->Prop} {r:List Ord}
  (B:Df h s r) (hz:r.length<=64) (e1:F.2.1 = .int .i64 p) (e2:F.2.2.2.2.1 = .bool t) (e3:F.2.2.2.2.2.2.2.2.1=s) (e4:F.2.2.2.2.2.2.2.2.2 = .int .i64 r.length)
  (hX:∀g C,OB 78 6 h (r.filter (BP t p)).length (ordsC (r.filter (BP t p))) g C->x2 (F.1,F.2.1,F.2.2.1,F.2.2.2.1,C,F.2.2.2.2.2.1,F.2.2.2.2.2.2.1,F.2.2.2.2.2.2.2.1) g) :
  lf (Me Kp x2) F (.slice none 0 0,.int .i64 0) h:=by
 refine AL (λq C g=>∃(i:Nat) (A:Value),C=(A,.int .i64 i)/\q=r.length-i/\i<=r.length/\OB 78 6 h ((r.take i).filter (BP t p)).length (ordsC ((r.take i).filter (BP t p))) g A) r.length
  ⟨0,.slice none 0 0,rfl,rfl,by omega,Sub.refl h,rfl,.inl ⟨rfl,rfl,rfl⟩⟩ ?_
 rintro q C g ⟨i,A,rfl,rfl,hi,ob⟩
 have hl64:((r.take i).filter (BP t p)).length<=64:=by
  have:=List.length_filter_le (BP t p) (r.take i);rw[List.length_take]at this;omega
 by_cases W:i<r.length
 ·obtain⟨o,ho⟩:=Bp (l:=r) (k:=i) W
  have hf:(r.take (i+1)).filter (BP t p)=(r.take i).filter (BP t p)++(if BP t p o then [o]else []):=by
   rw[List.take_add_one,List.filter_append,ho];cases Y:BP t p o <;> simp[Y]
  have key:∀(D:(Value×Value×Value×Value×Value×Value×Value×Value×Value×Value)->V2->PH->Prop) Kp x2,
    (∀Z s2,OB 78 6 h ((r.take (i+1)).filter (BP t p)).length (ordsC ((r.take (i+1)).filter (BP t p))) Z s2->D F (s2,.int .i64 ((i:Int)+1)) Z) ->
    Me Kp x2 F D (A,.int .i64 i) g:=by
   intro D Kp x2 a;rw[hf]at a;unfold Me CO FP gAW gGW ivW;rw[e1,e2,e3,e4];have T:(i:Int)<(r.length:Int):=by omega
   simp only[AC,T,B6,AB];refine nT ?_;refine IH (OS.mono _ _ ob.sub B) ho λc Y=>?_;have j:=ob.up (AT (.cells o.a 78 (0,0)) Y);have u:ins g c (.cells o.a 78 (0,0)) c=some (.cells o.a 78 (0,0)):=AD _ _ _;revert j u;generalize ins g c (.cells o.a 78 (0,0))=G;intro j u;have f:IntKind.i64.wrap ((i:Int)+1)=(i:Int)+1:=w64 (by omega) (by omega);have x2:=λK=>A5 (K:=K) u (show o.a[2]?=some (.int .i64 o.pr)from rfl);have z:=λK=>A5 (K:=K) u (show o.a[5]?=some (.bool o.buys)from rfl)
   have x6:∀K,A0 (some 6) (.pointer (some ⟨c,0,none⟩)) G K↔K o.v:=λK=>by
    rw[AI u (off:=0) (n:=6) (by show 0+6<=6;omega),show o.a.extract 0 (0+6)=o.a from rfl]
   have x:BP t p o=false->∀(Q:PH->Prop),(Q=D F (A,.int .i64 ((i:Int)+1)))->Q G:=λS Q U=>by
    rw[S]at a;simp only[Ba,if_false,List.append_nil]at a;rw[U];exact a _ _ j
   have M:BP t p o=true->(1*6<=2^24)/\Aj 78 6 1 #[.int .i64 0,.int .i64 0,.int .i64 0,.int .i64 0,.int .i64 0,.bool false] [(0,o.v)] G λt56 I=>
     (0<6)/\(0<48)/\(Array.size #[(.int .i64 0:Value),(.int .i64 0:Value),(.int .i64 0:Value),(.int .i64 0:Value),(.int .i64 0:Value),(.bool false:Value)]=6)/\Ab false 78 6 48 A t56 I λt57 H=>
     D F (t57,.int .i64 ((i:Int)+1)) H:=λE=>by
    rw[E]at a;simp only[if_true]at a;refine⟨by omega,_,GF o,λd hd=>⟨by omega,by omega,rfl,?_⟩⟩;have N:=j.up (AT (.cells o.a 78) hd)
    refine Db (m:=1) (news:=o.a.toList) N (by simp only[roomBytes];omega) (by omega) rfl
     (λK' V=>.inr (.inr ⟨rfl,d,0,1,1,_,_,_,rfl,AD _ _ _,by show 0+1*6<=6;omega,?_,V⟩)) (λb' off l cc hx gg cap B=>?_) λg5 s5 O=>?_
    ·intro v hv
     have:v∈ordsC [o]:=hv;exact Cy v this
    ·cases hx
     intro e
     rcases j.buf with⟨y,_⟩ | ⟨g3,c3,cap3,y,J,_⟩
     ·rw[y]at B;cases B
     ·rw[y]at B;cases B;rw[<-e,hd]at J;cases J
    ·refine a _ _ ?_
     rw[List.length_append,<-Gq];exact O
   have b:=λhy=>(M hy).2;cases hb:o.buys <;> cases L:t
   ·rw[L]at x b
    by_cases w:o.pr<=p
    ·simp[z,hb,x2,w,x6,f,Gh Tryz.underlying4]
     have:=b (by simp[BP,hb,w])
     simpa using this
    ·simp[z,hb,x2,w,f,Gh Tryz.underlying4]
     exact x (by simp[BP,hb,w]) _ rfl
   ·rw[L]at x
    simp[z,hb,x2,f,Gh Tryz.underlying4];exact x (by simp[BP,hb]) _ rfl
   ·rw[L]at x
    simp[z,hb,x2,f,Gh Tryz.underlying4];exact x (by simp[BP,hb]) _ rfl
   ·rw[L]at x b
    by_cases w:p<=o.pr
    ·simp[z,hb,x2,w,x6,f,Gh Tryz.underlying4]
     have:=b (by simp[BP,hb,w])
     simpa using this
    ·simp[z,hb,x2,w,f,Gh Tryz.underlying4]
     exact x (by simp[BP,hb,w]) _ rfl
  exact key _ _ _ λZ s2 P=>⟨rfl,r.length-(i+1),by omega,i+1,s2,rfl,rfl,by omega,P⟩
 ·have e:i=r.length:=by omega
  unfold Me CO FP gAW gGW ivW;rw[e4];have X:¬(i:Int)<(r.length:Int):=by omega
  simp only[AC,X,BW,AB];refine nF ?_;rw[e,List.take_length]at ob;exact hX _ _ ob
end
section
variable {h h0:PH} {R:RT} {s:Value} {bs:List UInt8}
theorem RQ {b:UInt8} {K:Value->PH->Prop} (k:OB 5 1 h0 bs.length (byteCells bs) h s) (z:bs.length<1073741824) (w:∀g f,OB 5 1 h0 (bs ++ [b]).length (byteCells (bs ++ [b])) g f->K f g) :
  (1*1<=2^24)/\Aj 5 1 1 #[.int .u8 0] [(0,.int .u8 b.toNat)] h λt e=>
   (0<1)/\(0<1)/\(Array.size #[(.int .u8 0:Value)]=1)/\Ab false 5 1 1 s t e K:=by
 refine⟨by omega,#[.int .u8 b.toNat],TZ b,λq n=>⟨by omega,by omega,rfl,?_⟩⟩;have d:=k.up (AT (h:=h) (.cells #[.int .u8 b.toNat] 5 (0,0)) n)
 refine Db (m:=1) (bytes:=1) (news:=byteCells [b]) d (by simp only[roomBytes];omega) (by omega) rfl
  (λF j=>.inr (.inr ⟨rfl,q,0,1,1,_,_,_,rfl,AD _ _ _,by simp,λv u=>cD (l:=[b]) v (by simpa [byteCells]using u),by simpa [byteCells]using j⟩)) (λE off y C i A r a=>?_) λg f c=>?_
 ·cases i
  intro x
  rcases k.buf with⟨e,_⟩ | ⟨B,D,p,e,o,_⟩
  ·rw[e]at a;cases a
  ·rw[e]at a;cases a
   rw[<-x,n]at o;cases o
 ·refine w g f ?_
  rw[<-Ht]at c
  simpa using c
theorem WM {K:Value->Prop} (d:OB 5 1 h0 bs.length (byteCells bs) h s) (b:K (.string ⟨bs.toArray⟩)):El s h K:=by
 rcases d.buf with⟨rfl,e,_⟩ | ⟨g,c,cap,rfl,i,_,j,f,a⟩
 ·have:bs = []:=List.eq_nil_of_length_eq_zero e
  subst this;exact .inl ⟨rfl,b⟩
 ·exact .inr ⟨g,0,bs.length,cap,c,_,_,bs,rfl,i,rfl,by simpa using a,b⟩
theorem DH {v:Int} (h0:0<=v) (A:v<9223372036854775808) (o:R (.ret (.string ⟨(Br v.toNat).toArray⟩)) h):A7 Tryz.prog 47 #[.int .i64 v] h R:=by
 refine A7.drop (oH ?_);unfold qH eXW pnW;obtain⟨n,rfl⟩:∃n:Nat,v=n:=⟨v.toNat,by omega⟩;rw[BR]at o;have e:OB 5 1 h 0 (byteCells []) h (.slice none 0 0):=⟨Sub.refl h,rfl,.inl ⟨rfl,rfl,rfl⟩⟩;have x:=Cs (n:=n) (by omega);refine AL (λm j g=>∃(k:Nat) (c:List UInt8) (d:Value),j=(.int .i64 k,d)/\m=k/\k<9223372036854775808/\OB 5 1 h c.length (byteCells c) g d/\c++Br k=Br n) n ⟨n,[],_,rfl,rfl,by omega,e,rfl⟩ ?_;rintro m j g ⟨k,c,d,rfl,rfl,hk,hw',he⟩;have a:c.length+(Br m).length=(Br n).length:=by rw[<-List.length_append,he]
 unfold cQ ivW;simp only[At,AB,CF,D9];refine⟨λu=>?_,λt=>?_⟩
 ·have f:¬m<128:=by omega
  rw[LW f]at he a;rw[J0 _ _ _ _ (by omega)];have y:((m:Int).tmod 128)=((m%128:Nat):Int):=by rw[Int.tmod_eq_emod_of_nonneg (by omega)];omega
  rw[y];simp only[AG,Ct];rw[w64 (by omega) (by omega),E2 (n:=m%128+128) (by omega) (by omega)];refine RQ hw' (by simp only[List.length_cons]at a;omega) λw i b=>?_;rw[Fx _ _ _ _ (by omega)];have z:((m:Int).tdiv 128)=((m/128:Nat):Int):=by rw[Int.tdiv_eq_ediv_of_nonneg (by omega)];omega
  rw[z,w64 (by omega) (by omega)];exact⟨trivial,m/128,by omega,m/128,_,i,rfl,rfl,by omega,b,by rw[List.append_assoc];exact he⟩
 ·have f:m<128:=by omega
  intro r l;simp only[Prod.mk.injEq]at l;obtain⟨q,p⟩:=l;rw[q,p];rw[EM f]at he a;simp only[Ct];rw[E2 (n:=m) (by omega) rfl];refine RQ hw' (by simp only[List.length_cons]at a;omega) λw i b=>?_;rw[he]at b;exact WM b ⟨h,b.sub,o⟩
theorem ZQ {t:ByteArray} (d:t.size<=1048576) (b:R (.ret (.string ⟨(Br t.size++t.data.toList).toArray⟩)) h):A7 Tryz.prog 137 #[.string t] h R:=by
 refine iS ?_;unfold ki pnW;simp only[Dp];refine DH (v:=(t.size:Int)) (by omega) (by omega) ?_;simp only[AK.elim,BR];have c:=Cs (n:=t.size) (by omega);have a:(⟨(Br t.size).toArray⟩:ByteArray).size=(Br t.size).length:=rfl;rw[Dg _ _ _ (by rw[a];omega)]
 have:(⟨(Br t.size).toArray⟩:ByteArray)++t=⟨(Br t.size++t.data.toList).toArray⟩:=by
  apply ByteArray.ext;rw[ByteArray.data_append];simp
 rw[this];exact b
theorem NM {K:Value->Prop} {l:List Int} {v:Int} (b:(C9 l).length<=1000) (h0:0<=v) (c:v<9223372036854775808):A6 Tryz.prog .add 9 (.string ⟨(C9 l).toArray⟩) (.string ⟨(Br v.toNat).toArray⟩) K↔K (.string ⟨(C9 (l ++ [v])).toArray⟩):=by
 have a:=Cs (n:=v.toNat) (by omega);rw[Dg _ _ _ (by simp only[ByteArray.size,List.size_toArray];omega)]
 have:(⟨(C9 l).toArray⟩:ByteArray)++⟨(Br v.toNat).toArray⟩=⟨(C9 (l ++ [v])).toArray⟩:=by
  apply ByteArray.ext;rw[ByteArray.data_append];simp[C9]
 rw[this]
end
end Go.Pw
