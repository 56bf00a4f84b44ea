/- Texts of this claim, one behind the other. -/
import Derived.Test.YtboeddfdbpjnjaaGreatM10
import Derived.Test.YtboeddfdbpjnjaaGreatM14
import Derived.Test.YtboeddfdbpjnjaaGreatM15
import Derived.KernelRfl
set_option linter.unusedSimpArgs false
set_option linter.unusedVariables false
namespace Go.Pw
open Go Go.Proofs
theorem dz {B:Bk} (b:B.ok) (o:Ord):(E4 B o).2.ok:=by
 unfold E4
 split
 ·exact b
 ·rename_i i
  split
  ·exact b
  ·rename_i e
   split
   ·exact b
   ·rename_i j
    have f:B0 o=true:=by
     cases h:B0 o with
     | true=>rfl
     | false=>exact absurd (.inl h) i
    have c:∀x∈B.l,x.id≠o.id:=LQ (by
     cases h:idx B.l o.id with
     | none=>rfl
     | some k=>rw[h]at e;exact absurd rfl e)
    have g:=b.nx;refine⟨λx a=>?_,?_,?_,λx a=>?_,?_,?_⟩
    ·rcases List.mem_append.1 a with a | a
     ·exact b.right x a
     ·simp at a;subst a;exact f
    ·exact List.pairwise_append.2 ⟨b.ids,by simp,λx a y d=>by simp at d;subst d;exact c x a⟩
    ·exact List.pairwise_append.2 ⟨b.pls,by simp,λx a y d=>by simp at d;subst d;exact (b.pl x a).2⟩
    ·rcases List.mem_append.1 a with a | a
     ·have:=b.pl x a;simp only;omega
     ·simp at a;subst a;simp only;omega
    ·have:=b.len;simp only[List.length_append,List.length_cons,List.length_nil];omega
    ·simp only;omega
theorem VW {B:Bk} (b:B.ok) (id own:Int):(CN B id own).2.ok:=by
 unfold CN
 split
 ·exact b
 ·rename_i k d
  split
  ·exact b
  ·split
   ·exact b
   ·have a:(B.l.eraseIdx k).Sublist B.l:=List.eraseIdx_sublist _ _
    exact⟨λx c=>b.right x (a.subset c),b.ids.sublist a,b.pls.sublist a,λx c=>b.pl x (a.subset c),Nat.le_trans a.length_le b.len,b.nx⟩
theorem Qv {B:Bk} (b:B.ok) (id own p m:Int):(Bw B id own p m).2.ok:=by
 unfold Bw
 split
 ·exact b
 ·rename_i k z
  split
  ·exact b
  ·rename_i o n
   split
   ·exact b
   ·split
    ·exact b
    ·rename_i r
     have w:B0 {o with pr:=p,am:=m} = true:=by
      cases h:B0 {o with pr:=p,am:=m} with
      | true=>rfl
      | false=>exact absurd h r
     have t:k<B.l.length:=(Bc.1 n).1;have s:=List.mem_of_getElem? n
     split
     ·refine⟨λx a=>?_,?_,?_,λx a=>?_,by simp only[List.length_set];exact b.len,b.nx⟩
      ·rcases List.mem_or_eq_of_mem_set a with a | rfl
       ·exact b.right x a
       ·exact w
      ·rw[List.pairwise_iff_getElem]
       intro i j hi u f;have d:=List.pairwise_iff_getElem.1 b.ids i j (by simpa using hi) (by simpa using u) f;have g:B.l[k]=o:=(Bc.1 n).2;simp only[List.getElem_set]
       split
       ·rename_i e;subst e
        rw[g]at d
        split
        ·omega
        ·exact d
       ·split
        ·rename_i e;subst e;rw[g]at d;exact d
        ·exact d
      ·rw[List.pairwise_iff_getElem]
       intro i j hi u f;have d:=List.pairwise_iff_getElem.1 b.pls i j (by simpa using hi) (by simpa using u) f;have g:B.l[k]=o:=(Bc.1 n).2;simp only[List.getElem_set]
       split
       ·rename_i e;subst e
        rw[g]at d
        split
        ·omega
        ·exact d
       ·split
        ·rename_i e;subst e;rw[g]at d;exact d
        ·exact d
      ·rcases List.mem_or_eq_of_mem_set a with a | rfl
       ·exact b.pl x a
       ·exact b.pl o s
     ·split
      ·exact b
      ·have c:(B.l.eraseIdx k).Sublist B.l:=List.eraseIdx_sublist _ _
       have A:=b.nx;have q:(B.l.eraseIdx k).length=B.l.length-1:=List.length_eraseIdx_of_lt t;refine⟨λx a=>?_,?_,?_,λx a=>?_,?_,?_⟩
       ·rcases List.mem_append.1 a with a | a
        ·exact b.right x (c.subset a)
        ·simp at a;subst a;exact w
       ·refine List.pairwise_append.2 ⟨b.ids.sublist c,by simp,λx a y l=>?_⟩
        simp at l;subst l;simp only;obtain⟨i,v,hi⟩:=List.mem_eraseIdx_iff_getElem?.1 a;exact Rg b.ids hi n v
       ·exact List.pairwise_append.2 ⟨b.pls.sublist c,by simp,λx a y l=>by simp at l;subst l;exact (b.pl x (c.subset a)).2⟩
       ·rcases List.mem_append.1 a with a | a
        ·have:=b.pl x (c.subset a);simp only;omega
        ·simp at a;subst a;simp only;omega
       ·have:=b.len;simp only[List.length_append,List.length_cons,List.length_nil,q];omega
       ·simp only;omega
theorem Za {B:Bk} {o:Ord} {n:Nat} (h:∀x∈B.l,x.own<n) (b:o.own<n):∀x∈(E4 B o).2.l,x.own<n:=by
 unfold E4
 repeat' split
 ·exact h
 ·exact h
 ·exact h
 ·intro x a
  rcases List.mem_append.1 a with a | a
  ·exact h x a
  ·simp at a;subst a;exact b
theorem Tq {B:Bk} {id own:Int} {n:Nat} (h:∀x∈B.l,x.own<n):∀x∈(CN B id own).2.l,x.own<n:=by
 unfold CN
 repeat' split
 all_goals first | exact h | exact λx a=>h x ((List.eraseIdx_sublist _ _).subset a)
theorem Vf {B:Bk} {id own p m:Int} {n:Nat} (h:∀x∈B.l,x.own<n):∀x∈(Bw B id own p m).2.l,x.own<n:=by
 unfold Bw
 split
 ·exact h
 ·rename_i k c
  split
  ·exact h
  ·rename_i o d
   have b:=List.mem_of_getElem? d
   repeat' split
   all_goals first | exact h | skip
   ·intro x a
    rcases List.mem_or_eq_of_mem_set a with a | rfl
    ·exact h x a
    ·exact h o b
   ·intro x a
    rcases List.mem_append.1 a with a | a
    ·exact h x ((List.eraseIdx_sublist _ _).subset a)
    ·simp at a;subst a;exact h o b
theorem FE {S:Hs} (a:S.ok) {L:Led} (g:Inv L) (e:L.goods=S.L.goods) (b:L.n=S.L.n):(S.setL L).ok:=by
 have c:(S.setL L).G=S.G:=by unfold Hs.G Hs.setL;simp only;rw[e]
 exact⟨g,by show 1<=L.n;rw[b];exact a.n1,λi hi=>a.bk i (by rw[c]at hi;exact hi),λi hi o d=>by show o.own<L.n;rw[b];exact a.own i (by rw[c]at hi;exact hi) o d,
  λi A w hi f=>by show A.ok/\A.ste=0/\A.n=L.n/\0<=w/\w<L.n;rw[b];exact a.au i A w (by rw[c]at hi;exact hi) f,a.now⟩
theorem Ny {S:Hs} (a:S.ok) {i:Nat} {B:Bk} (d:B.ok) (c:∀o∈B.l,o.own<S.L.n):(S.setBk i B).ok:=by
 refine⟨a.led,a.n1,λk hi=>?_,λk hi o h=>?_,a.au,a.now⟩
 ·show (if k=i then B else S.bk k).ok
  split
  ·exact d
  ·exact a.bk k hi
 ·have b:o∈(if k=i then B else S.bk k).l:=h
  split at b
  ·exact c o b
  ·exact a.own k hi o b
theorem Sf {S:Hs} (b:S.ok) {i:Nat} {A:Auc} {w:Int} (h:A.ok/\A.ste=0/\A.n=S.L.n/\0<=w/\w<S.L.n):(S.setAu i (some (A,w))).ok:=by
 refine⟨b.led,b.n1,b.bk,b.own,λk A' c hi d=>?_,b.now⟩;have a:(if k=i then some (A,w)else S.au k)=some (A',c):=d
 split at a
 ·cases a;exact h
 ·exact b.au k A' c hi a
section
variable {S:Hs} {who:Nat} {o:OpV}
theorem eC (a:S.ok) (c:who<S.L.n) (g:o.ok):(Hj S who o).2.ok:=by
 unfold Hj;simp only
 split
 ·exact a
 ·rename_i f
  have e:=Gb (S:=S) (who:=who) (o:=o) (by simpa using f);have k:=a.g;have h:=g.good
  split
  ·exact a
  ·split
   ·exact a
   ·have b:=BK S.L who (Cz (decide (o.side=0)) (Bn S who o).p o.am)
    have d:=Cw (BN S.L who (Cz (decide (o.side=0)) (Bn S who o).p o.am)) who o.good (Dd (decide (o.side=0)) (Bn S who o).p o.am);have j:=dz (a.bk o.good.toNat (by omega)) (Bo (Bn S who o) who o);have i:=Za (o:=Bo (Bn S who o) who o) (a.own o.good.toNat (by omega)) (by show (who:Int)<S.L.n;omega);exact FE (Ny a j i) (Jh (DS a.led c _) (by rw[b.2];exact c) _ _) (d.1.trans b.1) (d.2.trans b.2)
theorem YY (a:S.ok) (b:who<S.L.n) (e:o.ok):(De S who o).2.ok:=by
 unfold De;simp only
 split
 ·exact a
 ·rename_i d
  have c:=Gb (S:=S) (who:=who) (o:=o) (by simpa using d);have g:=a.g;have f:=e.good
  split
  ·exact a
  ·split
   ·exact a
   ·split
    ·exact a
    ·refine FE (Ny a (Qv (a.bk o.good.toNat (by omega)) _ _ _ _) (Vf (a.own o.good.toNat (by omega)))) (Jh (DS a.led b _) (by rw[(BK _ _ _).2];exact b) _ _) ((Cw _ _ _ _).1.trans (BK _ _ _).1) ((Cw _ _ _ _).2.trans (BK _ _ _).2)
theorem VX (a:S.ok) (b:who<S.L.n) (d:o.ok):(DO S who o).2.ok:=by
 unfold DO;simp only
 split
 ·exact a
 ·have f:=a.g
  have e:=d.good
  split
  ·exact a
  ·have c:=Ny (i:=o.good.toNat) a (VW (a.bk o.good.toNat (by omega)) (o.id*16+who) who) (Tq (a.own o.good.toNat (by omega)))
   split
   ·exact FE c (DS a.led b _) (BK _ _ _).1 (BK _ _ _).2
   ·exact FE c (Jh a.led b _ _) (Cw _ _ _ _).1 (Cw _ _ _ _).2
theorem Yk (a:S.ok) (d:who<S.L.n) (e:o.ok):(FC S who o).2.ok:=by
 unfold FC
 split
 ·exact a
 ·have l:=a.g
  have f:=e.good
  split
  ·exact a
  ·rename_i A w b
   obtain⟨k,j,i,h,g⟩:=a.au o.good.toNat A w (by omega) b;simp only
   split
   ·exact a
   ·split
    ·exact a
    ·split
     ·exact a
     ·have c:=Mc A who o.am
      exact FE (Sf a ⟨Lh k _ _,by rw[c.1,j],by rw[c.2.2.1,i],h,g⟩) (DS a.led d _) (BK _ _ _).1 (BK _ _ _).2
theorem Xn (a:S.ok) (c:who<S.L.n) (e:o.ok):(Dq S who o).2.ok:=by
 unfold Dq
 split
 ·exact a
 ·split
  ·exact a
  ·split
   ·exact a
   ·rename_i d
    have b:=Decidable.not_not.1 d
    split
    ·exact a
    ·split
     ·exact a
     ·exact FE (Sf a ⟨QT b,rfl,by simp[CS],by omega,by omega⟩) (TL a.led c) (LM _ _ _ _).1 (LM _ _ _ _).2
theorem jT (a:S.ok) (b:who<S.L.n) (c:o.ok):(DA S who o).S.ok:=by
 unfold DA
 repeat' split
 ·exact (Kr a).1
 ·exact FE a (fP a.led b) (NS _ _ _).1 (NS _ _ _).2
 ·exact FE a (aM a.led b) (Ks _ _ _).1 (Ks _ _ _).2
 ·exact FE a (Y0 a.led b) (JW _ _ _ _).1 (JW _ _ _ _).2
 ·exact FE a (Y1 a.led b) (Jq _ _ _ _).1 (Jq _ _ _ _).2
 ·exact Xn a b c
 ·exact Yk a b c
 ·exact eC a b c
 ·exact YY a b c
 ·exact VX a b c
 ·exact a
theorem SN (a:S.ok):(DA S who o).S.L.goods=S.L.goods/\(DA S who o).S.L.n=S.L.n:=by
 unfold DA
 repeat' split
 ·exact⟨(Kr a).2.2.1,(Kr a).2.1⟩
 ·exact NS _ _ _
 ·exact Ks _ _ _
 ·exact JW _ _ _ _
 ·exact Jq _ _ _ _
 ·exact Xo _ _ _
 ·exact Yl _ _ _
 ·exact eE _ _ _
 ·exact YZ _ _ _
 ·exact VY _ _ _
 ·exact⟨rfl,rfl⟩
theorem fG (L:Led) (i:Nat) (g n:Int):(CH L i g n).1=0\/(CH L i g n).1=1\/(CH L i g n).1=61:=by unfold CH;(repeat' split) <;> simp
theorem mQ (B:Bk) (o:Ord):0<=(E4 B o).1/\(E4 B o).1<=100:=by unfold E4;(repeat' split) <;> simp
theorem cd (B:Bk) (a b c d:Int):0<=(Bw B a b c d).1/\(Bw B a b c d).1<=100:=by unfold Bw;(repeat' split) <;> simp
theorem Yy (S:Hs) (who:Nat) (o:OpV):0<=(Bn S who o).e/\(Bn S who o).e<=100:=by
 have:=Nq o.price;unfold Bn
 split
 ·simp
 ·simp only;omega
theorem co (a:S.ok):(0<=(DA S who o).e/\(DA S who o).e<=100)/\(0<=(DA S who o).n/\(DA S who o).n<=9007199254740992):=by
 have b:=Kr a;have e:=Nq o.price;have d:=Yy S who o;have c:=fG S.L who o.good o.am;unfold DA
 repeat' split
 ·simp only;omega
 ·unfold GW;(repeat' split) <;> simp
 ·unfold EE;(repeat' split) <;> simp
 ·unfold DG;(repeat' split) <;> simp
 ·unfold DL;(repeat' split) <;> simp
 ·unfold Dq;(repeat' split) <;> simp only <;> omega
 ·unfold FC;simp only;(repeat' split) <;> first | (simp;done) | (simp only;(repeat' split) <;> simp)
 ·unfold Hj
  simp only
  split
  ·simp only;omega
  ·split
   ·unfold Gz at *;split <;> simp
   ·split
    ·have:=mQ (S.bk o.good.toNat) (Bo (Bn S who o) who o);simp only;omega
    ·simp
 ·unfold De
  simp only
  split
  ·simp only;omega
  ·split
   ·simp
   ·split
    ·simp
    ·split
     ·refine⟨?_,by simp⟩;exact cd _ _ _ _ _
     ·simp
 ·unfold DO;simp only;(repeat' split) <;> simp
 ·simp
end
structure Dn where
 t:ByteArray
 e:Int
 S:Hs
def HD (e n:Int):ByteArray:=⟨(Br e.toNat++Br n.toNat).toArray⟩
def CX (S:Hs) (who:Nat) (op:ByteArray):Did:=if (Cv op).2=0 then DA S who (Cv op).1 else ⟨0,90,S⟩
def HT (d:Did) (who:Nat) (stamp:Int):Hs:=d.S.setL (EK d.S.L who stamp (HD d.e d.n)).2
def doH (S:Hs) (who stamp:Int) (op:ByteArray):Dn:=
 if ¬(0<=who/\who<S.L.n)then ⟨⟨#[]⟩,60,S⟩else
 if stamp<1\/1099511627776<stamp then ⟨⟨#[]⟩,1,S⟩else
 if stamp<=S.L.f who.toNat 10 then ⟨⟨#[]⟩,91,S⟩else
 ⟨HD (CX S who.toNat op).e (CX S who.toNat op).n,0,HT (CX S who.toNat op) who.toNat stamp⟩
theorem IK (L:Led) (i:Nat) (s:Int) (t:ByteArray):(EK L i s t).2.goods=L.goods/\(EK L i s t).2.n=L.n:=by unfold EK;(repeat' split) <;> exact⟨rfl,rfl⟩
section
variable {h g:PH} {R:RT} {x:Nat} {nm:Nm} {S:Hs} {C:PH->Prop} {who:Nat} {o:OpV}
theorem n5 {f:Nat} (b:UK o.kind=some f) (H:HsN x nm S h) (e:nm.ok S) (i:S.ok) (j:who<S.L.n) (l:o.ok)
  (c:∀g nm',HsN x nm' (DA S who o).S g->nm'.ok (DA S who o).S->R (.ret (.tuple #[.int .i64 (DA S who o).n,.int .i64 (DA S who o).e])) g):A7 Tryz.prog f #[ptr x,.int .i64 who,o.v] h R:=by
 have a:=SN (who:=who) (o:=o) i;unfold UK at b;unfold DA at c a
 by_cases w:o.kind=1
 ·rw[if_pos w]at b c a;cases b;exact mw H e i λg d=>c g nm d (e.to a.1)
 rw[if_neg w]at b c a
 by_cases v:o.kind=2
 ·rw[if_pos v]at b c a;cases b;exact rC H i j λg d=>c g nm d (e.to a.1)
 rw[if_neg v]at b c a
 by_cases u:o.kind=3
 ·rw[if_pos u]at b c a;cases b;exact my H i j λg d=>c g nm d (e.to a.1)
 rw[if_neg u]at b c a
 by_cases t:o.kind=4
 ·rw[if_pos t]at b c a;cases b;exact fY H i j λg d=>c g nm d (e.to a.1)
 rw[if_neg t]at b c a
 by_cases s:o.kind=5
 ·rw[if_pos s]at b c a;cases b;exact fd H i j λg d=>c g nm d (e.to a.1)
 rw[if_neg s]at b c a
 by_cases r:o.kind=6
 ·rw[if_pos r]at b c a;cases b;exact fc H e i j l λg nm' d m=>c g nm' d m
 rw[if_neg r]at b c a
 by_cases q:o.kind=7
 ·rw[if_pos q]at b c a;cases b;exact mu H e i j l λg d=>c g nm d (e.to a.1)
 rw[if_neg q]at b c a
 by_cases p:o.kind=8
 ·rw[if_pos p]at b c a;cases b;exact rB H e i j l λg d=>c g nm d (e.to a.1)
 rw[if_neg p]at b c a
 by_cases n:o.kind=9
 ·rw[if_pos n]at b c a;cases b;exact fh H e i j l λg d=>c g nm d (e.to a.1)
 rw[if_neg n]at b c a
 by_cases k:o.kind=10
 ·rw[if_pos k]at b c a;cases b;exact ai H e i j l λg d=>c g nm d (e.to a.1)
 rw[if_neg k]at b;cases b
theorem Yb {o:OpV} (a:UK o.kind=none):DA S who o=⟨0,90,S⟩:=by
 unfold UK at a;unfold DA
 by_cases b:o.kind=1
 ·rw[if_pos b]at a;cases a
 by_cases c:o.kind=2
 ·rw[if_neg b,if_pos c]at a;cases a
 by_cases d:o.kind=3
 ·rw[if_neg b,if_neg c,if_pos d]at a;cases a
 by_cases e:o.kind=4
 ·rw[if_neg b,if_neg c,if_neg d,if_pos e]at a;cases a
 by_cases f:o.kind=5
 ·rw[if_neg b,if_neg c,if_neg d,if_neg e,if_pos f]at a;cases a
 by_cases i:o.kind=6
 ·rw[if_neg b,if_neg c,if_neg d,if_neg e,if_neg f,if_pos i]at a;cases a
 by_cases j:o.kind=7
 ·rw[if_neg b,if_neg c,if_neg d,if_neg e,if_neg f,if_neg i,if_pos j]at a;cases a
 by_cases l:o.kind=8
 ·rw[if_neg b,if_neg c,if_neg d,if_neg e,if_neg f,if_neg i,if_neg j,if_pos l]at a;cases a
 by_cases m:o.kind=9
 ·rw[if_neg b,if_neg c,if_neg d,if_neg e,if_neg f,if_neg i,if_neg j,if_neg l,if_pos m]at a;cases a
 by_cases k:o.kind=10
 ·rw[if_neg b,if_neg c,if_neg d,if_neg e,if_neg f,if_neg i,if_neg j,if_neg l,if_neg m,if_pos k]at a;cases a
 rw[if_neg b,if_neg c,if_neg d,if_neg e,if_neg f,if_neg i,if_neg j,if_neg l,if_neg m,if_neg k]
theorem NU (a:S.ok) (b:who<S.L.n) (op:ByteArray):(CX S who op).S.ok/\(CX S who op).S.L.goods=S.L.goods/\(CX S who op).S.L.n=S.L.n/\(0<=(CX S who op).e/\(CX S who op).e<=100)/\(0<=(CX S who op).n/\(CX S who op).n<=9007199254740992):=by
 unfold CX
 split
 ·exact⟨jT a b (LK op),(SN a).1,(SN a).2,(co a).1,(co a).2⟩
 ·exact⟨a,rfl,rfl,by simp,by simp⟩
theorem aA {d:Did} {stamp:Int} (a:d.S.ok) (b:who<d.S.L.n):(HT d who stamp).ok/\(HT d who stamp).L.goods=d.S.L.goods/\(HT d who stamp).L.n=d.S.L.n:=
 ⟨FE a (aO a.led b) (IK _ _ _ _).1 (IK _ _ _ _).2,(IK _ _ _ _).1,(IK _ _ _ _).2⟩
theorem Ot (a:S.ok) (who stamp:Int) (op:ByteArray):(doH S who stamp op).S.ok/\(doH S who stamp op).S.L.goods=S.L.goods/\(doH S who stamp op).S.L.n=S.L.n:=by
 unfold doH
 split
 ·exact⟨a,rfl,rfl⟩
 ·split
  ·exact⟨a,rfl,rfl⟩
  ·split
   ·exact⟨a,rfl,rfl⟩
   ·obtain⟨d1,d2,d3,d4,d5⟩:=NU (who:=who.toNat) a (by omega) op
    obtain⟨d,c,b⟩:=aA (who:=who.toNat) (stamp:=stamp) d1 (by rw[d3];omega);exact⟨d,c.trans d2,b.trans d3⟩
theorem Ic {K:Value->Prop} (a b:List UInt8) (c:a.length+b.length<=1000000):A6 Tryz.prog .add 9 (.string ⟨a.toArray⟩) (.string ⟨b.toArray⟩) K↔K (.string ⟨(a++b).toArray⟩):=by
 rw[Dg _ _ _ (by show a.toArray.size+b.toArray.size<=_;simp;omega)]
 have e:(⟨a.toArray⟩:ByteArray)++⟨b.toArray⟩=⟨(a++b).toArray⟩:=by
  apply ByteArray.ext;rw[ByteArray.data_append];simp
 rw[e]
theorem fa {d:Did} {stamp:Int} {R':Value->PH->Prop} (H:HsN x nm d.S h) (t:d.S.ok) (m:who<d.S.L.n) (u:0<=d.e/\d.e<=100) (p:0<=d.n/\d.n<=9007199254740992) (l:∀g,HsN x nm (HT d who stamp) g->R (.ret (.tuple #[.string (HD d.e d.n),.int .i64 0])) g) :
  AA Tryz.prog 34 #[.int .i64 d.e] h (λt83 k=>
   Aa t83 0 λt84=>
   Aa t83 1 λt85=>
   AA Tryz.prog 34 #[.int .i64 d.n] k (λt88 a=>
   Aa t88 0 λt89=>
   Aa t88 1 λt90=>
   A0 none (.pointer (some ⟨x,0,none⟩)) a λt94=>
   A6 Tryz.prog .add 9 t84 t89 λt99=>
   AA Tryz.prog 35 #[t94,.int .i64 who,.int .i64 stamp,t99] a (λt100 j=>
   A6 Tryz.prog .add 9 t84 t89 λt103=>
   R (.ret (.tuple #[t103,(.int .i64 0)])) j)
   (λc h=>R (.pan c) h))
   (λc h=>R (.pan c) h))
   (λc h=>R (.pan c) h):=by
 obtain⟨e,i⟩:∃e:Nat,d.e=e:=⟨d.e.toNat,by omega⟩;obtain⟨n,b⟩:∃n:Nat,d.n=n:=⟨d.n.toNat,by omega⟩;unfold HT HD at l;rw[i,b,BR,BR]at l;rw[i,b];have s:=Cs (n:=e) (by omega);have r:=Cs (n:=n) (by omega);refine Gc (by omega) ?_;simp only[AK.elim,Av,Au];refine Gc (by omega) ?_;simp only[AK.elim,Av,Au,H.f.lx.ld];rw[Ic _ _ (by omega)];refine fE H.f.hl m ?_;simp only[AK.elim];rw[Ic _ _ (by omega)];have f:=IK d.S.L who stamp ⟨(Br e++Br n).toArray⟩;have q:=HsN.led (L':=(EK d.S.L who stamp ⟨(Br e++Br n).toArray⟩).2) (L6 H) f.1 f.2;exact l _ (AJ HsN.mono q)
theorem rV {who stamp:Int} {op:ByteArray} (H:HsN x nm S h) (r:nm.ok S) (B:S.ok) (a:∀g nm',HsN x nm' (doH S who stamp op).S g->nm'.ok (doH S who stamp op).S->R (.ret (.tuple #[.string (doH S who stamp op).t,.int .i64 (doH S who stamp op).e])) g) :
  A7 Tryz.prog 12 #[ptr x,.int .i64 who,.int .i64 stamp,.string op] h R:=by
 refine oz ?_;unfold qk mh jq7 zq2 zq3 gAW gGW ivW pnW;have F:=H.f;rw[As Tryz.underlying28];simp only[AZ,C7,CI,BO,AH,Ad,F.lx.ld,ne_eq,Bx,C1,and_true];rw[As Tryz.underlying81];simp only[Al,cond_false,AB];refine nF ?_;unfold doH at a
 by_cases A:0<=who/\who<S.L.n
 rotate_left
 ·rw[if_pos A]at a
  refine cq F.hl (by omega) ?_;simp only[AK.elim,Av,Au];refine AX λc w=>?_;refine AN (cs:=Lz) (AD _ _ _) (by rfl) (by rfl) (by rfl) ?_;rw[An];simp only[Bm,Bool.not_false,AB];exact⟨λ_=>a _ nm (HsN.mono _ _ (AT _ w) H) r,λe=>absurd e (by simp)⟩
 rw[if_neg (λv=>v A)]at a;obtain⟨i,rfl⟩:∃i:Nat,who=i:=⟨who.toNat,by omega⟩;have hi:i<S.L.n:=by omega
 rw[BR]at a;refine Ly F.hl hi ?_;simp only[AK.elim,Av,Au];refine AX λc w=>?_;refine AN (cs:=AW S.L i) (AD _ _ _) (by rfl) (by rfl) (by rfl) ?_;rw[An];have s:HsN x nm S (ins h c (.cells (AW S.L i) 61 (0,0))):=HsN.mono _ _ (AT _ w) H;revert s;generalize ins h c (.cells (AW S.L i) 61 (0,0))=G;intro s;have E:=s.f;simp only[Bm,Bool.not_true,AB];refine nF ?_;simp only[BO,AH,Ad,E.lx.ld];refine WT E.hl hi ?_;simp only[AK.elim,Av,Au,AC]
 by_cases k:stamp<1
 ·rw[if_pos (.inl k)]at a
  simp[k];exact a _ nm s r
 by_cases m:1099511627776<stamp
 ·rw[if_pos (.inr m)]at a
  simp[k,m];exact a _ nm s r
 rw[if_neg (by omega)]at a;simp only[k,BW,AZ,C7,CI,At,m,ne_eq,Bx,C1,and_true,Al,cond_false,AB,Ba,true_and,EI]
 by_cases j:stamp<=S.L.f i 10
 ·rw[if_pos j]at a
  simp only[j,B6];exact⟨λ_=>a _ nm s r,λe=>absurd e (by simp)⟩
 rw[if_neg j]at a;simp only[j,BW];refine nF ?_;refine eU ?_;simp only[AK.elim,Av,Au];have J:=LK op;obtain⟨d1,d2,d3,d4,d5⟩:=NU B hi op
 have b:∀{d:Did} {g nm'},CX S i op=d->HsN x nm' d.S g->nm'.ok d.S->_:=λ{d g nm'} hd z p=>fa (R:=R) (R':=λ_ _=>True) (d:=d) (stamp:=stamp) (who:=i) z (by rw[<-hd];exact d1) (by rw[<-hd,d3];exact hi) (by rw[<-hd];exact d4) (by rw[<-hd];exact d5) λK y=>by
  rw[hd]at a;exact a K nm' y (p.to (IK _ _ _ _).1)
 unfold CX at b;refine AX λq I=>?_;refine AN (cs:=(Cv op).1.a) (AD _ _ _) (by rfl) (by rfl) (by cases (Cv op).1;rfl) ?_;rw[An];have t:HsN x nm S (ins G q (.cells (Cv op).1.a 25 (0,0))):=HsN.mono _ _ (AT _ I) s;have l:ins G q (.cells (Cv op).1.a 25 (0,0)) q=some (.cells (Cv op).1.a 25 (0,0)):=AD _ _ _;revert t l;generalize ins G q (.cells (Cv op).1.a 25 (0,0))=G2;intro t l;rw[BC,AB]
 by_cases u:(Cv op).2=0
 rotate_left
 ·rw[if_neg u]at b
  simp only[u,BW];exact⟨λe=>absurd e (by simp),λ_=>b (d:=⟨0,90,S⟩) rfl t r⟩
 rw[if_pos u]at b;simp only[u,B6];refine nT ?_;generalize (Cv op).1=o at *;simp only[AH,Ad];rw[A5 l (show o.a[0]?=some (.int .i64 o.kind)from rfl)];refine n7 ?_;simp only[AK.elim];cases D:UK o.kind with
 | none=>
  rw[Yb D]at b;unfold fnV;rw[Zv,AB];exact⟨λe=>absurd e (by simp),λ_=>b (d:=⟨0,90,S⟩) rfl t r⟩
 | some f=>
  unfold fnV;rw[nB,AB];refine nT ?_;rw[AI l (off:=0) (n:=6) (by show 0+6<=6;omega),show o.a.extract 0 (0+6)=o.a from rfl];refine⟨f,#[],#[],rfl,?_⟩;refine n5 (who:=i) (o:=o) D t r B hi J λg nm' z p=>?_;simp only[AK.elim,Av,Au];exact b (d:=DA S i o) rfl z p
end
abbrev Rec:=ByteArray×ByteArray
def FQ (l:List Rec):List Value:=l.flatMap λa=>[.string a.1,.string a.2]
theorem ZW (l m:List Rec):FQ (l++m)=FQ l++FQ m:=by simp[FQ]
theorem O8 (L:Led) (n:Nat):Ee L n=FQ (Fc L n):=by
 unfold Ee FQ Fc;rw[List.flatMap_map]
theorem Gp (L:Led) (n:Nat):(Fc L n).length=n:=by simp[Fc]
theorem Sx:∀(l:List Rec) (i:Nat) (a:Rec),l[i]?=some a->(FQ l)[i*2]?=some (.string a.1)/\(FQ l)[i*2+1]?=some (.string a.2)
 | [],i,a,h=>by simp at h
 | b::l,0,a,h=>by simp at h;subst h;exact⟨rfl,rfl⟩
 | b::l,i+1,a,h=>by
  have:=Sx l i a (by simpa using h);have e:FQ (b::l) = [.string b.1,.string b.2]++FQ l:=by simp[FQ]
  rw[e,List.getElem?_append_right (by simp;omega),List.getElem?_append_right (by simp;omega)];have d:(i+1)*2 - [Value.string b.1,.string b.2].length=i*2:=by simp;omega
  have c:(i+1)*2+1 - [Value.string b.1,.string b.2].length=i*2+1:=by simp;omega
  rw[d,c];exact this
theorem WA {h h0:PH} {l:List Rec} {s:Value} (f:OB 42 2 h0 l.length (FQ l) h s):Kl h s l:=by
 rcases Nat.eq_zero_or_pos l.length with hn | hn
 ·obtain⟨p,cap,e⟩:=GN f
  have:=List.eq_nil_of_length_eq_zero hn;subst this;exact⟨p,cap,e,by simp,λi a d=>by simp at d⟩
 ·obtain⟨q,c,cap,g,r,o,b⟩:=RP f hn
  have t:l.length<=cap:=by
   rcases f.buf with⟨_,k,_⟩ | ⟨m,A,n,k,z,y,x,u,w⟩
   ·omega
   ·rw[k]at g;cases g;exact u
  refine⟨_,cap,g,t,λi a d=>?_⟩;have hi:i<l.length:=(Bc.1 d).1;obtain⟨v,m⟩:=Sx l i a d;refine⟨q,0,c,_,_,rfl,r,by omega,?_⟩;apply Array.ext_getElem?;intro j;rw[Array.getElem?_extract]
  rcases Nat.lt_or_ge j 2 with hj | hj
  ·rw[if_pos (by omega),b _ (by omega)]
   match j,hj with
   | 0,_=>simpa using v
   | 1,_=>simpa using m
  ·rw[if_neg (by omega),D1 (by simpa using hj)]
def Xv (p:List UInt8) (i:Nat):ByteArray:=⟨(p ++ [UInt8.ofNat (48+i)]).toArray⟩
def Tv:List UInt8:=[98,111,111,107,47]
def Kf:List UInt8:=[99,108,111,99,107,47]
def bkR (S:Hs) (i:Nat):Rec:=(Xv Tv i,bkB (S.bk i))
def auR (S:Hs) (i:Nat):List Rec:=match S.au i with
 | some p=>[(Xv Kf i,⟨(Br p.2.toNat++(Iv p.1).data.toList).toArray⟩)]
 | none=>[]
def Hu (S:Hs):Nat->List Rec
 | 0=>[]
 | k+1=>Hu S k++auR S k
def qt (S:Hs):Rec:=(⟨#[110,111,119]⟩,⟨(Br S.now.toNat).toArray⟩)
def Im (S:Hs):List Rec:=Fc S.L S.L.n++(List.range S.G).map (bkR S)++Hu S S.G ++ [qt S]
theorem Lu (S:Hs):∀k,(Hu S k).length<=k
 | 0=>by simp[Hu]
 | k+1=>by
  have b:=Lu S k;have a:(auR S k).length<=1:=by unfold auR;split <;> simp
  simp only[Hu,List.length_append];omega
section
variable {h g:PH} {R:RT} {x:Nat} {nm:Nm} {S:Hs} {C:PH->Prop}
theorem bC (b:UInt8):Instr.fill (λi=>some (i*1,1)) (rep #[Value.int IntKind.u8 0] (1*1)) [(0,Value.int IntKind.u8 ↑b.toNat)]=some #[.int .u8 b.toNat]:=by
 have e:Array.range 1=#[0]:=by decide
 simp[Instr.fill,rep,Value.cells,e]
theorem WZ {p:List UInt8} {i:Nat} (hi:i<10) (d:p.length<=100) (c:R (.ret (.string (Xv p i))) h):A7 Tryz.prog 38 #[.string ⟨p.toArray⟩,.int .i64 i] h R:=by
 refine A7.drop (oP ?_);unfold qO ivW;rw[AG,w64 (by omega) (by omega),Ct,E2 (n:=48+i) (by omega) (by omega)];refine⟨by omega,_,bC _,λb a=>?_⟩;refine .inr ⟨b,0,1,1,_,_,_,[UInt8.ofNat (48+i)],rfl,AD _ _ _,rfl,rfl,?_⟩;refine (Ic p [UInt8.ofNat (48+i)] (by simp;omega)).2 ?_;exact⟨h,AT _ a,c⟩
theorem K6 {K:Value->PH->Prop} {h0:PH} {s:Value} {l:List Rec} {a b:ByteArray} (q:OB 42 2 h0 l.length (FQ l) h s) (B:l.length<=1000000) (z:∀g p,OB 42 2 h0 (l ++ [(a,b)]).length (FQ (l ++ [(a,b)])) g p->K p g) :
  BA [(0,1),(1,1)] #[.string ⟨#[]⟩,.string ⟨#[]⟩] [(0,.string a),(1,.string b)] λt41=>
   (1*2<=2^24)/\Aj 42 2 1 #[.string ⟨#[]⟩,.string ⟨#[]⟩] [(0,t41)] h λt42 o=>
   (0<2)/\(0<32)/\(Array.size #[(.string ⟨#[]⟩:Value),(.string ⟨#[]⟩:Value)]=2)/\Ab false 42 2 32 s t42 o K:=by
 refine⟨#[.string a,.string b],by simp[Instr.fill,Value.cells],?_⟩;refine⟨by omega,_,Ol a b,λd t=>⟨by omega,by omega,rfl,?_⟩⟩;have j:=q.up (AT (.cells #[.string a,.string b] 42) t)
 refine Db (m:=1) (news:=[.string a,.string b]) j (by simp only[roomBytes];omega) (by omega) rfl
  (λI n=>.inr (.inr ⟨rfl,d,0,1,1,_,_,_,rfl,AD _ _ _,by show 0+1*2<=2;omega,?_,n⟩)) (λH off l F y D cap i=>?_) λA w k=>?_
 ·intro v r
  simp at r
  rcases r with rfl | rfl <;> rfl
 ·cases y
  intro e
  rcases q.buf with⟨c,_⟩ | ⟨E,G,u,c,f,_⟩
  ·rw[c]at i;cases i
  ·rw[c]at i;cases i;rw[<-e,t]at f;cases f
 ·refine z A w ?_
  rw[ZW,List.length_append];exact k
theorem Y7 (H:HsN x nm S h) (Z:nm.ok S) (B:S.ok) (L:∀g s,OB 42 2 h (Im S).length (FQ (Im S)) g s->R (.ret s) g):A7 Tryz.prog 14 #[ptr x] h R:=by
 refine ox ?_;unfold qi zq4 zq5 eXW gAW gGW ivW pnW;have F:=H.f;have P:=B.cl;have hg:=B.g;rw[As Tryz.underlying28];simp only[AZ,C7,CI,BO,AH,Ad,F.lx.ld,ne_eq,Bx,C1,and_true];rw[As Tryz.underlying81];simp only[Al,cond_false,AB];refine nF ?_;refine Um F.hl B.led λg1 U ob1=>?_;simp only[AK.elim]
 have ob1':OB 42 2 h (Fc S.L S.L.n).length (FQ (Fc S.L S.L.n)) g1 U:=by
  rw[Gp,<-O8];exact ob1
 have hl0:(Fc S.L S.L.n).length<=16:=by rw[Gp];exact P
 unfold Im at L;generalize Fc S.L S.L.n=l0 at *;rw[A5 (ob1.sub _ _ F.hx) (show (GD nm S)[4]?=some (.slice (some ⟨nm.bs,0,none⟩) S.G nm.bcap)from rfl),BQ]
 refine AL (λm E g=>∃(i:Nat) (s:Value),E=(s,.int .i64 i)/\m=S.G-i/\i<=S.G/\OB 42 2 h (l0++(List.range i).map (bkR S)).length (FQ (l0++(List.range i).map (bkR S))) g s) S.G
  ⟨0,U,rfl,rfl,by omega,by simpa using ob1'⟩ ?_
 rintro m E g ⟨i,s,rfl,rfl,hi,ob⟩
 by_cases f:i<S.G
 ·have key:∀(u:V3->V2->PH->Prop) T,(∀l b,OB 42 2 h (l0++(List.range (i+1)).map (bkR S)).length (FQ (l0++(List.range (i+1)).map (bkR S))) l b->u (ptr x,.slice (some ⟨nm.bs,0,none⟩) S.G nm.bcap,.int .i64 S.G) (b,.int .i64 ((i:Int)+1)) l) ->
    UF (λc h=>R (.pan c) h) T (ptr x,.slice (some ⟨nm.bs,0,none⟩) S.G nm.bcap,.int .i64 S.G) u (s,.int .i64 i) g:=by
   intro u T t;unfold UF Xx zq4 zq5 ivW;have y:(i:Int)<(S.G:Int):=by omega
   simp only[AC,y,B6,AB,B9];refine⟨λ_=>⟨by omega,by omega,?_⟩,λe=>absurd e (by simp)⟩;rw[A5 (ob.sub _ _ F.hb) (v:=ptr (nm.ba i)) (by simpa using Z.cb i f)];refine WZ (p:=Tv) (by omega) (by simp[Tv]) ?_;simp only[AK.elim];refine cI (BkP.mono _ _ ob.sub (F.bk i f)) (B.bk i f) ?_;simp only[AK.elim];refine K6 ob (by simp;omega) λl b a=>?_;simp only[AG];rw[w64 (by omega) (by omega)];refine t l b ?_;rw[List.range_succ,List.map_append,<-List.append_assoc];exact a
  exact key _ _ λl b a=>⟨rfl,S.G-(i+1),by omega,i+1,b,rfl,rfl,by omega,a⟩
 ·have e:i=S.G:=by omega
  subst e;unfold UF Xx zq4 zq5 ivW;simp only[AC,AB];refine nF ?_;intro r I;simp only[Prod.mk.injEq]at I;obtain⟨O,N⟩:=I;simp only[O,N,BO,AH,Ad];rw[A5 (ob.sub _ _ F.hx) (show (GD nm S)[5]?=some (.slice (some ⟨nm.ss,0,none⟩) S.G S.G)from rfl),BQ];have hl1:(l0++(List.range S.G).map (bkR S)).length<=20:=by simp;omega
  generalize l0++(List.range S.G).map (bkR S)=K at *
  refine AL (λm E g=>∃(i:Nat) (s:Value),E=(s,.int .i64 i)/\m=S.G-i/\i<=S.G/\OB 42 2 h (K++Hu S i).length (FQ (K++Hu S i)) g s) S.G
   ⟨0,s,rfl,rfl,by omega,by simpa [Hu]using ob⟩ ?_
  clear ob;rintro m E g ⟨i,s,rfl,rfl,hi,ob⟩;have hla:=Lu S i
  by_cases f:i<S.G
  ·have key:∀(u:V3->V2->PH->Prop) x2,(∀l b,OB 42 2 h (K++Hu S (i+1)).length (FQ (K++Hu S (i+1))) l b->u (ptr x,.slice (some ⟨nm.ss,0,none⟩) S.G S.G,.int .i64 S.G) (b,.int .i64 ((i:Int)+1)) l) ->
     Pa (λc h=>R (.pan c) h) x2 (ptr x,.slice (some ⟨nm.ss,0,none⟩) S.G S.G,.int .i64 S.G) u (s,.int .i64 i) g:=by
    intro u x2 t;unfold Pa Xx zq4 zq5 ivW;have y:(i:Int)<(S.G:Int):=by omega
    simp only[AC,y,B6,AB,B9];refine⟨λ_=>⟨by omega,by omega,?_⟩,λe=>absurd e (by simp)⟩;rw[show 0+(i:Int).toNat*2=i*2 by omega,AI (ob.sub _ _ F.hs) (by rw[Dz];omega),QC f];refine AX λd hd=>?_;refine AN (cs:=#[Bg nm S i,.int .i64 (CV S i)]) (AD _ _ _) (by rfl) (by rfl) (by unfold Bg;cases S.au i <;> rfl) ?_;rw[An];have o:=ob.up (AT (.cells #[Bg nm S i,.int .i64 (CV S i)] 98 (0,0)) hd);have j:ins g d (.cells #[Bg nm S i,.int .i64 (CV S i)] 98 (0,0)) d=some (.cells #[Bg nm S i,.int .i64 (CV S i)] 98 (0,0)):=AD _ _ _;revert o j;generalize ins g d (.cells #[Bg nm S i,.int .i64 (CV S i)] 98 (0,0))=G;intro o j;simp only[AH,Ad];rw[A5 j (v:=Bg nm S i) rfl];cases k:S.au i with
    | none=>
     have M:Bg nm S i = .pointer none:=by unfold Bg;rw[k]
     rw[M,J1 Tryz.underlying96,AB];refine nF ?_;rw[AG,w64 (by omega) (by omega)];refine t G s ?_;have:Hu S (i+1)=Hu S i:=by simp[Hu,auR,k]
     rw[this];exact o
    | some q=>
     obtain⟨A,w⟩:=q;obtain⟨z,hA0,hAn,Y,X⟩:=B.au i A w f k;have M:Bg nm S i=ptr (nm.aa i):=by unfold Bg;rw[k]
     have hW:CV S i=w:=by unfold CV;rw[k]
     rw[M,hW]at j;rw[M,JP Tryz.underlying96,AB];refine nT ?_;rw[A5 j (v:=.int .i64 w) rfl];obtain⟨D,rfl⟩:∃D:Nat,w=D:=⟨w.toNat,by omega⟩;refine Gc (by omega) ?_;simp only[AK.elim,Av,Au,AH,Ad];rw[A5 j (v:=ptr (nm.aa i)) rfl];refine WZ (p:=Kf) (by omega) (by simp[Kf]) ?_;simp only[AK.elim];rw[A5 j (v:=ptr (nm.aa i)) rfl];refine⟨rfl,?_⟩;refine Mw ((F.au i (A,(D:Int)) f k).sub o.sub) z ?_;simp only[AK.elim];have l1':=Cs (n:=D) (by omega)
     have l2':(C9 (Ck A A.n)).length<=1000:=by
      have h1:=Ge (HA z A.n (Nat.le_refl _));have h2:=EQ A A.n;have h3:=z.n;omega
     have eB:(Iv A).data.toList=C9 (Ck A A.n):=by simp[Iv]
     have Q:Iv A=⟨(Iv A).data.toList.toArray⟩:=by simp[Iv]
     rw[Q,Ic _ _ (by rw[eB];omega)];refine K6 o (by simp;omega) λl b a=>?_;simp only[AG];rw[w64 (by omega) (by omega)];refine t l b ?_;have:Hu S (i+1)=Hu S i ++ [(Xv Kf i,⟨(Br D++(Iv A).data.toList).toArray⟩)]:=by simp[Hu,auR,k]
     rw[this,<-List.append_assoc];exact a
   exact key _ _ λl b a=>⟨rfl,S.G-(i+1),by omega,i+1,b,rfl,rfl,by omega,a⟩
  ·have e:i=S.G:=by omega
   subst e;unfold Pa Xx zq4 zq5 ivW;simp only[AC,AB];refine nF ?_;intro r I;simp only[Prod.mk.injEq]at I;obtain⟨O,N⟩:=I;simp only[O,N,BO,AH,Ad];have W:=B.now;rw[A5 (ob.sub _ _ F.hx) (show (GD nm S)[3]?=some (.int .i64 S.now)from rfl)];obtain⟨V,J⟩:∃V:Nat,S.now=V:=⟨S.now.toNat,by omega⟩;unfold qt at L;rw[J,BR]at L;rw[J];refine Gc (by omega) ?_;simp only[AK.elim,Av,Au];exact K6 ob (by simp;omega) λl b a=>L l b a
end
def Co (c g:Int):Hs:={L:=DJ c g,now:=0,bk:=λ_=>{next:=1,l:=[]},au:=λ_=>none}
theorem p9:({next:=1,l:=[]}:Bk).ok where
 right o h:=by simp at h
 ids:=List.Pairwise.nil
 pls:=List.Pairwise.nil
 pl o h:=by simp at h
 len:=by simp
 nx:=by simp
theorem T7 {c g:Int} (e:1<=c) (d:c<=16) (b:1<=g) (a:g<=4):(Co c g).ok:=
 ⟨fQ d a b,by show 1<=c.toNat;omega,λi _=>p9,λi _ o h=>(by simp[Co]at h),λi A w _ h=>(by simp[Co]at h),by simp[Co]⟩
theorem XO {nm:Nm} {S:Hs} (h:∀i,S.au i=none):rep #[.pointer none,.int .i64 0] (S.G*2)=FF nm S:=by
 apply Array.ext_getElem?;intro k
 rcases Nat.lt_or_ge k (S.G*2)with hk | hk
 ·have b:(FF nm S)[k]?=some (if k%2=0 then .pointer none else .int .i64 0):=by
   unfold FF;rw[Array.getElem?_ofFn,dif_pos hk];simp only;unfold Bg CV;rw[h]
  rw[b];unfold rep;simp only[Array.getElem?_map,Array.getElem?_range,hk,if_true,Option.map_some]
  congr 1
  have a:k%2<2:=by omega
  simp only[List.size_toArray,List.length_cons,List.length_nil]
  match hk:k%2,a with
  | 0,_=>rfl
  | 1,_=>rfl
 ·rw[D1 (by simp[rep];omega),D1 (by rw[Dz];exact hk)]
theorem Q8 {A:Nat->PH->Prop}:∀(n:Nat),(∀k,k<n->A k=emp)->CA A n=emp
 | 0,_=>rfl
 | n+1,h=>by unfold CA;rw[Q8 n λk a=>h k (by omega),h n (by omega),Ie OP]
section
variable {h g:PH} {R:RT} {x:Nat} {nm:Nm} {S:Hs} {C:PH->Prop}
theorem mf {b:Nat} {L:Led} (H:(pt x (.cells #[.int .i64 L.goods,.slice (some ⟨b,0,none⟩) L.n L.n] 149 (0,0))•pt b (.cells (Cb L) 132 (0,0))•C) h):(KC x b L•C) h:=by
 rw[<-Bf]at H;refine AU H (λg c=>?_) λ_ h=>h;have a:=AM c;have d:=AM (BX c);refine⟨a,d,λe=>?_⟩;rw[e,d]at a;injection a with h3
 injection h3 with _ h4
 exact absurd h4 (by decide)
theorem qq {e:TypeId} {esz n:Nat} {l:List Value} {s:Value} (H:(OS e esz s n l•C) h) (r:0<n):∃g c cap,s = .slice (some ⟨g,0,none⟩) n cap/\n<=cap/\(∀j,j<n*esz->c[j]?=l[j]?)/\(pt g (.cells c e (0,0))•C) h:=by
 obtain⟨h0,p,i⟩:=Iw H
 rcases i.buf with⟨_,t,_⟩ | ⟨g,c,cap,rfl,m,f,o,d,a⟩
 ·omega
 ·refine⟨g,c,cap,rfl,d,λj k=>by rw[<-a,List.getElem?_take,if_pos k,Array.getElem?_toList],?_⟩
  refine⟨one g (.cells c e (0,0)),h0,λb q=>?_,Ja m,i.sub,AD _ _ _,p⟩
  by_cases e:b=g
  ·subst e;exact f
  ·exact absurd (by unfold one;rw[Aq _ _ e]) q
def IF (ba:Nat->Nat) (n:Nat):List Value:=(List.range n).map λk=>ptr (ba k)
theorem nC (v:Value) (a:v.cells=#[v]):Instr.fill (λi=>some (i*1,1)) (rep #[Value.pointer none] (1*1)) [(0,v)]=some #[v]:=by
 have e:Array.range 1=#[0]:=by decide
 simp[Instr.fill,rep,a,e]
def hc0 (l c g:Value) (s:Value) (ss G:Nat):Array Value:=#[l,c,g,.int .i64 0,s,.slice (some ⟨ss,0,none⟩) G G]
theorem Tu (l c g v:Value) (b:l.cells=#[l]) (e:c.cells=#[c]) (d:g.cells=#[g]) (a:v.cells=#[v]) :
  Instr.fill (λi=>[(0,1),(1,1),(2,1),(3,1),(4,1),(5,1)][i]?) #[Value.pointer none,.int .i64 0,.int .i64 0,.int .i64 0,.slice none 0 0,.slice none 0 0] [(0,l),(1,c),(2,g),(5,v)]=some #[l,c,g,.int .i64 0,.slice none 0 0,v]:=by
 simp[Instr.fill,b,e,d,a]
theorem Y8 {c g:Int} (a:¬(1<=c/\c<=16/\1<=g/\g<=4)) (b:R (.ret (.tuple #[.pointer none,.int .i64 1])) h):A7 Tryz.prog 19 #[.int .i64 c,.int .i64 g] h R:=by
 refine cC ?_;unfold mM eXW ivW pnW;refine ei a ?_;simp[AK.elim];exact b
theorem lh {c g:Int} (hc1:1<=c) (hc2:c<=16) (Z:1<=g) (Y:g<=4) (hR:∀G x nm,(∀C:PH->Prop,C h->(HsN x nm (Co c g)•C) G)->nm.ok (Co c g)->R (.ret (.tuple #[ptr x,.int .i64 0])) G) :
  A7 Tryz.prog 19 #[.int .i64 c,.int .i64 g] h R:=by
 refine cC ?_;unfold mM eXW ivW pnW;refine mV hc1 hc2 Z Y λl lb V hl T=>?_;obtain⟨j,hC0,h0⟩:∃j:PH->Prop,(∀g',j g'->g'=h)/\j h:=⟨λg'=>g'=h,λ_ e=>e,rfl⟩
 have H1:(KC l lb (DJ c g)•j) (ins (ins h lb (.cells (Cb (DJ c g)) 132 (0,0))) l (.cells #[.int .i64 g,.slice (some ⟨lb,0,none⟩) c.toNat c.toNat] 149 (0,0))):=
  mf (L:=DJ c g) (Ar (by rw[Aq _ _ T];exact hl) (Ar V h0))
 revert H1;generalize ins (ins h lb (.cells (Cb (DJ c g)) 132 (0,0))) l (.cells #[.int .i64 g,.slice (some ⟨lb,0,none⟩) c.toNat c.toNat] 149 (0,0))=G1;intro H1;simp only[AK.elim,Av,Au,BB,B6,Bool.not_true,AB];refine nF ?_;refine⟨_,_,_,_,rfl,rfl,by omega,by omega,by omega,by omega,λss Q=>?_⟩;obtain⟨G,hG⟩:∃G:Nat,g=G:=⟨g.toNat,by omega⟩;subst hG;simp only[BR];refine⟨_,Tu _ _ _ _ rfl rfl rfl rfl,?_⟩;have J:(pt ss (.cells (rep #[.pointer none,.int .i64 0] (G*2)) 98 (0,0))•KC l lb (DJ c G)•j) (ins G1 ss (.cells (rep #[.pointer none,.int .i64 0] (G*2)) 98 (0,0))):=Ar Q H1;revert J;generalize ins G1 ss (.cells (rep #[.pointer none,.int .i64 0] (G*2)) 98 (0,0))=G2;intro J;refine AX λx hx=>?_;rw[show (Value.agg #[ptr l,.int .i64 c,.int .i64 G,.int .i64 0,.slice none 0 0,.slice (some ⟨ss,0,none⟩) G G]).cells=hc0 (ptr l) (.int .i64 c) (.int .i64 G) (.slice none 0 0) ss G from rfl];have N:(pt x (.cells (hc0 (ptr l) (.int .i64 c) (.int .i64 G) (.slice none 0 0) ss G) 85 (0,0))•pt ss (.cells (rep #[.pointer none,.int .i64 0] (G*2)) 98 (0,0))•KC l lb (DJ c G)•j) (ins G2 x (.cells (hc0 (ptr l) (.int .i64 c) (.int .i64 G) (.slice none 0 0) ss G) 85 (0,0))):=Ar hx J;revert N;generalize ins G2 x (.cells (hc0 (ptr l) (.int .i64 c) (.int .i64 G) (.slice none 0 0) ss G) 85 (0,0))=G3;intro N;generalize hD:(pt ss (.cells (rep #[.pointer none,.int .i64 0] (G*2)) 98 (0,0))•KC l lb (DJ c G)•j)=D at N
 refine AL (λm s' g'=>∃(i:Nat) (s:Value) (ba:Nat->Nat),s' = .int .i64 i/\m=G-i/\i<=G /\
   (pt x (.cells (hc0 (ptr l) (.int .i64 c) (.int .i64 G) s ss G) 85 (0,0))•OS 93 1 s i (IF ba i)•CA (λk=>BkP (ba k) {next:=1,l:=[]}) i•D) g') G
  ⟨0,.slice none 0 0,λ_=>0,rfl,rfl,by omega,?_⟩ ?_
 ·refine AU N (λ_ h=>h) λg' hg'=>?_
  refine D0 (h0:=g') ?_ ⟨Sub.refl _,rfl,.inl ⟨rfl,rfl,rfl⟩⟩;show (emp•D) g';exact BX (L6 hg')
 rintro m s' g' ⟨i,s,ba,rfl,rfl,hi,H⟩
 by_cases hin:i<G
 ·have key:∀(O:V2->Value->PH->Prop) x0,(∀o M f,(pt x (.cells (hc0 (ptr l) (.int .i64 c) (.int .i64 G) M ss G) 85 (0,0))•OS 93 1 M (i+1) (IF f (i+1))•CA (λk=>BkP (f k) {next:=1,l:=[]}) (i+1)•D) o->O (ptr x,.int .i64 G) (.int .i64 ((i:Int)+1)) o) ->
    UB (λc h=>R (.pan c) h) x0 (ptr x,.int .i64 G) O (.int .i64 i) g':=by
   intro O x0 W;unfold UB ivW;have U:(i:Int)<(G:Int):=by omega
   simp only[AC,U,B6,AB,BO,AH,Ad];refine nT ?_;have y:=AM H;rw[A5 y (v:=s) rfl];refine p8 λo b hb hs hC=>?_;have H4:=hC _ H;have w:=hs _ _ y;simp only[AK.elim];rw[A5 w (v:=s) rfl];refine⟨rfl,by omega,_,nC (ptr b) rfl,λd hd=>⟨by omega,by omega,rfl,?_⟩⟩;have I:(pt d (.cells #[ptr b] 93 (0,0))•BkP b {next:=1,l:=[]}•pt x (.cells (hc0 (ptr l) (.int .i64 c) (.int .i64 G) s ss G) 85 (0,0))•OS 93 1 s i (IF ba i)•CA (λk=>BkP (ba k) {next:=1,l:=[]}) i•D) (ins o d (.cells #[ptr b] 93 (0,0))):=Ar hd H4;revert I;generalize ins o d (.cells #[ptr b] 93 (0,0))=g3;intro I;have hdd:=AM I
   have e5:pt d (.cells #[ptr b] 93 (0,0))•BkP b {next:=1,l:=[]}•pt x (.cells (hc0 (ptr l) (.int .i64 c) (.int .i64 G) s ss G) 85 (0,0))•OS 93 1 s i (IF ba i)•CA (λk=>BkP (ba k) {next:=1,l:=[]}) i•D =
     OS 93 1 s i (IF ba i)•(pt d (.cells #[ptr b] 93 (0,0))•BkP b {next:=1,l:=[]}•pt x (.cells (hc0 (ptr l) (.int .i64 c) (.int .i64 G) s ss G) 85 (0,0))•CA (λk=>BkP (ba k) {next:=1,l:=[]}) i•D):=by ac_rfl
   rw[e5]at I;obtain⟨h6,B,t⟩:=Iw I;have hd6:=AM B
   refine Db (m:=1) (news:=[ptr b]) t (by simp only[roomBytes];omega) (by omega) rfl
    (λK' X=>.inr (.inr ⟨rfl,d,0,1,1,_,_,_,rfl,hdd,by show 0+1*1<=1;omega,(by intro v hv;simp at hv;subst hv;rfl),X⟩)) (λb' off l' cc P gg cap a=>?_) λg7 K q=>?_
   ·cases P
    intro e
    rcases t.buf with⟨n,_⟩ | ⟨g3,c3,cap3,n,h2',E,_⟩
    ·rw[n]at a;cases a
    ·rw[n]at a;cases a;rw[<-e,hd6]at E;cases E
   have H7:=D0 B q
   have e7:OS 93 1 K (i+1) (IF ba i ++ [ptr b])•(pt d (.cells #[ptr b] 93 (0,0))•BkP b {next:=1,l:=[]}•pt x (.cells (hc0 (ptr l) (.int .i64 c) (.int .i64 G) s ss G) 85 (0,0))•CA (λk=>BkP (ba k) {next:=1,l:=[]}) i•D) =
     pt x (.cells (hc0 (ptr l) (.int .i64 c) (.int .i64 G) s ss G) 85 (0,0))•(OS 93 1 K (i+1) (IF ba i ++ [ptr b])•(CA (λk=>BkP (ba k) {next:=1,l:=[]}) i•BkP b {next:=1,l:=[]})•(D•pt d (.cells #[ptr b] 93 (0,0)))):=by ac_rfl
   rw[e7]at H7;have u:=AM H7;rw[Aw u (by show 4<6;omega) (by rcases q.buf with⟨e,_⟩ | ⟨_,_,_,e,_⟩ <;> rw[e] <;> rfl)];simp only[AG];rw[w64 (by omega) (by omega)];have H8:=Bb (p:=.cells (hc0 (ptr l) (.int .i64 c) (.int .i64 G) K ss G) 85 (0,0)) H7;refine W _ K (λk=>if k=i then b else ba k) ?_;refine AU H8 (λ_ h=>h) λ_ h=>AU h (λ_ h=>?_) λ_ h=>AU h (λ_ h=>?_) λ_ h=>AJ ?_ h
   ·have e8:IF (λk=>if k=i then b else ba k) (i+1)=IF ba i ++ [ptr b]:=by
     unfold IF;rw[List.range_succ,List.map_append]
     congr 1
     ·refine List.map_congr_left λk z=>?_
      have:=List.mem_range.1 z;show ptr (if k=i then b else ba k)=ptr (ba k);rw[if_neg (by omega)]
     ·simp
    rw[e8];exact h
   ·unfold CA
    have e9:CA (λk=>BkP (if k=i then b else ba k) {next:=1,l:=[]}) i=CA (λk=>BkP (ba k) {next:=1,l:=[]}) i:=HL _ λk z=>by
     show BkP (if k=i then b else ba k) _=BkP (ba k) _;rw[if_neg (by omega)]
    have e10:BkP ((λk=>if k=i then b else ba k) i) {next:=1,l:=[]} = BkP b {next:=1,l:=[]}:=by simp
    show (CA (λk=>BkP (if k=i then b else ba k) {next:=1,l:=[]}) i•BkP ((λk=>if k=i then b else ba k) i) {next:=1,l:=[]}) _;rw[e9,e10];exact h
   ·rw[<-hD];exact A8 _ _
  exact key _ _ λo M f J=>⟨rfl,G-(i+1),by omega,i+1,M,f,rfl,rfl,by omega,J⟩
 ·have e:i=G:=by omega
  subst e;unfold UB ivW;simp only[AC,AB];refine nF ?_;intro r hr;simp only[hr];rw[<-hD]at H
  have e9:pt x (.cells (hc0 (ptr l) (.int .i64 c) (.int .i64 i) s ss i) 85 (0,0))•OS 93 1 s i (IF ba i)•CA (λk=>BkP (ba k) {next:=1,l:=[]}) i•(pt ss (.cells (rep #[.pointer none,.int .i64 0] (i*2)) 98 (0,0))•KC l lb (DJ c i)•j) =
    OS 93 1 s i (IF ba i)•(pt x (.cells (hc0 (ptr l) (.int .i64 c) (.int .i64 i) s ss i) 85 (0,0))•CA (λk=>BkP (ba k) {next:=1,l:=[]}) i•(pt ss (.cells (rep #[.pointer none,.int .i64 0] (i*2)) 98 (0,0))•KC l lb (DJ c i)•j)):=by ac_rfl
  rw[e9]at H;obtain⟨bs,cb,bcap,rfl,A,hcb,H⟩:=qq H (by omega);have F:(Co c i).G=i:=by unfold Hs.G Co DJ;simp
  refine hR g' x {l:=l,lb:=lb,bs:=bs,bcap:=bcap,cb:=cb,ss:=ss,ba:=ba,aa:=λ_=>0,ab:=λ_=>0} (λC hC=>?_) ⟨λk z=>?_,by rw[F];exact A⟩
  ·unfold HsN
   have e1:hsO {l:=l,lb:=lb,bs:=bs,bcap:=bcap,cb:=cb,ss:=ss,ba:=ba,aa:=λ_=>0,ab:=λ_=>0} (Co c i) = .cells (hc0 (ptr l) (.int .i64 c) (.int .i64 i) (.slice (some ⟨bs,0,none⟩) i bcap) ss i) 85 (0,0):=by
    unfold hsO GD hc0;rw[F];have:((Co c i).L.n:Int)=c:=by show ((c.toNat:Nat):Int)=c;omega
    rw[this];rfl
   have e2:saO {l:=l,lb:=lb,bs:=bs,bcap:=bcap,cb:=cb,ss:=ss,ba:=ba,aa:=λ_=>0,ab:=λ_=>0} (Co c i) = .cells (rep #[.pointer none,.int .i64 0] (i*2)) 98 (0,0):=by
    unfold saO;rw[<-XO (S:=Co c i) (λ_=>rfl),F]
   rw[e1,e2,F];have e3:CA (auP {l:=l,lb:=lb,bs:=bs,bcap:=bcap,cb:=cb,ss:=ss,ba:=ba,aa:=λ_=>0,ab:=λ_=>0} (Co c i)) i=emp:=Q8 i λk _=>rfl;rw[e3,Ie (Gu _ _)]
   have e4:(pt x (.cells (hc0 (ptr l) (.int .i64 c) (.int .i64 i) (.slice (some ⟨bs,0,none⟩) i bcap) ss i) 85 (0,0))•KC l lb (Co c i).L•pt bs (boO {l:=l,lb:=lb,bs:=bs,bcap:=bcap,cb:=cb,ss:=ss,ba:=ba,aa:=λ_=>0,ab:=λ_=>0})•pt ss (.cells (rep #[.pointer none,.int .i64 0] (i*2)) 98 (0,0))•CA (bkP {l:=l,lb:=lb,bs:=bs,bcap:=bcap,cb:=cb,ss:=ss,ba:=ba,aa:=λ_=>0,ab:=λ_=>0} (Co c i)) i)•C =
     pt bs (boO {l:=l,lb:=lb,bs:=bs,bcap:=bcap,cb:=cb,ss:=ss,ba:=ba,aa:=λ_=>0,ab:=λ_=>0})•(pt x (.cells (hc0 (ptr l) (.int .i64 c) (.int .i64 i) (.slice (some ⟨bs,0,none⟩) i bcap) ss i) 85 (0,0))•CA (bkP {l:=l,lb:=lb,bs:=bs,bcap:=bcap,cb:=cb,ss:=ss,ba:=ba,aa:=λ_=>0,ab:=λ_=>0} (Co c i)) i•(pt ss (.cells (rep #[.pointer none,.int .i64 0] (i*2)) 98 (0,0))•KC l lb (Co c i).L•C)):=by ac_rfl
   rw[e4];refine AU H (λ_ h=>h) λ_ h=>AU h (λ_ h=>h) λ_ h=>AU h (λ_ h=>h) λ_ h=>AU h (λ_ h=>h) λ_ h=>AU h (λ_ h=>h) λo h=>?_;rw[hC0 _ h];exact hC
  ·rw[F]at z
   have:=hcb k (by omega);rw[this];unfold IF;rw[List.getElem?_map,List.getElem?_range z]
   rfl
end
structure Ask where
 who:Int
 stamp:Int
 op:OpV
 raw:Bool
 t:ByteArray
def Ask.a (a:Ask):Array Value:=#[.int .i64 a.who,.int .i64 a.stamp,.int .i64 a.op.kind,.int .i64 a.op.good,.int .i64 a.op.am,.int .i64 a.op.side,.int .i64 a.op.id,.float .f64 a.op.price,.bool a.raw,.string a.t]
abbrev Ask.v (a:Ask):Value:=.agg a.a
def Ask.text (a:Ask):ByteArray:=if a.raw then a.t else opB a.op
def Ask.ok (a:Ask):Prop:=a.op.price<18446744073709551616
def Hv (h:PH) (v:Value) (l:List Ask):Prop:=
 ∃p cap,v = .slice p l.length cap/\l.length<=cap/\∀i a,l[i]?=some a->∃b off c e fr,p=some ⟨b,off,none⟩/\h b=some (.cells c e fr)/\off+i*10+10<=c.size/\c.extract (off+i*10) (off+i*10+10)=a.a
theorem Hv.sub {h g:PH} {v:Value} {l:List Ask} (f:Hv h v l) (j:Sub h g):Hv g v l:=by
 obtain⟨p,cap,rfl,k,d⟩:=f;refine⟨p,cap,rfl,k,λi a m=>?_⟩;obtain⟨b,off,c,e,fr,q1,q2,q3⟩:=d i a m;exact⟨b,off,c,e,fr,q1,j _ _ q2,q3⟩
abbrev Own (h:PH):PH->Prop:=λg=>Sub h g
theorem Own.mono {h:PH}:C3 (Own h):=λa b c H=>H.trans c
def MC (S:Hs) (l:List Ask):Hs:=l.foldl (λS a=>(doH S a.who a.stamp a.text).S) S
theorem W7:∀(l:List Ask) {S:Hs},S.ok->(MC S l).ok/\(MC S l).L.goods=S.L.goods/\(MC S l).L.n=S.L.n
 | [],S,h=>⟨h,rfl,rfl⟩
 | a::l,S,h=>by
  obtain⟨d1,d2,d3⟩:=Ot h a.who a.stamp a.text;obtain⟨d,c,b⟩:=W7 l d1;exact⟨d,c.trans d2,b.trans d3⟩
theorem XP {S:Hs} {l:List Ask} {i:Nat} {a:Ask} (b:l[i]?=some a):MC S (l.take (i+1))=(doH (MC S (l.take i)) a.who a.stamp a.text).S:=by
 unfold MC;rw[List.take_add_one,b,List.foldl_append];rfl
section
variable {h g:PH} {R:RT} {x:Nat} {nm:Nm} {S:Hs} {C:PH->Prop}
theorem Nr {a:Ask} (i:a.ok) (d:R (.ret (.string a.text)) h):A7 Tryz.prog 13 #[a.v] h R:=by
 refine A7.drop (oy ?_);unfold qj pnW;rw[show Value.cells a.v=a.a from rfl];refine Ai λc G j f b=>?_;simp only[AH,Ad];rw[A5 b (v:=.bool a.raw) rfl,AB];unfold Ask.text at d;refine⟨λe=>?_,λe=>?_⟩
 ·rw[if_pos e]at d
  rw[A5 b (v:=.string a.t) rfl];exact⟨h,f,d⟩
 ·rw[if_neg (by simp[e])]at d
  rw[AI b (off:=2) (n:=6) (by show 2+6<=10;omega),show a.a.extract 2 (2+6)=a.op.a from rfl];refine Xl i ?_;simp only[AK.elim,Av,Au];exact⟨h,f,d⟩
theorem li {who stamp:Int} {op:ByteArray} (H:(HsN x nm S•C) h) (i:nm.ok S) (j:S.ok)
  (l:∀g nm',(HsN x nm' (doH S who stamp op).S•C) g->nm'.ok (doH S who stamp op).S->R (.ret (.tuple #[.string (doH S who stamp op).t,.int .i64 (doH S who stamp op).e])) g) :
  A7 Tryz.prog 12 #[ptr x,.int .i64 who,.int .i64 stamp,.string op] h R:=by
 refine A7.sep (Q:=λe g=>e = .ret (.tuple #[.string (doH S who stamp op).t,.int .i64 (doH S who stamp op).e])/\∃nm',nm'.ok (doH S who stamp op).S/\HsN x nm' (doH S who stamp op).S g) H (λg n=>rV n i j λg' nm' f a=>⟨rfl,nm',a,f⟩) λe g m=>?_;obtain⟨k,d⟩:=L7.1 m;obtain⟨nm',c⟩:=Nz.1 d;obtain⟨a,b⟩:=L7.1 c;rw[k];exact l g nm' b a
end
section
variable {h g:PH} {R:RT} {x:Nat} {nm:Nm} {S:Hs} {C:PH->Prop} {i:Nat}
theorem MS (H:HsN x nm S h) (hi:i<S.L.n) (d:R (.ret (.tuple #[.agg (AW S.L i),.bool true])) h):A7 Tryz.prog 23 #[ptr x,.int .i64 i] h R:=by
 refine A7.drop (oe ?_);unfold qZ aH zq2 pnW;refine AX λc a=>?_;have b:=HsN.mono _ _ (AT (.cells #[.int .i64 0,.int .i64 0,.int .i64 0,.int .i64 0,.int .i64 0,.int .i64 0,.int .i64 0,.int .i64 0,.int .i64 0,.int .i64 0] 61 (0,0)) a) H;rw[As Tryz.underlying28,AB];refine nF ?_;simp only[BO,AH,Ad,b.f.lx.ld];refine Ly b.f.hl hi ?_;simp only[AK.elim,Av,Au];refine AN (cs:=AW S.L i) (AD _ _ _) (by rfl) (by rfl) (by rfl) ?_;rw[An,AI (AD _ _ _) (by show 0+10<=10;omega)];rw[show (AW S.L i).extract 0 (0+10)=AW S.L i from rfl];exact⟨h,AT _ a,d⟩
theorem mz (H:HsN x nm S h) (hi:i<S.L.n) (a:R (.ret (.tuple #[.int .i64 (S.L.f i 10),.string (S.L.r i)])) h):A7 Tryz.prog 18 #[ptr x,.int .i64 i] h R:=by
 refine om ?_;unfold qc ivW pnW;rw[As Tryz.underlying28,AB];refine nF ?_;simp only[BO,AH,Ad,H.f.lx.ld];refine WT H.f.hl hi ?_;simp only[AK.elim,Av,Au];exact a
theorem lg (H:HsN x nm S h) (a:R (.ret (.int .i64 S.now)) h):A7 Tryz.prog 26 #[ptr x] h R:=by
 refine oc ?_;unfold qX ivW;rw[As Tryz.underlying28,AB];refine nF ?_;simp only[BO,AH,Ad];rw[A5 H.f.hx (show (GD nm S)[3]?=some (.int .i64 S.now)from rfl)];exact a
theorem af (H:HsN x nm S h) (c:nm.ok S) (a:S.ok) (hi:i<S.G) (d:∀g s,OB 78 6 h (S.bk i).l.length (ordsC (S.bk i).l) g s->R (.ret s) g):A7 Tryz.prog 27 #[ptr x,.int .i64 i] h R:=by
 refine oZ ?_;unfold qW gAW gGW ivW pnW;have j:=a.g;rw[As Tryz.underlying28];have f:¬(i:Int)<0:=by omega
 have e:¬S.L.goods<=(i:Int):=by omega
 simp only[AZ,C7,CI,BO,AH,Ad,ne_eq,Bx,C1,and_true,AC,f,BW,Al,cond_false];rw[A5 H.f.hx (show (GD nm S)[2]?=some (.int .i64 S.L.goods)from rfl)];simp only[By,e,BW,Al,cond_false,AB];refine nF ?_;refine H.f.book c hi ?_;refine Qo (H.f.bk i hi) (a.bk i hi).len λg s b=>?_;simp only[AK.elim];exact d g s b
end
def cU (k g m d i:Int) (p:Nat):OpV:={kind:=k,good:=g,am:=m,side:=d,id:=i,price:=p}
def YW:Hs:=Co 2 1
def q1:OpV:=cU 2 0 6400 0 0 0
def q2:OpV:=cU 4 0 5 0 0 0
def q3:OpV:=cU 8 0 5 0 1 4611686018427387904
def q4:OpV:=cU 8 0 3 1 1 4609434218613702656
def q5:OpV:=cU 1 0 0 0 0 0
theorem bJ:Br 6400 = [128,50]:=by rw[LW (by omega),EM (by omega)];rfl
theorem YG:Br 0 = [0]:=EM (by omega)
theorem rX:Br 1 = [1]:=EM (by omega)
theorem ob1:opB q1=⟨#[2,0,128,50,0,0,0,0,0,0,0,0,0,0]⟩:=by
 have:¬∃n∈q1.nums,n<0\/9007199254740992<n:=by decide
 unfold opB;rw[if_neg this]
 have e:C9 q1.nums = [2,0,128,50,0,0]:=by
  show Br 2++(Br 0++(Br 6400++(Br 0++(Br 0 ++ []))))=_;rw[bJ,YG,EM (by omega)];rfl
 rw[e];rfl
theorem of1:Cv (opB q1)=(q1,0):=by rw[ob1];kernel_rfl
def YV:Hs:=(DA YW 0 q1).S.setL (EK (DA YW 0 q1).S.L 0 1 ⟨#[0,0]⟩).2
def YU:Hs:=(DA YV 1 q2).S.setL (EK (DA YV 1 q2).S.L 1 2 ⟨#[0,0]⟩).2
def YT:Hs:=(DA YU 0 q3).S.setL (EK (DA YU 0 q3).S.L 0 3 ⟨#[0,0]⟩).2
def YS:Hs:=(DA YT 1 q4).S.setL (EK (DA YT 1 q4).S.L 1 4 ⟨#[0,0]⟩).2
def GI:Hs:=(DA YS 0 q5).S.setL (EK (DA YS 0 q5).S.L 0 5 ⟨#[0,1]⟩).2
theorem ae1:(DA YW 0 q1).e=0:=by kernel_rfl
theorem ae2:(DA YV 1 q2).e=0:=by kernel_rfl
theorem ae3:(DA YU 0 q3).e=0:=by kernel_rfl
theorem ae4:(DA YT 1 q4).e=0:=by kernel_rfl
theorem ae5:(DA YS 0 q5).e=0:=by kernel_rfl
theorem an5:(DA YS 0 q5).n=1:=by kernel_rfl
theorem an1:(DA YW 0 q1).n=0:=by kernel_rfl
theorem an2:(DA YV 1 q2).n=0:=by kernel_rfl
theorem an3:(DA YU 0 q3).n=0:=by kernel_rfl
theorem an4:(DA YT 1 q4).n=0:=by kernel_rfl
theorem as0:YW.L.f 0 10=0:=by kernel_rfl
theorem as1:YV.L.f 1 10=0:=by kernel_rfl
theorem as2:YU.L.f 0 10=1:=by kernel_rfl
theorem as3:YT.L.f 1 10=2:=by kernel_rfl
theorem as4:YS.L.f 0 10=3:=by kernel_rfl
theorem av1:GI.now=1:=by kernel_rfl
theorem av2:GI.L.f 0 2=3:=by kernel_rfl
theorem av3:GI.L.f 0 0=6112:=by kernel_rfl
theorem av4:GI.L.f 0 1=256:=by kernel_rfl
theorem av5:GI.L.f 1 0=288:=by kernel_rfl
theorem av6:GI.L.f 1 6=0:=by kernel_rfl
theorem Oq:∀{l:List Int},(∀n∈l,0<=n/\n<128)->C9 l=l.map λn=>UInt8.ofNat n.toNat
 | [],_=>rfl
 | n::l,h=>by
  have c:=h n (by simp);have b:=Oq (l:=l) λx a=>h x (by simp[a]);show Br n.toNat++C9 l=_;rw[b,EM (by omega)];rfl
theorem JZ {o:OpV} (h:∀n∈o.nums,0<=n/\n<128):opB o=⟨(o.nums.map (λn=>UInt8.ofNat n.toNat)++le8 o.price 8).toArray⟩:=by
 unfold opB;rw[if_neg (by rintro⟨n,a,b⟩;have:=h n a;omega),Oq h]
theorem of2:Cv (opB q2)=(q2,0):=by rw[JZ (by decide)];kernel_rfl
theorem of3:Cv (opB q3)=(q3,0):=by rw[JZ (by decide)];kernel_rfl
theorem of4:Cv (opB q4)=(q4,0):=by rw[JZ (by decide)];kernel_rfl
theorem of5:Cv (opB q5)=(q5,0):=by rw[JZ (by decide)];kernel_rfl
def ask (w:Int) (q:OpV):Ask:={who:=w,stamp:=0,op:=q,raw:=false,t:=⟨#[]⟩}
def awL:List Ask:=[ask 0 q1,ask 1 q2,ask 0 q3,ask 1 q4,ask 0 q5]
def awS:Nat->Hs
 | 0=>YW
 | 1=>YV
 | 2=>YU
 | 3=>YT
 | 4=>YS
 | _=>GI
def awT:Nat->ByteArray
 | 4=>⟨#[0,1]⟩
 | _=>⟨#[0,0]⟩
theorem LY {S:Hs} {w:Nat} {stamp:Int} {op:ByteArray} {o:OpV} {n:Nat} {c:UInt8} (h:w<S.L.n) (i:1<=stamp/\stamp<=1099511627776) (j:S.L.f w 10<stamp) (b:Cv op=(o,0)) (e:(DA S w o).e=0) (d:(DA S w o).n=n) (g:Br n = [c]) :
  doH S w stamp op=⟨⟨#[0,c]⟩,0,(DA S w o).S.setL (EK (DA S w o).S.L w stamp ⟨#[0,c]⟩).2⟩:=by
 unfold doH;rw[if_neg (by omega),if_neg (by omega),if_neg (by rw[BR];omega)];simp only[BR];have f:CX S w op=DA S w o:=by unfold CX;rw[b];simp
 rw[f]
 have a:HD (DA S w o).e (DA S w o).n=⟨#[0,c]⟩:=by
  unfold HD;rw[e,d,BR,g,show (0:Int).toNat=0 from rfl,YG]
  rfl
 unfold HT;rw[a]
theorem lw {i:Nat} {a:Ask} (b:awL[i]?=some a):doH (awS i) a.who ((i:Int)+1) a.text=⟨awT i,0,awS (i+1)⟩/\a.ok:=by
 have tx:∀w q,(ask w q).text=opB q:=λw q=>by simp[Ask.text,ask]
 match i,b with
 | 0,b=>cases b;rw[tx];exact⟨LY (w:=0) (n:=0) (by decide) (by decide) (by rw[show (awS 0).L.f 0 10=0 from as0];decide) of1 ae1 an1 YG,by unfold Ask.ok;decide⟩
 | 1,b=>cases b;rw[tx];exact⟨LY (w:=1) (n:=0) (by decide) (by decide) (by rw[show (awS 1).L.f 1 10=0 from as1];decide) of2 ae2 an2 YG,by unfold Ask.ok;decide⟩
 | 2,b=>cases b;rw[tx];exact⟨LY (w:=0) (n:=0) (by decide) (by decide) (by rw[show (awS 2).L.f 0 10=1 from as2];decide) of3 ae3 an3 YG,by unfold Ask.ok;decide⟩
 | 3,b=>cases b;rw[tx];exact⟨LY (w:=1) (n:=0) (by decide) (by decide) (by rw[show (awS 3).L.f 1 10=2 from as3];decide) of4 ae4 an4 YG,by unfold Ask.ok;decide⟩
 | 4,b=>cases b;rw[tx];exact⟨LY (w:=0) (n:=1) (by decide) (by decide) (by rw[show (awS 4).L.f 0 10=3 from as4];decide) of5 ae5 an5 rX,by unfold Ask.ok;decide⟩
 | i+5,b=>simp[awL]at b
def z10:Array Value:=#[.int .i64 0,.int .i64 0,.int .i64 0,.int .i64 0,.int .i64 0,.int .i64 0,.int .i64 0,.float .f64 0,.bool false,.string ⟨#[]⟩]
def awC:Array Value:=(awL.flatMap λa=>a.a.toList).toArray
theorem JI (w:Int) (q:OpV):Instr.fill (λi=>[(0,1),(1,1),(2,6),(8,1),(9,1)][i]?) z10 [(0,.int .i64 w),(2,.agg q.a)]=some (ask w q).a:=by kernel_rfl
theorem bD:Instr.fill (λi=>some (i*10,10)) (rep z10 (5*10)) [(0,.agg (ask 0 q1).a),(1,.agg (ask 1 q2).a),(2,.agg (ask 0 q3).a),(3,.agg (ask 1 q4).a),(4,.agg (ask 0 q5).a)]=some awC:=by kernel_rfl
theorem rd:awC.extract (0*10) (0*10+10)=(ask 0 q1).a:=by kernel_rfl
theorem rc:awC.extract (1*10) (1*10+10)=(ask 1 q2).a:=by kernel_rfl
theorem rb:awC.extract (2*10) (2*10+10)=(ask 0 q3).a:=by kernel_rfl
theorem ra:awC.extract (3*10) (3*10+10)=(ask 1 q4).a:=by kernel_rfl
theorem rZ:awC.extract (4*10) (4*10+10)=(ask 0 q5).a:=by kernel_rfl
theorem jK {i:Nat} {a:Ask} (b:awL[i]?=some a):awC.extract (i*10) (i*10+10)=a.a:=by
 match i,b with
 | 0,b=>cases b;exact rd
 | 1,b=>cases b;exact rc
 | 2,b=>cases b;exact rb
 | 3,b=>cases b;exact ra
 | 4,b=>cases b;exact rZ
 | i+5,b=>simp[awL]at b
section
variable {h g:PH} {R:RT}
set_option maxRecDepth 10000 in
theorem Y6 (hR:R (.ret (.bool true)) h):A7 Tryz.prog 16 #[] h R:=by
 refine A7.drop (ot ?_);unfold qe zq0 zq2 zq3 eXW gAW gGW ivW pnW;refine lh (c:=2) (g:=1) (by omega) (by omega) (by omega) (by omega) λg x nm H0 t=>?_;have H:=H0 (Own h) (Sub.refl h);clear H0;simp only[AK.elim,Av,Au,BB,B6,Bool.not_true,AZ,C7,CI,ne_eq,Bx,C1,and_true];rw[As Tryz.underlying28];simp only[Al,cond_false,AB];refine nF ?_;refine⟨q1.a,by rfl,(ask 0 q1).a,JI 0 q1,q2.a,by rfl,(ask 1 q2).a,JI 1 q2,q3.a,by rfl,(ask 0 q3).a,JI 0 q3,q4.a,by rfl,(ask 1 q4).a,JI 1 q4,q5.a,by rfl,(ask 0 q5).a,JI 0 q5,?_⟩;refine⟨by omega,awC,bD,λd hd=>?_⟩;have H1:(pt d (.cells awC 27 (0,0))•HsN x nm (awS 0)•Own h) (ins g d (.cells awC 27 (0,0))):=Ar hd H;have f:(HsN x nm (awS 0)•pt d (.cells awC 27 (0,0))•Own h) (ins g d (.cells awC 27 (0,0))):=by rw[Es];exact H1
 clear H1;revert f;generalize ins g d (.cells awC 27 (0,0))=g1;intro f
 have M:∀i,(awS i).ok:=by
  have k0:(awS 0).ok:=T7 (by omega) (by omega) (by omega) (by omega)
  have n:∀i,i<5->(awS i).ok->(awS (i+1)).ok:=λi hi N=>by
   have u:i<awL.length:=hi;have:=(lw (Bu u)).1;have h1:=(Ot N (awL[i]'u).who ((i:Int)+1) (awL[i]'u).text).1;rw[this]at h1;exact h1
  have C:=n 0 (by omega) k0;have l:=n 1 (by omega) C;have k3:=n 2 (by omega) l;have Z:=n 3 (by omega) k3;have k5:=n 4 (by omega) Z;intro i
  match i with
  | 0=>exact k0
  | 1=>exact C
  | 2=>exact l
  | 3=>exact k3
  | 4=>exact Z
  | i+5=>exact k5
 refine AL (λm X g'=>∃(i:Nat) (nm:Nm),X=(.bool false,.int .i64 i)/\m=5-i/\i<=5/\(HsN x nm (awS i)•pt d (.cells awC 27 (0,0))•Own h) g'/\nm.ok (awS i)) 5 ⟨0,nm,rfl,rfl,by omega,f,t⟩ ?_;clear f t H hd;rintro m X g' ⟨i,nm,rfl,rfl,hi,H,hn⟩
 by_cases O:i<5
 ·have u:i<awL.length:=O
  have U:awL[i]?=some awL[i]:=Bu u;generalize awL[i]=a at U;obtain⟨P,T⟩:=lw U;have w:=jK U;have y:=AM (AF (A8 _ _) H);have hsz:awC.size=50:=by kernel_rfl
  have ex:∀j,j<10->awC[i*10+j]?=a.a[j]?:=λj hj=>by
   rw[<-w,Array.getElem?_extract,if_pos (by omega)]
  have N:=M i
  have key:∀(G:V2->V2->PH->Prop) W V,(∀z b,(HsN x b (awS (i+1))•pt d (.cells awC 27 (0,0))•Own h) z->b.ok (awS (i+1))->G (ptr x,.slice (some ⟨d,0,none⟩) 5 5) (.bool false,.int .i64 ((i:Int)+1)) z) ->
    UD (λc h'=>∃g,Sub g h'/\R (.pan c) g) W V (ptr x,.slice (some ⟨d,0,none⟩) 5 5) G (.bool false,.int .i64 i) g':=by
   intro G W V L;unfold UD GB gAW gGW ivW;have J:(i:Int)<((5:Nat):Int):=by omega
   simp only[BQ,AC,J,B6,AB,B9,AH];refine⟨λ_=>⟨by omega,by omega,?_⟩,λe=>absurd e (by simp)⟩;have e0:0+(i:Int).toNat*10=i*10:=by omega
   rw[e0,Nat.add_zero];have Y:∀K,A0 none (.pointer (some ⟨d,i*10,none⟩)) g' K↔K (.int .i64 a.who):=λK=>A5 y ((ex 0 (by omega)).trans rfl);rw[Y,AG,w64 (by omega) (by omega)];refine⟨by omega,by omega,?_⟩;rw[AI y (by omega),w];refine Nr T ?_;simp only[AK.elim];rw[Y];refine⟨rfl,?_⟩;refine li H hn N ?_;rw[P];intro z b f k
   have hT:awT i=⟨#[0,0]⟩\/awT i=⟨#[0,1]⟩:=by
    match i with
    | 0=>exact .inl rfl
    | 1=>exact .inl rfl
    | 2=>exact .inl rfl
    | 3=>exact .inl rfl
    | 4=>exact .inr rfl
    | i+5=>exact .inl rfl
   obtain⟨c,hc⟩:∃c:UInt8,awT i=⟨#[0,c]⟩:=by rcases hT with h | h <;> exact⟨_,h⟩
   simp only[AK.elim,Av,Au,BB,B6,Bool.not_true,AZ,C7,CI,ne_eq,Bx,C1,and_true,Dp,Al,cond_false];rw[hc];have q:((ByteArray.size ⟨#[0,c]⟩:Nat):Int)=2:=rfl;rw[q];simp only[B6,Bool.not_true,AZ,C7,CI,ne_eq,Bx,C1,and_true,Al,cond_false];refine⟨⟨#[0,c]⟩,_,_,0,rfl,rfl,by omega,rfl,?_⟩;refine (BB 5 .u8 0 0).2 ?_;simp only[B6,Bool.not_true,Al,cond_false,AB,AG];refine nF ?_;rw[w64 (by omega) (by omega)];exact L z b f k
  exact key _ _ _ λz b f k=>⟨rfl,5-(i+1),by omega,i+1,b,rfl,rfl,by omega,f,k⟩
 ·have e:i=5:=by omega
  subst e;unfold UD GB gAW gGW ivW;simp only[BQ,AC,AB];refine nF ?_;intro r hr;simp only[Prod.mk.injEq]at hr;obtain⟨r0,r1⟩:=hr;simp only[r0,r1];have s:Sub h g':=AF Own.mono (AF (A8 _ _) H);have HN:HsN x nm GI g':=AJ HsN.mono H;clear H;have hn5:GI.L.n=2:=by kernel_rfl
  refine MS (i:=0) HN (by omega) ?_;simp only[AK.elim,Av,Au];refine AX λE S=>?_;refine AN (cs:=AW GI.L 0) (AD _ _ _) (by rfl) (by rfl) (by rfl) ?_;rw[An];have B:Sub g' (ins g' E (.cells (AW GI.L 0) 61 (0,0))):=AT _ S;have q1':ins g' E (.cells (AW GI.L 0) 61 (0,0)) E=some (.cells (AW GI.L 0) 61 (0,0)):=AD _ _ _;revert B q1';generalize ins g' E (.cells (AW GI.L 0) 61 (0,0))=G1;intro B C;have A:=HsN.mono _ _ B HN;refine MS (i:=1) A (by omega) ?_;simp only[AK.elim,Av,Au];refine AX λD Q=>?_;refine AN (cs:=AW GI.L 1) (AD _ _ _) (by rfl) (by rfl) (by rfl) ?_;rw[An];have o:Sub G1 (ins G1 D (.cells (AW GI.L 1) 61 (0,0))):=AT _ Q;have l:ins G1 D (.cells (AW GI.L 1) 61 (0,0)) D=some (.cells (AW GI.L 1) 61 (0,0)):=AD _ _ _;revert o l;generalize ins G1 D (.cells (AW GI.L 1) 61 (0,0))=G2;intro o l;have k1':=o _ _ C;refine lg (HsN.mono _ _ o A) ?_;have F:=λ{j:Nat} {v:Value} (I:(AW GI.L 0)[j]?=some v) (K:Value->Prop)=>A5 (K:=K) k1' I;have p:=λ{j:Nat} {v:Value} (I:(AW GI.L 1)[j]?=some v) (K:Value->Prop)=>A5 (K:=K) l I;have a0:=F (j:=0) (v:=.int .i64 6112) (by show some (Value.int .i64 (GI.L.f 0 0))=_;rw[av3]);have a1:=F (j:=1) (v:=.int .i64 256) (by show some (Value.int .i64 (GI.L.f 0 1))=_;rw[av4]);have a2:=F (j:=2) (v:=.int .i64 3) (by show some (Value.int .i64 (GI.L.f 0 2))=_;rw[av2]);have b0:=p (j:=0) (v:=.int .i64 288) (by show some (Value.int .i64 (GI.L.f 1 0))=_;rw[av5]);have b6:=p (j:=6) (v:=.int .i64 0) (by show some (Value.int .i64 (GI.L.f 1 6))=_;rw[av6]);rw[av1]
  simp[AK.elim,a0,a1,a2,b0,b6];exact⟨h,(s.trans B).trans o,hR⟩
end
def Cf (L M:Led):Prop:=(∀i,M.f i 10=L.f i 10)/\M.r=L.r
theorem Ac (L:Led):Cf L L:=⟨λ_=>rfl,rfl⟩
theorem Ca {A B C:Led} (h:Cf A B) (k:Cf B C):Cf A C:=⟨λi=>(k.1 i).trans (h.1 i),k.2.trans h.2⟩
theorem DD {L M:Led} (h:Cf L M) {k c:Nat} {v:Int} (a:c≠10):Cf L (M.set k c v):=
 ⟨λi=>by rw[GL (by omega)];exact h.1 i,h.2⟩
theorem Ih {L:Led} {g n:Int} (a:L.goods<=4) (h:¬CR L g n≠0):g.toNat<4:=by
 have:=Cd (Decidable.not_not.1 h);omega
section
variable {L:Led} {i j:Nat} {g n p:Int}
theorem qp:Cf L (GW L i n).2:=by unfold GW;(repeat' split) <;> first | exact Ac L | exact DD (Ac L) (by omega)
theorem mB:Cf L (EE L i n).2:=by unfold EE;(repeat' split) <;> first | exact Ac L | exact DD (Ac L) (by omega)
theorem fU:Cf L (IP L i n).2:=by unfold IP;(repeat' split) <;> first | exact Ac L | exact DD (Ac L) (by omega)
theorem fp:Cf L (IR L i n).2:=by unfold IR;(repeat' split) <;> first | exact Ac L | exact DD (Ac L) (by omega)
theorem dS (a:L.goods<=4):Cf L (DG L i g n).2:=by
 unfold DG
 split
 ·exact Ac L
 ·rename_i h;have:=Ih a h
  split
  ·exact Ac L
  ·exact DD (Ac L) (by omega)
theorem fz (a:L.goods<=4):Cf L (DL L i g n).2:=by
 unfold DL
 split
 ·exact Ac L
 ·rename_i h;have:=Ih a h
  split
  ·exact Ac L
  ·exact DD (Ac L) (by omega)
theorem WS (a:L.goods<=4):Cf L (CH L i g n).2:=by
 unfold CH
 split
 ·exact Ac L
 ·rename_i h;have:=Ih a h
  split
  ·exact Ac L
  ·exact DD (Ac L) (by omega)
theorem XF (a:L.goods<=4):Cf L (ES L i g n).2:=by
 unfold ES
 split
 ·exact Ac L
 ·rename_i h;have:=Ih a h
  split
  ·exact Ac L
  ·exact DD (Ac L) (by omega)
theorem mZ:Cf L (GS L i j n).2:=by
 unfold GS GO
 (repeat' split) <;> first | exact Ac L | exact DD (DD (DD (Ac L) (by omega)) (by omega)) (by omega)
theorem ae (a:L.goods<=4):Cf L (EG L i j g n).2:=by
 unfold EG
 split
 ·exact Ac L
 ·rename_i h;have:=Ih a h
  split
  ·exact Ac L
  ·unfold D6
   exact DD (DD (DD (Ac L) (by omega)) (by omega)) (by omega)
theorem KZ:Cf L (BN L i n):=by
 unfold BN
 repeat' split
 ·exact fU
 ·exact fp
 ·exact Ac L
theorem RY (a:L.goods<=4):Cf L (BY L i g n):=by
 unfold BY
 repeat' split
 ·exact WS a
 ·exact XF a
 ·exact Ac L
theorem Vx (a:L.goods<=4):Cf L (BJ L i j g p n):=by
 unfold BJ
 repeat' split
 ·exact Ca (ae a) mZ
 ·exact ae a
 ·exact Ac L
end
theorem RI (held:Nat->Int) (t:Led×Auc):∀k,Cf t.1 (BT held t k).1
 | 0=>Ac _
 | k+1=>Ca (RI held t k) KZ
theorem Nv (gd:Int) (w:Nat) (p:Int) (held got:Nat->Int) (t:Led×Int):∀k,(Be gd w p held got t k).1.goods=t.1.goods
 | 0=>rfl
 | k+1=>by
  show (BN (BJ (Be gd w p held got t k).1 w k gd p (got k)) k _).goods=_;rw[(BK _ _ _).1,(EU _ _ _ _ _ _).1,Nv gd w p held got t k]
theorem W1 {gd:Int} {w:Nat} {p:Int} {held got:Nat->Int} {t:Led×Int} (a:t.1.goods<=4):∀k,Cf t.1 (Be gd w p held got t k).1
 | 0=>Ac _
 | k+1=>by
  refine Ca (W1 (gd:=gd) (w:=w) (p:=p) (held:=held) (got:=got) a k) ?_;show Cf _ (BN (BJ (Be gd w p held got t k).1 w k gd p (got k)) k _);exact Ca (Vx (by rw[Nv];exact a)) KZ
theorem TC {gd p:Int}:∀(k:Nat) (L:Led) (bu a:List Fil),L.goods<=4->Cf L (CD gd p k L bu a)
 | 0,L,bu,a,h=>by cases bu <;> cases a <;> exact Ac L
 | k+1,L,[],a,h=>by rw[Ff];exact Ac L
 | k+1,L,b::bs,[],h=>by rw[HR];exact Ac L
 | k+1,L,b::bs,s::ss,h=>by
  show Cf L (CD gd p k _ _ _);exact Ca (Vx h) (TC k _ _ _ (by rw[(EU _ _ _ _ _ _).1];exact h))
theorem rA (p:Int) (f:Fil) (t:Spl) (o:Ord):Cf t.L (inF p f t o).L:=by
 unfold inF
 repeat' split
 ·exact Ac _
 ·exact KZ
 ·exact Ac _
theorem Zi (p:Int) (f:Fil):∀(was:List Ord) (t:Spl),Cf t.L (was.foldl (inF p f) t).L
 | [],t=>Ac _
 | o::was,t=>Ca (rA p f t o) (Zi p f was _)
theorem Wg (p:Int) (was:List Ord):∀(fs:List Fil) (t:Spl),Cf t.L (fs.foldl (Cu p was) t).L
 | [],t=>Ac _
 | f::fs,t=>Ca (Zi p f was t) (Wg p was fs _)
theorem Tl {S:Hs} (b:S.ok) {gd:Nat} (a:gd<S.G):Cf S.L (CU S gd).L:=by
 have d:=Wg (AE (S.bk gd)).p (S.bk gd).l (AE (S.bk gd)).fs ⟨S.L,[],[]⟩;have c:=Sc b a;have e:=b.g;exact Ca d (TC _ _ _ _ (by have:=c.1.2.2;show (I4 S gd).L.goods<=4;omega))
theorem Sp {S:Hs} (a:S.ok) {gd:Nat} (b:gd<S.G):Cf S.L (CW S gd).L:=by
 have e:=a.g;unfold CW;cases c:S.au gd with
 | none=>exact Ac _
 | some q=>
  obtain⟨A,w⟩:=q;simp only
  split
  ·exact RI _ (S.L,(AV A).2.2) _
  ·have d:=W1 (gd:=gd) (w:=w.toNat) (p:=(BD (AV A).2.2).1) (held:=λi:Nat=>Ae A i) (got:=(BD (AV A).2.2).2) (t:=(S.L,A.sup)) (by show S.L.goods<=4;omega) S.L.n
   refine Ca d (RY ?_);rw[Nv];show S.L.goods<=4;omega
theorem Q6 {S:Hs} (d:S.ok):∀k,k<=S.G->Cf S.L (Bd S k).L
 | 0,_=>Ac _
 | k+1,hle=>by
  obtain⟨a,h,e,g⟩:=FW d k (by omega);have c:(Bd S k).G=S.G:=by unfold Hs.G;rw[e]
  obtain⟨j,i,f⟩:=F0 a (gd:=k) (by rw[c];omega);have b:(CU (Bd S k) k).G=S.G:=by unfold Hs.G;rw[f,e]
  exact Ca (Q6 d k (by omega)) (Ca (Tl a (by rw[c];omega)) (Sp (IW a (by rw[c];omega)) (by rw[b];omega)))
theorem dM {S:Hs} (a:S.ok):Cf S.L (Da S).2.2.L:=by
 unfold Da;have b:=a.now
 split
 ·exact Ac _
 ·exact Q6 (S:=S.setNow (S.now+1)) (I6 a (by omega)) S.G (Nat.le_refl _)
section
variable {S:Hs} {who:Nat} {o:OpV}
theorem mS (a:S.ok):Cf S.L (Hj S who o).2.L:=by
 have b:=a.g;unfold Hj;simp only
 repeat' split
 all_goals first | exact Ac _ | exact Ca KZ (RY (by rw[(BK _ _ _).1];omega))
theorem ci (a:S.ok):Cf S.L (De S who o).2.L:=by
 have b:=a.g;unfold De;simp only
 repeat' split
 all_goals first | exact Ac _ | exact Ca KZ (RY (by rw[(BK _ _ _).1];omega))
theorem YO (a:S.ok):Cf S.L (DO S who o).2.L:=by
 have b:=a.g;unfold DO;simp only
 repeat' split
 all_goals first | exact Ac _ | exact KZ | exact RY (by omega)
theorem dA (a:S.ok):Cf S.L (FC S who o).2.L:=by
 unfold FC
 split
 ·exact Ac _
 ·split
  ·exact Ac _
  ·simp only
   repeat' split
   all_goals first | exact Ac _ | exact KZ
theorem Zp (a:S.ok):Cf S.L (Dq S who o).2.L:=by
 have b:=a.g;unfold Dq
 repeat' split
 all_goals first | exact Ac _ | exact WS (by omega)
theorem Vj (a:S.ok):Cf S.L (DA S who o).S.L:=by
 have b:=a.g;unfold DA
 repeat' split
 ·exact dM a
 ·exact qp
 ·exact mB
 ·exact dS (by omega)
 ·exact fz (by omega)
 ·exact Zp a
 ·exact dA a
 ·exact mS a
 ·exact ci a
 ·exact YO a
 ·exact Ac _
end
section
variable {S:Hs} {who:Nat} {o:OpV} {i:Nat}
end
def DB (i:Nat) (o:Ord):Int:=if o.own=i/\o.buys=true then o.pr*o.am else 0
def Bz (i:Nat) (o:Ord):Int:=if o.own=i/\o.buys=false then o.am else 0
def auW (S:Hs) (i g:Nat):Int:=match S.au g with | some p=>Ae p.1 i | none=>0
def auK (S:Hs) (i g:Nat):Int:=match S.au g with | some p=>if p.2=i then p.1.sup else 0 | none=>0
def CM (S:Hs) (i g:Nat):Int:=Ah (DB i) (S.bk g).l+auW S i g
def DV (S:Hs) (i g:Nat):Int:=Ah (Bz i) (S.bk g).l+auK S i g
def Wa (S:Hs) (i:Nat):Int:=AS (CM S i) S.G
structure Snd (S:Hs):Prop where
 held:∀i,i<S.L.n->S.L.f i 1=Wa S i
 lock:∀i g,i<S.L.n->g<4->S.L.f i (6+g)=if g<S.G then DV S i g else 0
 ids:∀g,g<S.G->∀o∈(S.bk g).l,o.id%16=o.own/\o.id/16<=1048576
 sel:∀g A w,g<S.G->S.au g=some (A,w)->B4 A w=(0,0)
theorem Kw {f:Nat->Int} {k n:Nat} (b:k<n):AS f n=AS (λj=>if j=k then 0 else f j) n+f k:=by
 have:=Ns (g:=f) (a:=k) (v:=0) n b;omega
theorem HJ {f a:Nat->Int} {k n:Nat} (b:k<n) (h:∀j,j<n->j≠k->a j=f j):AS a n=AS f n+a k-f k:=by
 rw[Kw b,Kw (f:=f) b]
 have:AS (λj=>if j=k then 0 else a j) n=AS (λj=>if j=k then 0 else f j) n:=DF n λj c=>by
  by_cases e:j=k
  ·simp[e]
  ·simp[e,h j c e]
 omega
theorem Ga {i:Nat} {o:Ord} (h:B0 o=true):0<=DB i o:=by
 have:=Am.1 h;unfold DB
 split
 ·exact Int.mul_nonneg (by omega) (by omega)
 ·omega
theorem I8 {i:Nat} {o:Ord} (h:B0 o=true):0<=Bz i o:=by
 have:=Am.1 h;unfold Bz
 split <;> omega
theorem Cg {f:Ord->Int}:∀{l:List Ord},(∀o∈l,0<=f o)->0<=Ah f l
 | [],_=>by simp[Ah]
 | o::l,h=>by
  have c:=Cg (f:=f) (l:=l) λx a=>h x (by simp[a]);have b:=h o (by simp);simp only[Ah];omega
theorem J6 {f:Ord->Int}:∀{l:List Ord},(∀o∈l,0<=f o)->∀o∈l,f o<=Ah f l
 | [],_,o,ho=>by cases ho
 | x::l,h,o,ho=>by
  have e:=Cg (f:=f) (l:=l) λx b=>h x (by simp[b]);have d:=h x (by simp)
  rcases List.mem_cons.1 ho with rfl | ho
  ·simp only[Ah];omega
  ·have c:=J6 (f:=f) (l:=l) (λy a=>h y (by simp[a])) o ho
   simp only[Ah];omega
theorem Kx {f:Nat->Int}:∀(n:Nat),(∀i,i<n->0<=f i)->0<=AS f n
 | 0,_=>by simp[AS]
 | n+1,h=>by
  have b:=Kx n λi hi=>h i (by omega);have a:=h n (by omega);simp only[AS];omega
section
variable {S S':Hs} {i g:Nat}
theorem Pi (a:S.ok) (b:g<S.G):0<=auW S i g:=by
 unfold auW;cases h:S.au g with
 | none=>simp
 | some p=>
  obtain⟨A,w⟩:=p;exact (Dr (a.au g A w b h).1 i).1
theorem aW (a:S.ok) (b:g<S.G):0<=CM S i g:=by
 have e:=Cg (f:=DB i) (l:=(S.bk g).l) λo c=>Ga ((a.bk g b).right o c);have d:=Pi (i:=i) a b;unfold CM;omega
theorem SI (a:S.ok) (b:g<S.G):0<=auK S i g:=by
 unfold auK;cases h:S.au g with
 | none=>simp
 | some p=>
  obtain⟨A,w⟩:=p;have:=(a.au g A w b h).1.sup;simp only
  split <;> omega
theorem GE (b:S.ok) (a:Snd S) (hi:i<S.L.n) (d:g<S.G):CM S i g<=S.L.f i 1:=by
 rw[a.held i hi];exact NL S.G (λj c=>aW b c) g d
theorem Snd.change (l:Snd S) {gd:Nat} (c:gd<S.G) (p:S'.L.n=S.L.n) (v:S'.L.goods=S.L.goods) (q:∀g,g≠gd->S'.bk g=S.bk g) (r:∀g,g≠gd->S'.au g=S.au g)
  (u:∀i,i<S.L.n->S'.L.f i 1=S.L.f i 1+CM S' i gd-CM S i gd)
  (t:∀i g,i<S.L.n->g<4->S'.L.f i (6+g)=if g=gd then S.L.f i (6+g)+DV S' i gd-DV S i gd else S.L.f i (6+g))
  (hi:∀o∈(S'.bk gd).l,o.id%16=o.own/\o.id/16<=1048576) (s:∀A w,S'.au gd=some (A,w)->B4 A w=(0,0)):Snd S':=by
 have m:S'.G=S.G:=by unfold Hs.G;rw[v]
 have b:∀i g,g≠gd->CM S' i g=CM S i g/\DV S' i g=DV S i g:=λi g e=>by
  unfold CM DV auW auK;rw[q g e,r g e];exact⟨rfl,rfl⟩
 refine⟨λi a=>?_,λi g a d=>?_,λg k o n=>?_,λg A w k h=>?_⟩
 ·rw[p]at a
  rw[u i a,l.held i a];unfold Wa;rw[m,HJ (f:=CM S i) c λj x e=>(b i j e).1]
 ·rw[p]at a
  rw[t i g a d,m,l.lock i g a d]
  by_cases e:g=gd
  ·subst e;rw[if_pos rfl,if_pos c,if_pos c];omega
  ·rw[if_neg e,(b i g e).2]
 ·rw[m]at k
  by_cases e:g=gd
  ·subst e;exact hi o n
  ·rw[q g e]at n;exact l.ids g k o n
 ·rw[m]at k
  by_cases e:g=gd
  ·subst e;exact s A w h
  ·rw[r g e]at h;exact l.sel g A w k h
theorem Snd.plain (e:Snd S) (l:S'.L.n=S.L.n) (r:S'.L.goods=S.L.goods) (m:S'.bk=S.bk) (n:S'.au=S.au)
  (q:∀i,i<S.L.n->S'.L.f i 1=S.L.f i 1) (p:∀i g,i<S.L.n->g<4->S'.L.f i (6+g)=S.L.f i (6+g)):Snd S':=by
 have f:S'.G=S.G:=by unfold Hs.G;rw[r]
 have b:∀i g,CM S' i g=CM S i g/\DV S' i g=DV S i g:=λi g=>by
  unfold CM DV auW auK;rw[m,n];exact⟨rfl,rfl⟩
 refine⟨λi a=>?_,λi g a c=>?_,λg d o k=>?_,λg A w d h=>?_⟩
 ·rw[l]at a
  rw[q i a,e.held i a];unfold Wa;rw[f];exact DF _ λj s=>((b i j).1).symm
 ·rw[l]at a
  rw[p i g a c,f,e.lock i g a c,(b i g).2]
 ·rw[f]at d;rw[m]at k;exact e.ids g d o k
 ·rw[f]at d;rw[n]at h;exact e.sel g A w d h
end
section
variable {L:Led} {i j g:Nat} {n p:Int}
theorem VI (a:Inv L) (hi:i<L.n) (f:-(L.f i 1)<=n) (e:n<=L.f i 0-L.f i 1):BN L i n=if n=0 then L else L.set i 1 (L.f i 1+n):=by
 have h:=a.small.num i 0 hi (by omega);have b1:=a.small.num i 1 hi (by omega);have d:=a.g0;unfold BN
 by_cases c:0<n
 ·rw[if_pos c,if_neg (by omega)]
  unfold IP;have:CR L 0 n=0:=by unfold CR;rw[if_pos (by omega)]
  rw[if_neg (by simp[this]),if_neg (by omega)]
 ·rw[if_neg c]
  by_cases b:n<0
  ·rw[if_pos b,if_neg (by omega)]
   unfold IR;have:CR L 0 (-n)=0:=by unfold CR;rw[if_pos (by omega)]
   rw[if_neg (by simp[this]),if_neg (by omega)];simp only;rw[show L.f i 1 - -n=L.f i 1+n by omega]
  ·rw[if_neg b,if_pos (by omega)]
theorem FR (L:Led) (i j:Nat) (v:Int) (a c:Nat):(L.set i j v).f a c=if a=i/\c=j then v else L.f a c:=rfl
theorem MQ (b:Inv L) (hi:i<L.n) (e:-(L.f i 1)<=n) (d:n<=L.f i 0-L.f i 1) (a c:Nat):(BN L i n).f a c=if a=i/\c=1 then L.f i 1+n else L.f a c:=by
 rw[VI b hi e d]
 split
 ·rename_i h;subst h
  split
  ·rename_i h;rw[h.1,h.2];omega
  ·rfl
 ·rw[FR]
theorem VB (b:Inv L) (hi:i<L.n) (k:(g:Int)<L.goods) (m:-(L.f i (6+g))<=n) (l:n<=L.f i (2+g)-L.f i (6+g)) (a c:Nat):(BY L i g n).f a c=if a=i/\c=6+g then L.f i (6+g)+n else L.f a c:=by
 have f:=b.gd;have o:=b.small.num i (2+g) hi (by omega);have b1:=b.small.num i (6+g) hi (by omega);unfold BY
 by_cases e:0<n
 ·rw[if_pos e]
  unfold CH;have:CR L g n=0:=by unfold CR;rw[if_pos (by omega)]
  rw[if_neg (by simp[this]),BR,if_neg (by omega),FR]
 ·rw[if_neg e]
  by_cases d:n<0
  ·rw[if_pos d]
   unfold ES;have:CR L g (-n)=0:=by unfold CR;rw[if_pos (by omega)]
   rw[if_neg (by simp[this]),BR,if_neg (by omega),FR];rw[show L.f i (6+g) - -n=L.f i (6+g)+n by omega]
  ·rw[if_neg d]
   have:n=0:=by omega
   subst this
   split
   ·rename_i h;rw[h.1,h.2];omega
   ·rfl
theorem R4 (f:Inv L) (hi:i<L.n) (r:j<L.n) (x:(g:Int)<L.goods) (w:0<=n) (v:0<=p) (z:n<=L.f i (6+g)) (y:p*n<=L.f j 1) :
  (∀a,(BJ L i j g p n).f a 1=if a=j then L.f j 1-p*n else L.f a 1)/\∀a k,k<4->(BJ L i j g p n).f a (6+k)=if a=i/\k=g then L.f i (6+g)-n else L.f a (6+k):=by
 have s:=f.gd;have b1:=f.small.num i (6+g) hi (by omega);have b2:=f.small.num j 1 r (by omega);have A:=f.g0;unfold BJ
 by_cases q:0<n
 ·rw[if_pos q]
  have u:EG L i j g n=(0,D6 L i j g n):=by
   unfold EG;have:CR L g n=0:=by unfold CR;rw[if_pos (by omega)]
   rw[if_neg (by simp[this]),BR,if_neg (by omega)]
  rw[u];simp only
  have f1:∀a,(D6 L i j g n).f a 1=L.f a 1:=λa=>by
   unfold D6;simp only[FR];rw[if_neg (by omega),if_neg (by omega),if_neg (by omega)]
  have f6:∀a k,k<4->(D6 L i j g n).f a (6+k)=if a=i/\k=g then L.f i (6+g)-n else L.f a (6+k):=λa k m=>by
   unfold D6;simp only[FR];rw[if_neg (by omega),if_neg (by omega)]
   by_cases e:a=i/\k=g
   ·rw[if_pos e,if_pos ⟨e.1,by omega⟩]
   ·rw[if_neg e,if_neg (by omega)]
  by_cases o:0<p
  ·rw[if_pos o]
   have l:1<=p*n:=by
    have:=Int.mul_le_mul (a:=1) (b:=1) (c:=p) (d:=n) (by omega) (by omega) (by omega) (by omega);omega
   have t:GS (D6 L i j g n) j i (p*n)=(0,GO (D6 L i j g n) j i (p*n)):=by
    unfold GS
    have:CR (D6 L i j g n) 0 (p*n)=0:=by
     unfold CR;rw[if_pos ⟨by omega,by show (0:Int)<L.goods;omega,l,by omega⟩]
    rw[if_neg (by simp[this]),f1,if_neg (by omega)]
   rw[t];simp only;refine⟨λa=>?_,λa k m=>?_⟩
   ·unfold GO
    simp only[FR,f1];rw[if_neg (by omega),if_neg (by omega)]
    by_cases e:a=j
    ·simp[e]
    ·simp[e]
   ·unfold GO
    simp only[FR];rw[if_neg (by omega),if_neg (by omega),if_neg (by omega),f6 a k m]
  ·rw[if_neg o]
   have:p=0:=by omega
   subst this;refine⟨λa=>?_,f6⟩;rw[f1]
   split
   ·rename_i h;rw[h];omega
   ·rfl
 ·rw[if_neg q]
  have:n=0:=by omega
  subst this;refine⟨λa=>?_,λa k _=>?_⟩
  ·split
   ·rename_i h;rw[h];omega
   ·rfl
  ·split
   ·rename_i h;rw[h.1,h.2];omega
   ·rfl
end
theorem Kv (f:Ord->Int):∀{l:List Ord} {k:Nat} {o o':Ord},l[k]?=some o->Ah f (l.set k o')=Ah f l+f o'-f o
 | [],k,o,o',h=>by simp at h
 | a::l,0,o,o',h=>by simp at h;subst h;simp only[List.set_cons_zero,Ah];omega
 | a::l,k+1,o,o',h=>by
  have:=Kv f (l:=l) (k:=k) (o:=o) (o':=o') (by simpa using h);simp only[List.set_cons_succ,Ah];omega
theorem FX (f:Ord->Int):∀{l:List Ord} {k:Nat} {o:Ord},l[k]?=some o->Ah f (l.eraseIdx k)=Ah f l-f o
 | [],k,o,h=>by simp at h
 | a::l,0,o,h=>by simp at h;subst h;simp only[List.eraseIdx_zero,List.tail_cons,Ah];omega
 | a::l,k+1,o,h=>by
  have:=FX f (l:=l) (k:=k) (o:=o) (by simpa using h);simp only[List.eraseIdx_cons_succ,Ah];omega
theorem mR {B:Bk} {o:Ord} (h:(E4 B o).1=0):(E4 B o).2.l=B.l ++ [{o with pl:=B.next}]:=by
 unfold E4 at h ⊢
 split
 ·rename_i c;rw[if_pos c]at h;cases h
 ·rename_i c;rw[if_neg c]at h
  split
  ·rename_i c;rw[if_pos c]at h;cases h
  ·rename_i c;rw[if_neg c]at h
   split
   ·rename_i c;rw[if_pos c]at h;cases h
   ·rfl
theorem cF {L:Led} (l:Inv L) {w g:Nat} {c d:Int} (j:w<L.n) (q:(g:Int)<L.goods) (u:-(L.f w 1)<=c) (t:c<=L.f w 0-L.f w 1) (s:-(L.f w (6+g))<=d) (r:d<=L.f w (2+g)-L.f w (6+g)) :
  (∀a,(BY (BN L w c) w g d).f a 1=if a=w then L.f w 1+c else L.f a 1)/\∀a k,k<4->(BY (BN L w c) w g d).f a (6+k)=if a=w/\k=g then L.f w (6+g)+d else L.f a (6+k):=by
 have b:=BK L w c;have f:=MQ l j u t;have p:=l.gd;have m:(BN L w c).f w (6+g)=L.f w (6+g):=by rw[f,if_neg (by omega)]
 have v:(BN L w c).f w (2+g)=L.f w (2+g):=by rw[f,if_neg (by omega)]
 have o:=VB (n:=d) (DS l j c) (i:=w) (g:=g) (by rw[b.2];exact j) (by rw[b.1];exact q) (by rw[m];exact s) (by rw[v,m];exact r);refine⟨λa=>?_,λa k x=>?_⟩
 ·rw[o,if_neg (by omega),f]
  by_cases e:a=w
  ·rw[if_pos ⟨e,rfl⟩,if_pos e]
  ·rw[if_neg (λh=>e h.1),if_neg e]
 ·rw[o,m]
  by_cases e:a=w/\k=g
  ·rw[if_pos ⟨e.1,by omega⟩,if_pos e]
  ·rw[if_neg (by omega),if_neg e,f,if_neg (by omega)]
section
variable {S:Hs} {who:Nat} {o:OpV}
theorem Eg {L:Led} (S:Hs) (i g:Nat) (B:Bk):CM ((S.setBk g B).setL L) i g=Ah (DB i) B.l+auW S i g/\DV ((S.setBk g B).setL L) i g=Ah (Bz i) B.l+auK S i g:=by
 have e:((S.setBk g B).setL L).bk g=B:=by simp[Hs.setBk,Hs.setL]
 unfold CM DV;rw[e];exact⟨rfl,rfl⟩
theorem J9 {L:Led} (S:Hs) {g k:Nat} (B:Bk) (h:k≠g):((S.setBk g B).setL L).bk k=S.bk k:=by simp[Hs.setBk,Hs.setL,h]
theorem L5 {L:Led} (S:Hs) {g k:Nat} (A:Option (Auc×Int)) (h:k≠g):((S.setAu g A).setL L).au k=S.au k:=by simp[Hs.setAu,Hs.setL,h]
theorem Zd (m:S.ok) (k:Snd S) (p:who<S.L.n) (u:o.ok):Snd (Hj S who o).2:=by
 have U:=m.g;have G:=m.cl;unfold Hj;simp only
 split
 ·exact k
 ·rename_i C
  obtain⟨T,Q,P,O,N,B,M,z⟩:=Gb (S:=S) (who:=who) (o:=o) (by simpa using C);generalize Bn S who o=t at *;have v:=u.good;obtain⟨gd,q⟩:∃gd:Nat,o.good=gd:=⟨o.good.toNat,by omega⟩;rw[q,BR]
  split
  ·exact k
  ·rename_i J
   split
   ·exact k
   ·rename_i E
    have f:=mR (Decidable.not_not.1 E);have j:gd<S.G:=by omega
    have F:¬(S.L.f who 0-S.L.f who 1<Cz (decide (o.side=0)) t.p o.am\/S.L.f who (2+gd)-S.L.f who (6+gd)<Dd (decide (o.side=0)) t.p o.am):=by
     intro h;apply J;unfold Gz;rw[BR,if_pos h];decide
    have D:0<=t.p*o.am:=Int.mul_nonneg B (by omega);have I:0<=Cz (decide (o.side=0)) t.p o.am:=by unfold Cz;split <;> omega
    have H:0<=Dd (decide (o.side=0)) t.p o.am:=by unfold Dd;split <;> omega
    have L:=m.led.pos who 1 p (by omega);have K:=m.led.pos who (6+gd) p (by omega);obtain⟨f1,f6⟩:=cF m.led (c:=Cz (decide (o.side=0)) t.p o.am) (d:=Dd (decide (o.side=0)) t.p o.am) p (g:=gd) (by omega) (by omega) (by omega) (by omega) (by omega);have b:=BK S.L who (Cz (decide (o.side=0)) t.p o.am);have a:=Cw (BN S.L who (Cz (decide (o.side=0)) t.p o.am)) who gd (Dd (decide (o.side=0)) t.p o.am);refine k.change j (a.2.trans b.2) (a.1.trans b.1) (λg e=>J9 S _ e) (λg e=>rfl) (λi hi=>?_) (λi g hi r=>?_) (λx s=>?_) (λA w h=>k.sel gd A w j h)
    ·rw[(Eg S i gd _).1,f,I2]
     show (BY (BN S.L who _) who gd _).f i 1=S.L.f i 1+_-(Ah (DB i) (S.bk gd).l+auW S i gd);rw[f1];simp only[Ah,DB,Bo,CF];unfold Cz
     by_cases e:i=who
     ·subst e
      by_cases n:o.side=0
      ·simp[n] <;> omega
      ·simp[n] <;> omega
     ·rw[if_neg e,if_neg (by omega)];omega
    ·rw[(Eg S i gd _).2,f,I2]
     show (BY (BN S.L who _) who gd _).f i (6+g)=_;rw[f6 i g r];simp only[Ah,Bz,Bo,D9];unfold Dd
     by_cases e:g=gd
     ·subst e
      rw[if_pos rfl];show _=S.L.f i (6+g)+_-(Ah (Bz i) (S.bk g).l+auK S i g)
      by_cases y:i=who
      ·subst y
       by_cases n:o.side=0
       ·simp[n] <;> omega
       ·simp[n] <;> omega
      ·rw[if_neg (λh=>y h.1),if_neg (by omega)];omega
     ·rw[if_neg (λh=>e h.2),if_neg e]
    ·have l:x∈(E4 (S.bk gd) (Bo t who o)).2.l:=by
      have:((S.setBk gd (E4 (S.bk gd) (Bo t who o)).2).setL (BY (BN S.L who (Cz (decide (o.side=0)) t.p o.am)) who gd (Dd (decide (o.side=0)) t.p o.am))).bk gd=(E4 (S.bk gd) (Bo t who o)).2:=by simp[Hs.setBk,Hs.setL]
      rw[this]at s;exact s
     rw[f]at l
     rcases List.mem_append.1 l with hx3 | hx3
     ·exact k.ids gd j x hx3
     ·simp at hx3
      subst hx3;simp only[Bo];rw[z];have:=u.id;omega
theorem Wd {l:List Ord} {id:Int} (h:¬(EZ l id).2=false):∃k:Nat,idx l id=some k/\l[k]?=some (EZ l id).1/\(EZ l id).1.id=id:=by
 unfold EZ at h ⊢;cases hi:idx l id with
 | none=>rw[hi]at h;exact absurd rfl h
 | some k=>
  rw[hi]at h;simp only at h ⊢;cases b:l[k]? with
  | none=>rw[b]at h;exact absurd rfl h
  | some o=>
   obtain⟨_,⟨d,a,c⟩,_⟩:=Dt hi;rw[b]at a;cases a;exact⟨k,rfl,b,c⟩
theorem UH {B:Bk} {id own p m:Int} {k:Nat} {o:Ord} (hi:idx B.l id=some k) (b:B.l[k]?=some o) (h:(Bw B id own p m).1=0) (f:Ord->Int) (d:∀pl,f {o with pr:=p,am:=m,pl:=pl} = f {o with pr:=p,am:=m}) :
  o.own=own/\Ah f (Bw B id own p m).2.l=Ah f B.l+f {o with pr:=p,am:=m} - f o/\∀x∈(Bw B id own p m).2.l,x∈B.l\/x.id=o.id/\x.own=o.own:=by
 unfold Bw at h ⊢;rw[hi]at h ⊢;simp only[b]at h ⊢
 split
 ·rename_i c;rw[if_pos c]at h;cases h
 ·rename_i c;rw[if_neg c]at h
  split
  ·rename_i c;rw[if_pos c]at h;cases h
  ·rename_i g;rw[if_neg g]at h
   split
   ·refine⟨Decidable.not_not.1 c,Kv f b,λx a=>?_⟩
    rcases List.mem_or_eq_of_mem_set a with a | rfl
    ·exact .inl a
    ·exact .inr ⟨rfl,rfl⟩
   ·rename_i e;rw[if_neg e]at h
    split
    ·rename_i c;rw[if_pos c]at h;cases h
    ·refine⟨Decidable.not_not.1 c,?_,λx a=>?_⟩
     ·rw[I2,FX f b]
      simp only[Ah];rw[d];omega
     ·rcases List.mem_append.1 a with a | a
      ·exact .inl ((List.eraseIdx_sublist _ _).subset a)
      ·simp at a;subst a;exact .inr ⟨rfl,rfl⟩
theorem Vh (l:S.ok) (m:Snd S) (s:who<S.L.n) (J:o.ok):Snd (De S who o).2:=by
 have hg:=l.g;have X:=l.cl;unfold De;simp only
 split
 ·exact m
 ·rename_i P
  obtain⟨m1,m2,m3,m4,m5,O,m7,m8⟩:=Gb (S:=S) (who:=who) (o:=o) (by simpa using P);generalize Bn S who o=t at *;have L:=J.good;have K:=J.id;obtain⟨gd,E⟩:∃gd:Nat,o.good=gd:=⟨o.good.toNat,by omega⟩;rw[E,BR];have a:gd<S.G:=by omega
  split
  ·exact m
  ·rename_i v
   obtain⟨k,u,q,V⟩:=Wd v;generalize (EZ (S.bk gd).l t.id).1=old at *;have j:=List.mem_of_getElem? q;have Q:=Am.1 ((l.bk gd a).right old j);have D:=m.ids gd a old j;have b:old.own=who:=by omega
   split
   ·exact m
   ·rename_i W
    split
    ·exact m
    ·rename_i Y
     have z:=Decidable.not_not.1 Y;have M:=λi=>UH u q z (DB i) (λpl=>rfl);have fs:=λi=>UH u q z (Bz i) (λpl=>rfl);have U:0<=t.p*o.am:=Int.mul_nonneg O (by omega);have T:0<=old.pr*old.am:=Int.mul_nonneg (by omega) (by omega);have p1:=l.led.pos who 1 s (by omega);have p6:=l.led.pos who (6+gd) s (by omega)
     have q1:DB who old<=S.L.f who 1:=by
      have h1:=J6 (f:=DB who) (λx r=>Ga ((l.bk gd a).right x r)) old j;have B:=GE l m s a;have Z:=Pi (i:=who) l a;unfold CM at B;omega
     have I:Bz who old<=S.L.f who (6+gd):=by
      have h1:=J6 (f:=Bz who) (λx r=>I8 ((l.bk gd a).right x r)) old j;have B:=m.lock who gd s (by omega);rw[if_pos a]at B;have Z:=SI (i:=who) l a;unfold DV at B;omega
     unfold DB at q1;unfold Bz at I
     have H:-(S.L.f who 1)<=Cl old t.p o.am:=by
      unfold Cl
      split
      ·rename_i y;rw[if_pos ⟨b,y⟩]at q1;omega
      ·omega
     have G:-(S.L.f who (6+gd))<=D8 old o.am:=by
      unfold D8
      split
      ·omega
      ·rename_i y;rw[if_pos ⟨b,by simpa using y⟩]at I;omega
     obtain⟨f1,f6⟩:=cF l.led (c:=Cl old t.p o.am) (d:=D8 old o.am) s (g:=gd) (by omega) H (by omega) G (by omega);have p:=BK S.L who (Cl old t.p o.am);have n:=Cw (BN S.L who (Cl old t.p o.am)) who gd (D8 old o.am);refine m.change a (n.2.trans p.2) (n.1.trans p.1) (λg e=>J9 S _ e) (λg e=>rfl) (λi hi=>?_) (λi g hi F=>?_) (λx r=>?_) (λA w h=>m.sel gd A w a h)
     ·rw[(Eg S i gd _).1,(M i).2.1]
      show (BY (BN S.L who _) who gd _).f i 1=S.L.f i 1+_-(Ah (DB i) (S.bk gd).l+auW S i gd);rw[f1];simp only[DB,b];unfold Cl
      by_cases e:i=who
      ·subst e
       cases y:old.buys with
       | true=>simp <;> omega
       | false=>simp <;> omega
      ·rw[if_neg e,if_neg (by omega),if_neg (by omega)];omega
     ·rw[(Eg S i gd _).2,(fs i).2.1]
      show (BY (BN S.L who _) who gd _).f i (6+g)=_;rw[f6 i g F];simp only[Bz,b];unfold D8
      by_cases e:g=gd
      ·subst e
       rw[if_pos rfl];show _=S.L.f i (6+g)+_-(Ah (Bz i) (S.bk g).l+auK S i g)
       by_cases N:i=who
       ·subst N
        cases y:old.buys with
        | true=>simp <;> omega
        | false=>simp <;> omega
       ·rw[if_neg (λh=>N h.1),if_neg (by omega),if_neg (by omega)];omega
      ·rw[if_neg (λh=>e h.2),if_neg e]
     ·have C:x∈(Bw (S.bk gd) t.id who t.p o.am).2.l:=by
       have:((S.setBk gd (Bw (S.bk gd) t.id who t.p o.am).2).setL (BY (BN S.L who (Cl old t.p o.am)) who gd (D8 old o.am))).bk gd=(Bw (S.bk gd) t.id who t.p o.am).2:=by simp[Hs.setBk,Hs.setL]
       rw[this]at r;exact r
      rcases (M who).2.2 x C with hx3 | ⟨hx3,hx4⟩
      ·exact m.ids gd a x hx3
      ·rw[hx3,hx4];exact D
theorem Tr (j:S.ok) (p:Snd S) (q:who<S.L.n) (D:o.ok):Snd (DO S who o).2:=by
 have W:=j.g;have O:=j.cl;unfold DO;simp only
 split
 ·exact p
 ·rename_i X
  have I:=D.good;have G:=D.id;obtain⟨gd,z⟩:∃gd:Nat,o.good=gd:=⟨o.good.toNat,by omega⟩;rw[z,BR];have a:gd<S.G:=by omega
  split
  ·exact p
  ·rename_i t
   obtain⟨k,y,l,N⟩:=Wd t;generalize (EZ (S.bk gd).l (o.id*16+who)).1=old at *;have d:=List.mem_of_getElem? l;have J:=Am.1 ((j.bk gd a).right old d);have M:=p.ids gd a old d;have b:old.own=who:=by omega
   have c:(CN (S.bk gd) (o.id*16+who) who).2.l=(S.bk gd).l.eraseIdx k:=by
    unfold CN;rw[y];simp only[l];rw[if_neg (by simp[b])]
   have K:0<=old.pr*old.am:=Int.mul_nonneg (by omega) (by omega);have V:=j.led.pos who 1 q (by omega);have H:=j.led.held who q;have F:=j.led.lock who gd q (by omega);have U:=j.led.pos who (6+gd) q (by omega)
   have q1:DB who old<=S.L.f who 1:=by
    have Q:=J6 (f:=DB who) (λx r=>Ga ((j.bk gd a).right x r)) old d;have v:=GE j p q a;have P:=Pi (i:=who) j a;unfold CM at v;omega
   have C:Bz who old<=S.L.f who (6+gd):=by
    have Q:=J6 (f:=Bz who) (λx r=>I8 ((j.bk gd a).right x r)) old d;have v:=p.lock who gd q (by omega);rw[if_pos a]at v;have P:=SI (i:=who) j a;unfold DV at v;omega
   unfold DB at q1;unfold Bz at C
   have ids':∀{L:Led},∀x∈(((S.setBk gd (CN (S.bk gd) (o.id*16+who) who).2).setL L).bk gd).l,x.id%16=x.own/\x.id/16<=1048576:=λ{L} x r=>by
    have:((S.setBk gd (CN (S.bk gd) (o.id*16+who) who).2).setL L).bk gd=(CN (S.bk gd) (o.id*16+who) who).2:=by simp[Hs.setBk,Hs.setL]
    rw[this,c]at r;exact p.ids gd a x ((List.eraseIdx_sublist _ _).subset r)
   have E:-old.pr*old.am = -(old.pr*old.am):=Int.neg_mul _ _;cases s:old.buys with
   | true=>
    simp only[if_true];rw[if_pos ⟨b,s⟩]at q1;have u:=MQ (n:=-old.pr*old.am) j.led q (by omega) (by omega);have m:=BK S.L who (-old.pr*old.am);refine p.change a m.2 m.1 (λg e=>J9 S _ e) (λg e=>rfl) (λi hi=>?_) (λi g hi B=>?_) ids' (λA w h=>p.sel gd A w a h)
    ·rw[(Eg S i gd _).1,c,FX _ l]
     show (BN S.L who _).f i 1=S.L.f i 1+_-(Ah (DB i) (S.bk gd).l+auW S i gd);rw[u];simp only[DB,b,s]
     by_cases e:i=who
     ·subst e;simp <;> omega
     ·rw[if_neg (by omega),if_neg (by omega)];omega
    ·rw[(Eg S i gd _).2,c,FX _ l]
     show (BN S.L who _).f i (6+g)=_;rw[u,if_neg (by omega)];simp only[Bz,s]
     by_cases e:g=gd
     ·subst e
      rw[if_pos rfl];show _=S.L.f i (6+g)+_-(Ah (Bz i) (S.bk g).l+auK S i g);simp <;> omega
     ·rw[if_neg e]
   | false=>
    simp only[Ba,if_false];rw[if_pos ⟨b,s⟩]at C;have u:=VB (n:=-old.am) j.led q (g:=gd) (by omega) (by omega) (by omega);have m:=Cw S.L who gd (-old.am);refine p.change a m.2 m.1 (λg e=>J9 S _ e) (λg e=>rfl) (λi hi=>?_) (λi g hi B=>?_) ids' (λA w h=>p.sel gd A w a h)
    ·rw[(Eg S i gd _).1,c,FX _ l]
     show (BY S.L who gd _).f i 1=S.L.f i 1+_-(Ah (DB i) (S.bk gd).l+auW S i gd);rw[u,if_neg (by omega)];simp only[DB,s];simp <;> omega
    ·rw[(Eg S i gd _).2,c,FX _ l]
     show (BY S.L who gd _).f i (6+g)=_;rw[u];simp only[Bz,b,s]
     by_cases e:g=gd
     ·subst e
      rw[if_pos rfl];show _=S.L.f i (6+g)+_-(Ah (Bz i) (S.bk g).l+auK S i g)
      by_cases T:i=who
      ·subst T;simp <;> omega
      ·rw[if_neg (by omega),if_neg (by omega)];omega
     ·rw[if_neg (by omega),if_neg e]
end
theorem IQ {L:Led} (S:Hs) (i g:Nat) (A:Auc) (w:Int):CM ((S.setAu g (some (A,w))).setL L) i g=Ah (DB i) (S.bk g).l+Ae A i/\DV ((S.setAu g (some (A,w))).setL L) i g=Ah (Bz i) (S.bk g).l+(if w=i then A.sup else 0):=by
 have e:((S.setAu g (some (A,w))).setL L).au g=some (A,w):=by simp[Hs.setAu,Hs.setL]
 unfold CM DV auW auK;rw[e];exact⟨rfl,rfl⟩
theorem Og {L:Led} (S:Hs) (i g:Nat):CM ((S.setAu g none).setL L) i g=Ah (DB i) (S.bk g).l/\DV ((S.setAu g none).setL L) i g=Ah (Bz i) (S.bk g).l:=by
 have e:((S.setAu g none).setL L).au g=none:=by simp[Hs.setAu,Hs.setL]
 unfold CM DV auW auK;rw[e];exact⟨Int.add_zero _,Int.add_zero _⟩
theorem QU (s t p n:Int) (i:Int):Ae (CS s t p n) i=0/\B4 (CS s t p n) i=(0,0):=by
 have h:B4 (CS s t p n) i=(0,0):=by unfold B4;split <;> rfl
 refine⟨?_,h⟩;unfold Ae;rw[h];simp
section
variable {S:Hs} {who:Nat} {o:OpV}
theorem Uy (n:S.ok) (d:Snd S) (z:who<S.L.n) (t:o.ok):Snd (Dq S who o).2:=by
 have B:=n.g;have v:=n.cl;unfold Dq
 split
 ·exact d
 ·split
  ·exact d
  ·split
   ·exact d
   ·split
    ·exact d
    ·rename_i f
     split
     ·exact d
     ·rename_i m
      have q:=t.good;obtain⟨gd,k⟩:∃gd:Nat,o.good=gd:=⟨o.good.toNat,by omega⟩;rw[k,BR]at f ⊢;rw[k]at m;have l:gd<S.G:=by omega
      have b:S.au gd=none:=by
       cases h:S.au gd with
       | none=>rfl
       | some p=>rw[h]at f;exact absurd rfl f
      have a:=Decidable.not_not.1 m
      have j:(CH S.L who gd o.am).2=S.L.set who (6+gd) (S.L.f who (6+gd)+o.am):=by
       unfold CH at a ⊢
       split
       ·rename_i c;rw[if_pos c]at a;cases a
       ·rename_i c;rw[if_neg c]at a
        split
        ·rename_i c;rw[if_pos c]at a;cases a
        ·rw[BR]
      rw[j];refine d.change l rfl rfl (λg e=>rfl) (λg e=>L5 S _ e) (λi hi=>?_) (λi g hi u=>?_) (λx s=>d.ids gd l x s) (λA w h=>?_)
      ·rw[(IQ S i gd _ _).1,(QU _ _ _ _ _).1]
       show (S.L.set who (6+gd) _).f i 1=_;rw[FR,if_neg (by omega)];unfold CM auW;rw[b];simp only;omega
      ·rw[(IQ S i gd _ _).2]
       show (S.L.set who (6+gd) _).f i (6+g)=_;rw[FR];have y:DV S i gd=Ah (Bz i) (S.bk gd).l:=by unfold DV auK;rw[b];simp
       by_cases e:g=gd
       ·subst e
        rw[if_pos rfl,y]
        by_cases r:i=who
        ·subst r
         rw[if_pos ⟨rfl,rfl⟩,if_pos rfl];show _=S.L.f i (6+g)+(_+o.am)-_;omega
        ·rw[if_neg (λh=>r h.1),if_neg (by omega)];omega
       ·rw[if_neg (by omega),if_neg e]
      ·have:((S.setAu gd (some (CS o.am (B8 o.price).1 o.side S.L.n,(who:Int)))).setL (S.L.set who (6+gd) (S.L.f who (6+gd)+o.am))).au gd=some (CS o.am (B8 o.price).1 o.side S.L.n,(who:Int)):=by simp[Hs.setAu,Hs.setL]
       rw[this]at h;cases h;exact (QU _ _ _ _ _).2
theorem Ni {A:Auc} {who:Nat} {n:Int} {i:Int} (a:who<A.n):B4 (A.setNow who n) i=if i=who then ((B4 A i).1,n)else B4 A i:=by
 unfold B4;have e:(A.setNow who n).n=A.n:=rfl;rw[e]
 by_cases h:i<0\/(A.n:Int)<=i
 ·rw[if_pos h,if_pos h,if_neg (by omega)]
 ·rw[if_neg h,if_neg h]
  unfold Auc.setNow;simp only
  by_cases e:i=who
  ·subst e;simp
  ·have:¬i.toNat=who:=by omega
   rw[if_neg e,if_neg this]
theorem Jb {A:Auc} {who:Nat} {n:Int} {i:Int} (a:who<A.n):Ae (A.setNow who n) i=if i=who then max ((B4 A who).1*A.last) (n*A.price)else Ae A i:=by
 have c:(A.setNow who n).price=A.price:=rfl;have b:(A.setNow who n).last=A.last:=rfl;unfold Ae;rw[Ni a,c,b]
 by_cases e:i=who
 ·subst e;simp
 ·rw[if_neg e,if_neg e]
theorem PC {A:Auc} {who:Nat} {n:Int} (h0:A.ste=0) (b:who<A.n) (c:0<=n/\n<=1048576) (a:¬(1<A.rnd/\(B4 A who).1<n)):(DZ A who n).2=A.setNow who n:=by
 have e:(B4 A who).1=A.was who:=by unfold B4;rw[if_neg (by omega)];simp
 rw[e]at a;unfold DZ;rw[if_neg (by simp[h0]),if_neg (by omega),if_neg (by rw[BR];exact a)]
 rfl
theorem X9 (j:S.ok) (c:Snd S) (k:who<S.L.n) (z:o.ok):Snd (FC S who o).2:=by
 have N:=j.g;have I:=j.cl;unfold FC
 split
 ·exact c
 ·rename_i O
  have C:=z.good;have d:=z.am;obtain⟨gd,u⟩:∃gd:Nat,o.good=gd:=⟨o.good.toNat,by omega⟩;rw[u,BR];have a:gd<S.G:=by omega
  split
  ·exact c
  ·rename_i A w b
   obtain⟨E,K,y,T,Q⟩:=j.au gd A w a b;simp only
   split
   ·exact c
   ·rename_i s
    split
    ·exact c
    ·rename_i F
     split
     ·exact c
     ·rename_i q
      rw[PC K (by rw[y];exact k) ⟨d.1,by omega⟩ F];have t:=Dr E who
      have r:Ae A who<=S.L.f who 1:=by
       have v:=GE j c k a;have P:=Cg (f:=DB who) (l:=(S.bk gd).l) λx p=>Ga ((j.bk gd a).right x p);unfold CM auW at v;rw[b]at v;simp only at v;omega
      have B:0<=max ((B4 A who).1*A.last) (o.am*A.price):=by
       have G:=E.priceB;have:0<=o.am*A.price:=Int.mul_nonneg d.1 G.1;omega
      generalize M:max ((B4 A who).1*A.last) (o.am*A.price)-Ae A who=more at *;have D:=MQ (n:=more) j.led k (by omega) (by omega);have m:=BK S.L who more
      have J:∀i:Nat,Ae (A.setNow who o.am) i=if i=who then Ae A who+more else Ae A i:=λi=>by
       rw[Jb (by rw[y];exact k)]
       by_cases e:i=who
       ·subst e;rw[if_pos rfl,if_pos rfl];omega
       ·rw[if_neg (by omega),if_neg e]
      refine c.change a m.2 m.1 (λg e=>rfl) (λg e=>L5 S _ e) (λi hi=>?_) (λi g hi H=>?_) (λx p=>c.ids gd a x p) (λA' L h=>?_)
      ·rw[(IQ S i gd _ _).1,J]
       show (BN S.L who more).f i 1=_;rw[D];unfold CM auW;rw[b];simp only
       by_cases e:i=who
       ·subst e;simp <;> omega
       ·rw[if_neg (by omega),if_neg e];omega
      ·rw[(IQ S i gd _ _).2]
       show (BN S.L who more).f i (6+g)=_;rw[D,if_neg (by omega)];unfold DV auK;rw[b];simp only
       by_cases e:g=gd
       ·subst e
        rw[if_pos rfl];show _=S.L.f i (6+g)+(_+if w=(i:Int)then A.sup else 0)-_;omega
       ·rw[if_neg e]
      ·have:((S.setAu gd (some (A.setNow who o.am,w))).setL (BN S.L who more)).au gd=some (A.setNow who o.am,w):=by simp[Hs.setAu,Hs.setL]
       rw[this]at h;cases h;rw[Ni (by rw[y];exact k),if_neg s];exact c.sel gd A w a b
theorem NO {S:Hs} (a:Snd S) {i c:Nat} {v:Int} (e:c≠1) (d:c<6\/9<c):Snd (S.setL (S.L.set i c v)):=
 a.plain rfl rfl rfl rfl (λk _=>by show (S.L.set i c v).f k 1=_;rw[FR,if_neg (by omega)]) λk g _ b=>by
  show (S.L.set i c v).f k (6+g)=_;rw[FR,if_neg (by omega)]
theorem eJ (a:Snd S) {n:Int}:Snd (S.setL (GW S.L who n).2):=by
 unfold GW;(repeat' split) <;> first | exact a | exact NO a (by omega) (by omega)
theorem Z1 (a:Snd S) {n:Int}:Snd (S.setL (EE S.L who n).2):=by
 unfold EE;(repeat' split) <;> first | exact a | exact NO a (by omega) (by omega)
theorem XJ (b:S.ok) (a:Snd S) {g n:Int}:Snd (S.setL (DG S.L who g n).2):=by
 have c:=b.g;unfold DG
 split
 ·exact a
 ·rename_i h
  have:=Ih (by omega) h
  split
  ·exact a
  ·exact NO a (by omega) (by omega)
theorem YD (b:S.ok) (a:Snd S) {g n:Int}:Snd (S.setL (DL S.L who g n).2):=by
 have c:=b.g;unfold DL
 split
 ·exact a
 ·rename_i h
  have:=Ih (by omega) h
  split
  ·exact a
  ·exact NO a (by omega) (by omega)
theorem Zz (a:Snd S) {s:Int} {t:ByteArray}:Snd (S.setL (EK S.L who s t).2):=by
 unfold EK
 split
 ·exact a
 ·split
  ·exact a
  ·exact a.plain rfl rfl rfl rfl (λk _=>by show (S.L.set who 10 s).f k 1=_;rw[FR,if_neg (by omega)]) λk g _ b=>by
    show (S.L.set who 10 s).f k (6+g)=_;rw[FR,if_neg (by omega)]
end
def amO (o:Ord):Int:=o.am
def Cn:List Fil->Int
 | []=>0
 | f::fs=>f.am+Cn fs
def amF (i:Nat):List Fil->Int
 | []=>0
 | f::fs=>(if f.own=i then f.am else 0)+amF i fs
theorem SZ:∀(a b:List Fil),Cn (a++b)=Cn a+Cn b
 | [],b=>by simp[Cn]
 | f::a,b=>by simp only[List.cons_append,Cn,SZ a b];omega
theorem Kk {i:Nat}:∀{fs:List Fil},(∀f∈fs,0<=f.am)->0<=amF i fs
 | [],_=>by simp[amF]
 | f::fs,h=>by
  have c:=Kk (i:=i) λx a=>h x (List.mem_cons_of_mem f a);have b:=h f (by simp);simp only[amF]
  split <;> omega
theorem dT {s:Int×List Fil} {o:Ord} (a:0<=s.1) (b:1<=o.am):(stF s o).1=s.1-min s.1 o.am/\Cn (stF s o).2=Cn s.2+min s.1 o.am:=by
 unfold stF
 split
 ·exact⟨rfl,by simp[SZ,Cn]⟩
 ·omega
theorem IS:∀(l:List Ord) (s:Int×List Fil),0<=s.1->(∀o∈l,1<=o.am)->(l.foldl stF s).1=s.1-min s.1 (Ah amO l)/\Cn (l.foldl stF s).2=Cn s.2+min s.1 (Ah amO l)
 | [],s,hs,_=>by simp only[List.foldl_nil,Ah];omega
 | o::l,s,hs,h=>by
  have b:=h o (by simp);obtain⟨i,g⟩:=dT hs b;have j:=Cg (f:=amO) (l:=l) λx a=>by have:=h x (by simp[a]);show 0<=x.am;omega
  obtain⟨d,c⟩:=IS l (stF s o) (by omega) λx a=>h x (by simp[a]);rw[List.foldl_cons,d,c,i,g];have e:Ah amO (o::l)=o.am+Ah amO l:=rfl;rw[e];omega
theorem Jl:∀(l:List Ord) (m:Int) (out:List Fil),(l.foldl stF (m,out)).2=out++(l.foldl stF (m,[])).2/\(l.foldl stF (m,out)).1=(l.foldl stF (m,[])).1
 | [],m,out=>by simp
 | o::l,m,out=>by
  simp only[List.foldl_cons]
  by_cases c:0<min m o.am
  ·have e:∀out,stF (m,out) o=(m-min m o.am,out ++ [⟨o.id,o.own,min m o.am⟩]):=λout=>if_pos c
   rw[e,e];obtain⟨f,d⟩:=Jl l (m-min m o.am) (out ++ [⟨o.id,o.own,min m o.am⟩]);obtain⟨b,a⟩:=Jl l (m-min m o.am) ([] ++ [⟨o.id,o.own,min m o.am⟩])
   constructor
   ·rw[f,b];simp
   ·rw[d,a]
  ·have e:∀out,stF (m,out) o=(m,out):=λout=>if_neg c
   rw[e,e];exact Jl l m out
theorem Sm (l:List Ord) (n:Int) (out:List Fil):Ed l n out=out++Ed l n []:=(Jl l n out).1
theorem JT {f:Ord->Int} {l m:List Ord} (h:l.Perm m):Ah f l=Ah f m:=by
 induction h with
 | nil=>rfl
 | cons a _ ih=>simp only[Ah,ih]
 | swap a b l=>simp only[Ah];omega
 | trans _ _ ih1 ih2=>rw[ih1,ih2]
theorem JB {l:List Ord} (h:∀o∈l,B0 o=true):Bj l=l:=List.filter_eq_self.2 h
theorem Nw {p:Int}:∀(l:List Ord),Ah amO (l.filter (BP true p))=Ah (DN p) l
 | []=>rfl
 | o::l=>by
  have a:=Nw (p:=p) l;have e:BP true p o=decide (o.buys=true/\p<=o.pr):=by unfold BP;simp
  rw[List.filter_cons,e]
  by_cases c:o.buys=true/\p<=o.pr
  ·simp only[c,and_self,B6,if_true,Ah,a,DN];rfl
  ·have:decide (o.buys=true/\p<=o.pr)=false:=by simp[c]
   rw[this];have b:DN p o=0:=if_neg c;simp only[Ba,if_false,Ah,b];rw[a];omega
theorem MA {p:Int}:∀(l:List Ord),Ah amO (l.filter (BP false p))=Ah (Bt p) l
 | []=>rfl
 | o::l=>by
  have a:=MA (p:=p) l;have e:BP false p o=decide (o.buys=false/\o.pr<=p):=by unfold BP;simp
  rw[List.filter_cons,e]
  by_cases c:o.buys=false/\o.pr<=p
  ·simp only[c,and_self,B6,if_true,Ah,a,Bt];rfl
  ·have:decide (o.buys=false/\o.pr<=p)=false:=by simp[c]
   rw[this];have b:Bt p o=0:=if_neg c;simp only[Ba,if_false,Ah,b];rw[a];omega
theorem Tg {r:List Ord} (b:∀o∈r,B0 o=true):(Cq r).2<=Ah (DN (Cq r).1) r/\(Cq r).2<=Ah (Bt (Cq r).1) r:=by
 have c:∀(m:List Ord) (pa:Int×Int),(pa.2<=Ah (DN pa.1) r/\pa.2<=Ah (Bt pa.1) r)->((m.foldl (BE r) pa).2<=Ah (DN (m.foldl (BE r) pa).1) r/\(m.foldl (BE r) pa).2<=Ah (Bt (m.foldl (BE r) pa).1) r):=λm=>by
  induction m with
  | nil=>intro pa h;exact h
  | cons o m ih=>
   intro pa h;refine ih _ ?_;unfold BE;simp only
   split
   ·simp only;omega
   ·exact h
 refine c r (0,0) ⟨?_,?_⟩
 ·refine Cg λo a=>?_
  have:=Am.1 (b o a);unfold DN;split <;> omega
 ·refine Cg λo a=>?_
  have:=Am.1 (b o a);unfold Bt;split <;> omega
def Ea (l:List Ord) (b:Bool) (p:Int) (f:Fil):Prop:=∃o∈l,o.buys=b/\(b=true->p<=o.pr)/\f.id=o.id/\f.own=o.own/\0<f.am/\f.am<=o.am
theorem NQ {l:List Ord} {b:Bool} {p n:Int}:∀f∈Ed (CT (CZ l b p)) n [],Ea l b p f:=λf d=>by
 unfold Ed at d
 rcases Jj _ _ _ d with h | ⟨o,ho,h⟩
 ·cases h
 ·have c:=I5 ho
  refine⟨o,c.1,c.2.2,λe=>?_,h⟩;have g:=(Cj _).mem_iff.1 ho;have a:=(List.mem_filter.1 g).2;unfold BP at a;simp only[CF]at a;rw[e]at a
  rcases a.2 with h3 | h3
  ·exact h3.2
  ·cases h3.1
def GY (l:List Ord) (i:Nat) (fs:List Fil):Int:=Ah (λo=>if o.own=i/\o.buys=true then o.pr*B1 fs o.id else 0) l
def MY (l:List Ord) (i:Nat) (fs:List Fil):Int:=Ah (λo=>if o.own=i/\o.buys=false then B1 fs o.id else 0) l
theorem J7 (f g h:Ord->Int):∀(l:List Ord),(∀o∈l,f o=g o+h o)->Ah f l=Ah g l+Ah h l
 | [],_=>by simp[Ah]
 | o::l,H=>by
  have c:=J7 f g h l λx a=>H x (by simp[a]);have b:=H o (by simp);simp only[Ah];omega
theorem FY {f g:Ord->Int}:∀{l:List Ord},(∀o∈l,f o=g o)->Ah f l=Ah g l
 | [],_=>rfl
 | o::l,H=>by
  have c:=FY (f:=f) (g:=g) (l:=l) λx a=>H x (by simp[a]);have b:=H o (by simp);simp only[Ah];omega
theorem I0 {f:Ord->Int} {l:List Ord} (h:∀o∈l,f o=0):Ah f l=0:=by
 rw[FY (g:=λ_=>0) h]
 induction l with
 | nil=>rfl
 | cons a l ih=>simp only[Ah];rw[ih λo b=>h o (by simp[b])];rfl
theorem IV (l:List Ord) (i:Nat) (f:Fil) (fs:List Fil):GY l i (f::fs)=GY l i [f]+GY l i fs:=by
 refine J7 _ _ _ l λo _=>?_;simp only[B1]
 split
 ·rw[Int.add_zero,Int.mul_add]
 ·rfl
theorem Qi (l:List Ord) (i:Nat) (f:Fil) (fs:List Fil):MY l i (f::fs)=MY l i [f]+MY l i fs:=by
 refine J7 _ _ _ l λo _=>?_;simp only[B1]
 split <;> omega
theorem Oz (l:List Ord) (i:Nat) (a b:List Fil):GY l i (a++b)=GY l i a+GY l i b:=by
 refine J7 _ _ _ l λo _=>?_;rw[Eu]
 split
 ·rw[Int.mul_add]
 ·rfl
theorem Ox (l:List Ord) (i:Nat) (a b:List Fil):MY l i (a++b)=MY l i a+MY l i b:=by
 refine J7 _ _ _ l λo _=>?_;rw[Eu]
 split <;> omega
theorem KQ {g:Ord->Int}:∀{l:List Ord} {o:Ord},Ids l->o∈l->Ah (λx=>if o.id=x.id then g x else 0) l=g o
 | [],o,_,h=>by cases h
 | x::l,o,hI,h=>by
  have a:=List.pairwise_cons.1 hI;simp only[Ah]
  rcases List.mem_cons.1 h with rfl | h
  ·rw[if_pos rfl,I0 λy b=>if_neg (a.1 y b)];omega
  ·rw[if_neg (λe=>a.1 o h e.symm),KQ a.2 h];omega
theorem NW {l:List Ord} (j:Ids l) {b:Bool} {p:Int} {f:Fil} (m:Ea l b p f) (i:Nat):∃o∈l,o.buys=b/\(b=true->p<=o.pr)/\f.id=o.id/\f.own=o.own/\0<f.am/\f.am<=o.am /\
  GY l i [f]=(if b=true/\o.own=i then o.pr*f.am else 0)/\MY l i [f]=if b=false/\o.own=i then f.am else 0:=by
 obtain⟨o,a,d,k,g,r,q,n⟩:=m;refine⟨o,a,d,k,g,r,q,n,?_,?_⟩
 ·have e:GY l i [f]=Ah (λx=>if o.id=x.id then (if x.own=i/\x.buys=true then x.pr*f.am else 0)else 0) l:=FY λx _=>by
   simp only[B1,g,Int.add_zero]
   split
   ·split
    ·rfl
    ·simp
   ·split <;> rfl
  rw[e,KQ j a,d]
  by_cases c:b=true/\o.own=i
  ·rw[if_pos c,if_pos ⟨c.2,c.1⟩]
  ·rw[if_neg c,if_neg (λh=>c ⟨h.2,h.1⟩)]
 ·have e:MY l i [f]=Ah (λx=>if o.id=x.id then (if x.own=i/\x.buys=false then f.am else 0)else 0) l:=FY λx _=>by
   simp only[B1,g,Int.add_zero]
   split
   ·split <;> rfl
   ·split <;> rfl
  rw[e,KQ j a,d]
  by_cases c:b=false/\o.own=i
  ·rw[if_pos c,if_pos ⟨c.2,c.1⟩]
  ·rw[if_neg c,if_neg (λh=>c ⟨h.2,h.1⟩)]
theorem Fi {l:List Ord} (a:Ids l) {p:Int} (i:Nat):∀{fs:List Fil},(∀f∈fs,Ea l false p f)->GY l i fs=0/\MY l i fs=amF i fs
 | [],_=>⟨I0 λo _=>by simp[B1],I0 λo _=>by simp[B1]⟩
 | f::fs,h=>by
  obtain⟨d,c⟩:=Fi a i (fs:=fs) λx b=>h x (by simp[b]);obtain⟨o,m,n,k,s,j,r,q,g,e⟩:=NW a (h f (by simp)) i;rw[IV,Qi,d,c,g,e];refine⟨by simp,?_⟩;simp only[amF,j,true_and]
theorem Jt {l:List Ord} (a:Ids l) {p:Int} (i:Nat):∀{fs:List Fil},(∀f∈fs,Ea l true p f)->MY l i fs=0
 | [],_=>I0 λo _=>by simp[B1]
 | f::fs,h=>by
  have c:=Jt a i (fs:=fs) λx b=>h x (by simp[b]);obtain⟨o,g,j,e,r,q,n,m,k,d⟩:=NW a (h f (by simp)) i;rw[Qi,c,d];simp
theorem T4 {l:List Ord} (i:Ids l) {p:Int} {f:Fil} {o:Ord} (b:o∈l) (g:f.id=o.id) (t:Spl):Cu p l t f=inF p f t o:=by
 unfold Cu
 induction l generalizing t with
 | nil=>cases b
 | cons x l ih=>
  have d:=List.pairwise_cons.1 i;rw[List.foldl_cons]
  rcases List.mem_cons.1 b with rfl | b
  ·have a:∀(m:List Ord) (u:Spl),(∀y∈m,y.id≠f.id)->m.foldl (inF p f) u=u:=λm=>by
    induction m with
    | nil=>intro u _;rfl
    | cons y m ih2=>
     intro u c;rw[List.foldl_cons];have:inF p f u y=u:=by unfold inF;rw[if_pos (c y (by simp))]
     rw[this];exact ih2 u λz h=>c z (by simp[h])
   exact a l _ λy c e=>d.1 y c (by rw[e,g])
  ·have:inF p f t x=t:=by unfold inF;rw[if_pos (by rw[g];exact d.1 o b)]
   rw[this];exact ih d.2 b t
theorem MH {l:List Ord} (a:Ids l) {p:Int}:∀(fs:List Fil) (t:Spl),(∀f∈fs,Ea l false p f)->fs.foldl (Cu p l) t = {t with se:=t.se++fs}
 | [],t,_=>by simp
 | f::fs,t,h=>by
  obtain⟨o,d,e,_,b,j,i,g⟩:=h f (by simp);rw[List.foldl_cons,T4 a d b];have:inF p f t o = {t with se:=t.se ++ [f]}:=by unfold inF;rw[if_neg (by simp[b]),if_neg (by simp[e])]
  rw[this,MH a fs _ λx c=>h x (by simp[c])];simp
theorem OC {l:List Ord} (r:Ids l) (u:∀o∈l,B0 o=true) {p:Int} (F:0<=p) {n:Nat} (b:∀o∈l,o.own<n):∀(fs:List Fil) (t:Spl),(∀f∈fs,Ea l true p f)->Inv t.L->t.L.n=n->(∀i,i<n->GY l i fs<=t.L.f i 1) ->
  (fs.foldl (Cu p l) t).bu=t.bu++fs/\(fs.foldl (Cu p l) t).se=t.se/\Inv (fs.foldl (Cu p l) t).L/\(fs.foldl (Cu p l) t).L.n=n/\(fs.foldl (Cu p l) t).L.goods=t.L.goods /\
   (∀i,i<n->(fs.foldl (Cu p l) t).L.f i 1=t.L.f i 1-GY l i fs+p*amF i fs)/\∀i k,k≠1->(fs.foldl (Cu p l) t).L.f i k=t.L.f i k
 | [],t,_,hv,hn,_=>by
  refine⟨by simp,rfl,hv,hn,rfl,λi _=>?_,λ_ _ _=>rfl⟩;have:GY l i []=0:=I0 λo _=>by simp[B1]
  rw[this];simp[amF]
 | f::fs,t,h,hv,hn,hc=>by
  obtain⟨o,m,Z,e,D,e2,e3,e4⟩:=h f (by simp);have e:=e rfl;have Q:=Am.1 (u o m);have U:=b o m;obtain⟨w,E⟩:∃w:Nat,f.own=w:=⟨f.own.toNat,by omega⟩;have a:w<n:=by omega
  have one:∀i:Nat,GY l i [f]=if w=i then o.pr*f.am else 0:=λi=>by
   obtain⟨o',v,Y,_,g1,g2,_,_,g5,_⟩:=NW r (h f (by simp)) i;have:o'=o:=Oe r v m (by rw[<-g1,D]);subst this;rw[g5]
   by_cases c:w=i
   ·rw[if_pos ⟨rfl,by omega⟩,if_pos c]
   ·rw[if_neg (by omega),if_neg c]
  have d:Cu p l t f = {t with L:=BN t.L w (-(o.pr-p)*f.am),bu:=t.bu ++ [f]}:=by
   rw[T4 r m D];unfold inF;rw[if_neg (by simp[D]),if_pos Z,E,BR]
  have T:0<=o.pr*f.am:=Int.mul_nonneg (by omega) (by omega);have S:0<=p*f.am:=Int.mul_nonneg F (by omega);have X:-(o.pr-p)*f.am=p*f.am-o.pr*f.am:=by rw[Int.neg_mul,Int.sub_mul];omega
  have V:p*f.am<=o.pr*f.am:=Int.mul_le_mul_of_nonneg_right e (by omega)
  have j:∀i,0<=GY l i fs:=λi=>Cg λx s=>by
   have:=Am.1 (u x s)
   split
   ·refine Int.mul_nonneg (by omega) (MV λy P=>?_)
    obtain⟨_,_,_,_,_,_,q,_⟩:=h y (by simp[P]);omega
   ·omega
  have B:=hc w a;rw[IV,one,if_pos rfl]at B;have c0:=j w;have z:=hv.held w (by rw[hn];exact a);have A:=MQ (n:=-(o.pr-p)*f.am) hv (i:=w) (by rw[hn];exact a) (by omega) (by omega);have g:=BK t.L w (-(o.pr-p)*f.am)
  have G:=OC r u F b fs {t with L:=BN t.L w (-(o.pr-p)*f.am),bu:=t.bu ++ [f]} (λx s=>h x (by simp[s])) (DS hv (by rw[hn];exact a) _) (g.2.trans hn) (λi hi=>by
   show GY l i fs<=(BN t.L w _).f i 1;have C:=hc i hi;rw[IV,one]at C;rw[A]
   by_cases c:i=w
   ·subst c
    rw[if_pos rfl]at C;rw[if_pos ⟨rfl,rfl⟩];omega
   ·rw[if_neg (λh=>c h.symm)]at C
    rw[if_neg (by omega)];omega)
  rw[List.foldl_cons,d];obtain⟨O,N,M,K,J,I,H⟩:=G;refine⟨by rw[O];simp,N,M,K,J.trans g.1,λi hi=>?_,λi k W=>?_⟩
  ·rw[I i hi,IV,one]
   show (BN t.L w _).f i 1-_+_=_
   have eA:amF i (f::fs)=(if w=i then f.am else 0)+amF i fs:=by
    simp only[amF,E]
    by_cases c:w=i
    ·rw[if_pos c,if_pos (by omega)]
    ·rw[if_neg c,if_neg (by omega)]
   rw[A,eA]
   by_cases c:i=w
   ·subst c
    rw[if_pos ⟨rfl,rfl⟩,if_pos rfl,if_pos rfl,Int.mul_add,X];omega
   ·rw[if_neg (by omega),if_neg (λh=>c h.symm),if_neg (λh=>c h.symm)];simp
  ·rw[H i k W]
   show (BN t.L w _).f i k=_;rw[A,if_neg (by omega)]
theorem GH {i:Nat} {f:Fil} {r:List Fil} {m:Int}:amF i (if f.am-m=0 then r else {f with am:=f.am-m} :: r)=amF i (f::r)-(if f.own=i then m else 0)/\Cn (if f.am-m=0 then r else {f with am:=f.am-m} :: r)=Cn (f::r)-m:=by
 split
 ·simp only[amF,Cn]
  constructor
  ·split <;> omega
  ·omega
 ·simp only[amF,Cn]
  constructor
  ·split <;> omega
  ·omega
theorem WP {gd:Nat} {p:Int} {n:Nat} (I:0<=p):∀(k:Nat) (L:Led) (bu q:List Fil),bu.length+q.length<=k->Cn bu=Cn q->Inv L->L.n=n->(gd:Int)<L.goods->BH n bu->BH n q->(∀i,i<n->p*amF i bu<=L.f i 1)->(∀i,i<n->amF i q<=L.f i (6+gd)) ->
  (∀i,i<n->(CD gd p k L bu q).f i 1=L.f i 1-p*amF i bu)/\∀i j,i<n->j<4->(CD gd p k L bu q).f i (6+j)=if j=gd then L.f i (6+j)-amF i q else L.f i (6+j)
 | k,L,[],q,hk,ht,hv,hn,hg,hb,hs,_,_=>by
  rw[Ff]
  have:q = []:=by
   cases q with
   | nil=>rfl
   | cons s ss=>
    have T:=hs s (by simp)
    have S:0<=Cn ss:=by
     have:∀(l:List Fil),BH n l->0<=Cn l:=λl=>by
      induction l with
      | nil=>intro _;simp[Cn]
      | cons a l v=>intro h;have:=v (λx o=>h x (by simp[o]));have:=h a (by simp);simp only[Cn];omega
     exact this ss λx o=>hs x (by simp[o])
    simp only[Cn]at ht;omega
  subst this;refine⟨λi _=>by simp[amF],λi j _ _=>by simp[amF]⟩
 | k,L,b::bs,[],hk,ht,hv,hn,hg,hb,hs,_,_=>by
  exfalso
  have T:=hb b (by simp)
  have S:0<=Cn bs:=by
   have:∀(l:List Fil),BH n l->0<=Cn l:=λl=>by
    induction l with
    | nil=>intro _;simp[Cn]
    | cons a l v=>intro h;have:=v (λx o=>h x (by simp[o]));have:=h a (by simp);simp only[Cn];omega
   exact this bs λx o=>hb x (by simp[o])
  simp only[Cn]at ht;omega
 | 0,L,b::bs,s::ss,hk,ht,hv,hn,hg,hb,hs,_,_=>by simp at hk
 | k+1,L,b::bs,s::ss,hk,ht,hv,hn,hg,hb,hs,hB,hS=>by
  have T:=hb b (by simp);have S:=hs s (by simp);have K:0<min b.am s.am/\min b.am s.am<=b.am:=by omega
  have J:0<min b.am s.am/\min b.am s.am<=s.am:=by omega
  obtain⟨f,r⟩:∃f:Nat,s.own=f:=⟨s.own.toNat,by omega⟩;obtain⟨d,t⟩:∃d:Nat,b.own=d:=⟨b.own.toNat,by omega⟩;have w:f<n:=by omega
  have C:d<n:=by omega
  have y:(if b.am-min b.am s.am=0 then bs else {b with am:=b.am-min b.am s.am} :: bs).length+(if s.am-min b.am s.am=0 then ss else {s with am:=s.am-min b.am s.am} :: ss).length<=k:=by
   simp only[List.length_cons]at hk
   by_cases hle:b.am<=s.am
   ·rw[if_pos (by omega)]
    split <;> (try simp only[List.length_cons]) <;> omega
   ·rw[if_neg (by omega),if_pos (by omega)]
    simp only[List.length_cons];omega
  have M:=hb.next K;have H:=hs.next J;generalize Z:min b.am s.am=m at *;have E:∀i,0<=amF i bs:=λi=>Kk λx o=>by have:=hb x (by simp[o]);omega
  have D:∀i,0<=amF i ss:=λi=>Kk λx o=>by have:=hs x (by simp[o]);omega
  have O:=hB d C;have N:=hS f w;have V:=E d;have U:=D f;simp only[amF,t,if_true]at O;simp only[amF,r,if_true]at N;have Y:p*m<=p*(b.am+amF d bs):=Int.mul_le_mul_of_nonneg_left (by omega) I;obtain⟨t1,t6⟩:=R4 (i:=f) (j:=d) (g:=gd) (n:=m) (p:=p) hv (by omega) (by omega) hg (by omega) I (by omega) (by omega);have z:=EU L f d gd p m;have B:∀i,amF i (if b.am-m=0 then bs else {b with am:=b.am-m} :: bs)=amF i (b::bs)-(if b.own=i then m else 0):=λi=>GH.1;have A:∀i,amF i (if s.am-m=0 then ss else {s with am:=s.am-m} :: ss)=amF i (s::ss)-(if s.own=i then m else 0):=λi=>GH.1;have G:Cn (if b.am-m=0 then bs else {b with am:=b.am-m} :: bs)=Cn (b::bs)-m:=(GH (i:=0)).2;have F:Cn (if s.am-m=0 then ss else {s with am:=s.am-m} :: ss)=Cn (s::ss)-m:=(GH (i:=0)).2
  have u:CD gd p (k+1) L (b::bs) (s::ss)=CD gd p k (BJ L f d gd p m) (if b.am-m=0 then bs else {b with am:=b.am-m} :: bs) (if s.am-m=0 then ss else {s with am:=s.am-m} :: ss):=by
   show CD gd p k (BJ L s.own.toNat b.own.toNat gd p (min b.am s.am)) _ _=_;rw[r,t,Z,BR,BR]
  have v:=WP I k (BJ L f d gd p m) _ _ y (by rw[G,F,ht]) (Et hv (by omega) (by omega) _ _ _) (z.2.trans hn) (by rw[z.1];exact hg) M H
   (λi hi=>by
    rw[B,t1,t];have Q:=hB i hi
    by_cases c:i=d
    ·subst c;rw[if_pos rfl,if_pos rfl,Int.mul_sub];omega
    ·rw[if_neg c,if_neg (by omega)];simpa using Q)
   (λi hi=>by
    rw[A,t6 i gd (by have:=hv.gd;omega),r];have Q:=hS i hi
    by_cases c:i=f
    ·subst c;rw[if_pos rfl,if_pos ⟨rfl,rfl⟩];omega
    ·rw[if_neg (by omega),if_neg (λh=>c h.1)];omega)
  rw[u];obtain⟨X,W⟩:=v;refine⟨λi hi=>?_,λi j hi P=>?_⟩
  ·rw[X i hi,B,t1,t]
   by_cases c:i=d
   ·subst c;rw[if_pos rfl,if_pos rfl,Int.mul_sub];omega
   ·rw[if_neg c,if_neg (by omega)];simp
  ·rw[W i j hi P,A,t6 i j P,r]
   by_cases e:j=gd
   ·subst e
    rw[if_pos rfl,if_pos rfl]
    by_cases c:i=f
    ·subst c;rw[if_pos ⟨rfl,rfl⟩,if_pos rfl];omega
    ·rw[if_neg (λh=>c h.1),if_neg (by omega)];omega
   ·rw[if_neg e,if_neg e,if_neg (λh=>e h.2)]
theorem JU {f:Ord->Int} (a:∀o,o.am=0->f o=0):∀(l:List Ord),Ah f (l.filter λo=>!decide (o.am=0))=Ah f l
 | []=>rfl
 | o::l=>by
  rw[List.filter_cons]
  by_cases c:o.am=0
  ·simp[c,Ah,JU a l,a o c]
  ·simp[c,Ah,JU a l]
theorem OX (l:List Ord) (i:Nat) (fs:List Fil):Ah (DB i) (l.map (Du fs))=Ah (DB i) l-GY l i fs:=by
 induction l with
 | nil=>rfl
 | cons o l ih=>
  have e:GY (o::l) i fs=(if o.own=i/\o.buys=true then o.pr*B1 fs o.id else 0)+GY l i fs:=rfl;rw[e];simp only[List.map_cons,Ah,ih]
  have h:DB i (Du fs o)=DB i o-(if o.own=i/\o.buys=true then o.pr*B1 fs o.id else 0):=by
   unfold DB Du;simp only
   split
   ·rw[Int.mul_sub]
   ·omega
  rw[h];omega
theorem ML (l:List Ord) (i:Nat) (fs:List Fil):Ah (Bz i) (l.map (Du fs))=Ah (Bz i) l-MY l i fs:=by
 induction l with
 | nil=>rfl
 | cons o l ih=>
  have e:MY (o::l) i fs=(if o.own=i/\o.buys=false then B1 fs o.id else 0)+MY l i fs:=rfl;rw[e];simp only[List.map_cons,Ah,ih]
  have h:Bz i (Du fs o)=Bz i o-(if o.own=i/\o.buys=false then B1 fs o.id else 0):=by
   unfold Bz Du;simp only
   split <;> omega
  rw[h];omega
theorem PA {S:Hs} (v:S.ok) (M:Snd S) {gd:Nat} (d:gd<S.G):Snd (CU S gd):=by
 have hg:=v.g;have J:=v.bk gd d;have C:=J.right;have s:=J.ids;have t:=JB C;obtain⟨hp,hp2⟩:=Lb J;have P:=Tg C;have z:=JJ (r:=(S.bk gd).l) J.len C
 -- the fills of the two sides
 obtain⟨a,I⟩:∃a,a=Ed (CT (CZ (S.bk gd).l true (AE (S.bk gd)).p)) (AE (S.bk gd)).n []:=⟨_,rfl⟩;obtain⟨c,H⟩:∃c,c=Ed (CT (CZ (S.bk gd).l false (AE (S.bk gd)).p)) (AE (S.bk gd)).n []:=⟨_,rfl⟩
 have m:(AE (S.bk gd)).fs=a++c:=by
  have:(AE (S.bk gd)).fs=DK (S.bk gd).l (AE (S.bk gd)).p (AE (S.bk gd)).n:=rfl;rw[this];unfold DK;rw[Sm,I,H]
 have X:∀f∈a,Ea (S.bk gd).l true (AE (S.bk gd)).p f:=by rw[I];exact NQ
 have K:∀f∈c,Ea (S.bk gd).l false (AE (S.bk gd)).p f:=by rw[H];exact NQ
 have O:(AE (S.bk gd)).p=(Cq (S.bk gd).l).1:=by
  show (Cq (Bj (S.bk gd).l)).1=_;rw[t]
 have j:(AE (S.bk gd)).n=(Cq (S.bk gd).l).2:=by
  show (Cq (Bj (S.bk gd).l)).2=_;rw[t]
 have T:∀b o,o∈CT (CZ (S.bk gd).l b (AE (S.bk gd)).p)->1<=o.am:=λb o u=>by
  have:=Am.1 (I5 u).2.1;omega
 have tB:Cn a=(AE (S.bk gd)).n:=by
  rw[I];unfold Ed;rw[(IS _ _ (by show 0<=(AE (S.bk gd)).n;rw[j];exact z.1) (T true)).2]
  have e:Ah amO (CT (CZ (S.bk gd).l true (AE (S.bk gd)).p))=Ah (DN (AE (S.bk gd)).p) (S.bk gd).l:=by
   rw[JT (Cj _)];unfold CZ;rw[t,Nw]
  rw[e];simp only[Cn];have:=P.1;rw[<-O,<-j]at this;have h0:=z.1;rw[<-j]at h0;omega
 have tS:Cn c=(AE (S.bk gd)).n:=by
  rw[H];unfold Ed;rw[(IS _ _ (by show 0<=(AE (S.bk gd)).n;rw[j];exact z.1) (T false)).2]
  have e:Ah amO (CT (CZ (S.bk gd).l false (AE (S.bk gd)).p))=Ah (Bt (AE (S.bk gd)).p) (S.bk gd).l:=by
   rw[JT (Cj _)];unfold CZ;rw[t,MA]
  rw[e];simp only[Cn];have:=P.2;rw[<-O,<-j]at this;have h0:=z.1;rw[<-j]at h0;omega
 have hL:=JM J;have F:=Ma v d;rw[m]at F;have k:=F0 v d;unfold CU I4 at k ⊢;rw[m]at k ⊢;generalize N:(AE (S.bk gd)).p=p at *
 have hl:(AE (S.bk gd)).B.l=((S.bk gd).l.map (Du (a++c))).filter λo=>!decide (o.am=0):=by
  rw[hL];unfold QX;rw[m]
 -- what is asked of the ledger
 have D:∀i,i<S.L.n->GY (S.bk gd).l i a<=S.L.f i 1:=λi hi=>by
  have U:=GE v M hi d;have h2:=Pi (i:=i) v d
  have h3:GY (S.bk gd).l i a<=Ah (DB i) (S.bk gd).l:=by
   have:=OX (S.bk gd).l i (a++c);rw[Oz,(Fi s i K).1]at this
   have nn:=Cg (f:=DB i) (l:=(S.bk gd).l.map (Du (a++c))) λo u=>by
    obtain⟨x,B,rfl⟩:=List.mem_map.1 u;have q:=Am.1 (C x B);have E:=Gd s C (p:=p) (n:=(AE (S.bk gd)).n) B
    have G:DK (S.bk gd).l p (AE (S.bk gd)).n=a++c:=by
     rw[<-m,<-N];rfl
    rw[G]at E;unfold DB Du;simp only
    split
    ·exact Int.mul_nonneg (by omega) (by omega)
    ·omega
   omega
  unfold CM at U;omega
 have Q:∀i,i<S.L.n->amF i c<=S.L.f i (6+gd):=λi hi=>by
  have U:=M.lock i gd hi (by omega);rw[if_pos d]at U;have h2:=SI (i:=i) v d
  have h3:amF i c<=Ah (Bz i) (S.bk gd).l:=by
   have:=ML (S.bk gd).l i (a++c);rw[Ox,(Fi s i K).2,Jt s i X]at this
   have nn:=Cg (f:=Bz i) (l:=(S.bk gd).l.map (Du (a++c))) λo u=>by
    obtain⟨x,B,rfl⟩:=List.mem_map.1 u;have q:=Am.1 (C x B);have E:=Gd s C (p:=p) (n:=(AE (S.bk gd)).n) B
    have G:DK (S.bk gd).l p (AE (S.bk gd)).n=a++c:=by
     rw[<-m,<-N];rfl
    rw[G]at E;unfold Bz Du;simp only
    split <;> omega
   omega
  unfold DV at U;omega
 obtain⟨b1,b2,b3,b4,b5,b6,b7⟩:=OC s C hp (n:=S.L.n) (v.own gd d) a ⟨S.L,[],[]⟩ X v.led rfl D
 have Y:(a++c).foldl (Cu p (S.bk gd).l) ⟨S.L,[],[]⟩=⟨(a.foldl (Cu p (S.bk gd).l) ⟨S.L,[],[]⟩).L,a,c⟩:=by
  rw[List.foldl_append,MH s c _ K];have e1:(a.foldl (Cu p (S.bk gd).l) ⟨S.L,[],[]⟩).bu=a:=by rw[b1];rfl
  have e2:(a.foldl (Cu p (S.bk gd).l) ⟨S.L,[],[]⟩).se = []:=b2;rw[e1,e2]
  rfl
 rw[Y]at k ⊢;simp only at k ⊢;generalize (a.foldl (Cu p (S.bk gd).l) ⟨S.L,[],[]⟩).L=L1 at *;have W:BH S.L.n a:=λf hf=>F f (by simp[hf]) f (by simp);have V:BH S.L.n c:=λf hf=>F f (by simp[hf]) f (by simp);have hg1:(gd:Int)<L1.goods:=by rw[b5];show (gd:Int)<S.L.goods;omega
 obtain⟨m1,m6⟩:=WP (gd:=gd) hp (a.length+c.length) L1 a c (Nat.le_refl _) (by rw[tB,tS]) b3 b4 hg1 W V
  (λi hi=>by
   rw[b6 i hi];have:=D i hi;show p*amF i a<=S.L.f i 1-_+_;omega)
  (λi hi=>by rw[b7 i (6+gd) (by omega)];exact Q i hi)
 refine M.change d k.2.1 k.2.2 (λg e=>J9 S _ e) (λg e=>rfl) (λi hi=>?_) (λi g hi Z=>?_) (λx B=>?_) (λA w h=>M.sel gd A w d h)
 ·rw[(Eg S i gd _).1,hl,JU (λo u=>by unfold DB;rw[u];simp),OX,Oz,(Fi s i K).1]
  show (CD gd p _ L1 a c).f i 1=_;rw[m1 i hi,b6 i hi];show S.L.f i 1-_+_-_=S.L.f i 1+_-(Ah (DB i) (S.bk gd).l+auW S i gd);omega
 ·rw[(Eg S i gd _).2,hl,JU (λo u=>by unfold Bz;rw[u];simp),ML,Ox,(Fi s i K).2,Jt s i X]
  show (CD gd p _ L1 a c).f i (6+g)=_;rw[m6 i g hi Z,b7 i (6+g) (by omega)]
  by_cases e:g=gd
  ·subst e
   rw[if_pos rfl,if_pos rfl];show S.L.f i (6+g)-_=S.L.f i (6+g)+_-(Ah (Bz i) (S.bk g).l+auK S i g);omega
  ·rw[if_neg e,if_neg e]
 ·have L:x∈(AE (S.bk gd)).B.l:=by
   have:((S.setBk gd (AE (S.bk gd)).B).setL (CD gd p (a.length+c.length) L1 a c)).bk gd=(AE (S.bk gd)).B:=by simp[Hs.setBk,Hs.setL]
   rw[this]at B;exact B
  rw[hL]at L;obtain⟨y,hy,rfl,_⟩:=Je J L;exact M.ids gd d y hy
theorem R6 {f g:Nat->Int}:∀(n:Nat),(∀i,i<n->f i<=g i)->AS f n<=AS g n
 | 0,_=>by simp[AS]
 | n+1,h=>by
  have b:=R6 n λi hi=>h i (by omega);have a:=h n (by omega);simp only[AS];omega
theorem Ky {f:Nat->Int} {c:Int}:∀(n:Nat),AS (λi=>f i*c) n=AS f n*c
 | 0=>by simp[AS]
 | n+1=>by simp only[AS,Ky n,Int.add_mul]
theorem M9 {f:Nat->Int} {k n:Nat} (h:∀i,i<n->0<=f i) (a:k<=n):AS f k<=AS f n:=by
 induction n with
 | zero=>
  have:k=0:=by omega
  subst this;omega
 | succ n ih=>
  rcases Nat.lt_or_ge k (n+1)with h1 | h1
  ·have:=ih (λi hi=>h i (by omega)) (by omega)
   have b:=h n (by omega);simp only[AS];omega
  ·have:k=n+1:=by omega
   subst this;omega
theorem TJ (g o:Nat->Int) {l:Int} (a:0<=l):∀k,0<=DE g o l k
 | 0=>a
 | k+1=>by
  have:=TJ g o a k;unfold DE
  split <;> omega
theorem Ud {g:Nat->Int} {m:Int} {n:Nat} (c:0<=m) (a:∀i,i<n->0<=g i):AS (Ce g m n) n<=m:=by
 have f:=Kx n a
 have d:0<=m-AS (base g m (AS g n)) n:=by
  rcases Int.lt_or_le 0 (AS g n)with hp | hp
  ·have b:AS (λi=>base g m (AS g n) i*AS g n) n<=AS (λi=>g i*m) n:=R6 n λi hi=>by
    unfold base;rw[if_pos hp,Int.tdiv_eq_ediv_of_nonneg (Int.mul_nonneg c (a i hi)),Int.mul_comm (g i) m];exact Int.ediv_mul_le _ (by omega)
   rw[Ky,Ky,Int.mul_comm (AS g n) m]at b;have:=Int.le_of_mul_le_mul_right b hp;omega
  ·have:AS (base g m (AS g n)) n=0:=by
    have e:AS (base g m (AS g n)) n=AS (λ_=>0) n:=DF n λi _=>by unfold base;rw[if_neg (by omega)]
    rw[e]
    have z:∀k,AS (λ_=>(0:Int)) k=0:=λk=>by
     induction k with
     | zero=>rfl
     | succ k ih=>simp only[AS,ih];rfl
    exact z n
   omega
 have key:∀k,AS (Ce g m n) k=AS (base g m (AS g n)) k+(m-AS (base g m (AS g n)) n)-DE g (base g m (AS g n)) (m-AS (base g m (AS g n)) n) k:=λk=>by
  induction k with
  | zero=>simp only[AS,DE];omega
  | succ k ih=>
   have e:Ce g m n k=if 0<DE g (base g m (AS g n)) (m-AS (base g m (AS g n)) n) k/\base g m (AS g n) k<g k then base g m (AS g n) k+1 else base g m (AS g n) k:=rfl
   simp only[AS,DE,ih,e]
   split <;> omega
 rw[key n];have:=TJ g (base g m (AS g n)) d n;omega
theorem W4 {A:Auc} (b:A.ok) (u:A.ste=2\/A.ste=1/\A.demand<=A.sup):(∀i:Nat,i<A.n->(BD A).1*(BD A).2 i<=Ae A i)/\AS (BD A).2 A.n<=A.sup:=by
 have v:=b.priceB;have p:=Jf b;have f:=b.sup;have l:∀i:Nat,i<A.n->B4 A i=(A.was i,A.now i):=λi hi=>by unfold B4;rw[if_neg (by omega),BR]
 have d:∀i:Nat,i<A.n->Ae A i=max (A.was i*A.last) (A.now i*A.price):=λi hi=>by unfold Ae;rw[l i hi]
 unfold BD
 split
 ·refine⟨λi hi=>?_,?_⟩
  ·have:=Dr b i
   simp only;omega
  ·have z:∀k,AS (λ_=>(0:Int)) k=0:=λk=>by
    induction k with
    | zero=>rfl
    | succ k ih=>simp only[AS,ih];rfl
   simp only[z];omega
 ·rename_i B
  have j:A.demand<=A.sup:=by omega
  split
  ·refine⟨λi hi=>?_,j⟩
   rw[d i hi];simp only;rw[Int.mul_comm];omega
  ·rename_i t
   have o:¬A.rnd=1:=λe=>t (.inl e);have c:1<A.rnd:=by have:=b.rnd;omega
   have a:A.last=A.price-A.stp:=by unfold Auc.last;rw[if_neg o]
   have q:=b.fall c;have w:=b.more c;have h:∀i,i<A.n->0<=A.was i-A.now i:=λi hi=>by have:=q i hi;omega
   unfold Auc.demand at j ⊢;refine⟨λi hi=>?_,?_⟩
   ·have y:=Q9 (g:=λk=>A.was k-A.now k) (m:=A.sup-AS A.now A.n) (n:=A.n) (by omega) h (by rw[J8];omega) hi
    rw[d i hi,<-a];simp only;have s:A.last*(A.now i+Ce (λk=>A.was k-A.now k) (A.sup-AS A.now A.n) A.n i)<=A.last*A.was i:=Int.mul_le_mul_of_nonneg_left (by omega) p.1;rw[Int.mul_comm A.last (A.was i)]at s;omega
   ·have x:=Ud (g:=λk=>A.was k-A.now k) (m:=A.sup-AS A.now A.n) (n:=A.n) (by omega) h
    have r:∀k,AS (λi=>A.now i+Ce (λk=>A.was k-A.now k) (A.sup-AS A.now A.n) A.n i) k=AS A.now k+AS (Ce (λk=>A.was k-A.now k) (A.sup-AS A.now A.n) A.n) k:=λk=>by
     induction k with
     | zero=>rfl
     | succ k ih=>simp only[AS,ih];omega
    rw[r];omega
theorem R8 {L:Led} (q:Inv L) {gd w:Nat} {p sup:Int} {held got:Nat->Int} (B:(gd:Int)<L.goods) (o:w<L.n) (y:0<=p) (a:∀i,i<L.n->0<=got i) (h:∀i,i<L.n->p*got i<=held i) (A:∀i,i<L.n->held i<=L.f i 1)
  (J:AS got L.n<=sup) (K:sup<=L.f w (6+gd)):∀k,k<=L.n->(Be gd w p held got (L,sup) k).2=sup-AS got k/\(∀i,(Be gd w p held got (L,sup) k).1.f i 1=L.f i 1-if i<k then held i else 0) /\
   ∀i j,j<4->(Be gd w p held got (L,sup) k).1.f i (6+j)=L.f i (6+j)-if i=w/\j=gd then AS got k else 0
 | 0,_=>by
  refine⟨by simp[Be,AS],λi=>by simp[Be],λi j _=>?_⟩;simp only[Be,AS]
  split <;> omega
 | k+1,hk=>by
  obtain⟨I,x,v⟩:=R8 q B o y a h A J K k (by omega);obtain⟨u,e,H⟩:=Gk q gd o p held got sup k (by omega);have d:Be gd w p held got (L,sup) (k+1)=Gj gd w p held got (Be gd w p held got (L,sup) k) k:=rfl;rw[d];generalize Be gd w p held got (L,sup) k=t at *;have Q:=a k (by omega);have P:=h k (by omega);have M:=A k (by omega);have r:=M9 (k:=k+1) a hk;have F:AS got (k+1)=AS got k+got k:=rfl;have E:t.1.f k 1=L.f k 1:=by rw[x,if_neg (by omega)];omega
  have O:=q.gd;have D:t.1.f w (6+gd)=L.f w (6+gd)-AS got k:=by rw[v w gd (by omega),if_pos ⟨rfl,rfl⟩]
  obtain⟨t1,t6⟩:=R4 (L:=t.1) (i:=w) (j:=k) (g:=gd) (n:=got k) (p:=p) u (by rw[e];exact o) (by rw[e];omega) (by rw[H];exact B) Q y (by rw[D];omega) (by rw[E];omega);have l:=EU t.1 w k gd p (got k);have f:=Et u (s:=w) (b:=k) (by rw[e];exact o) (by rw[e];omega) gd p (got k);have m:(BJ t.1 w k gd p (got k)).f k 1=L.f k 1-p*got k:=by rw[t1,if_pos rfl,E]
  have N:=f.held k (by rw[l.2,e];omega);have C:=MQ (L:=BJ t.1 w k gd p (got k)) (i:=k) (n:=p*got k-held k) f (by rw[l.2,e];omega) (by rw[m];omega) (by omega);unfold Gj;simp only;refine⟨by rw[I,F];omega,λi=>?_,λi j z=>?_⟩
  ·rw[C,m,t1]
   by_cases c:i=k
   ·subst c
    rw[if_pos ⟨rfl,rfl⟩,if_pos (by omega)];omega
   ·rw[if_neg (by omega),if_neg c,x]
    by_cases G:i<k
    ·rw[if_pos G,if_pos (by omega)]
    ·rw[if_neg G,if_neg (by omega)]
  ·rw[C,if_neg (by omega),t6 i j z,D,v i j z]
   by_cases c:i=w/\j=gd
   ·rw[if_pos c,if_pos c,c.1,c.2,F];omega
   ·rw[if_neg c,if_neg c,if_neg c]
theorem RG {L:Led} {N:Auc} (r:Inv L) (h:N.ok) (h0:N.ste=0) (U:N.n=L.n) (O:1<N.rnd) (d:∀i,i<N.n->N.was i=N.now i) {held:Nat->Int} (F:∀i,i<L.n->N.was i*N.last<=held i/\0<=held i/\held i<=L.f i 1) :
  ∀k,k<=L.n->(∃b:Nat->Int,(BT held (L,N) k).2 = {N with now:=b}/\∀i,i<N.n->0<=b i/\b i<=N.was i) /\
   (∀i,i<L.n->(BT held (L,N) k).1.f i 1=L.f i 1+if i<k then Ae (BT held (L,N) k).2 i-held i else 0)/\∀i c,c≠1->(BT held (L,N) k).1.f i c=L.f i c
 | 0,_=>by
  refine⟨⟨N.now,rfl,λi hi=>?_⟩,λi _=>by simp[BT],λi c _=>rfl⟩;have h1:=h.now i hi;have h2:=d i hi;omega
 | k+1,hk=>by
  obtain⟨⟨b,j,v⟩,i2,i3⟩:=RG r h h0 U O d F k (by omega);obtain⟨z,K,J,I,y,H⟩:=JC r h held k (by omega);have f:BT held (L,N) (k+1)=E9 held (BT held (L,N) k) k:=rfl;rw[f];generalize BT held (L,N) k=t at *;obtain⟨a,B⟩:=t;simp only at j i2 i3 z K J I y H;have u:k<N.n:=by omega
  have hBn:B.n=N.n:=by rw[j]
  have Z:B.price=N.price:=by rw[j];rfl
  have x:B.last=N.last:=by rw[j];rfl
  have w:B.was=N.was:=by rw[j]
  have q:(B4 B k).1=N.was k:=by unfold B4;rw[if_neg (by omega),BR,w]
  have T:=h.priceB
  have A:1<=N.price:=by
   have h1:=h.sta;have h2:=h.stp;have h3:1*1<=(N.rnd-1)*N.stp:=Int.mul_le_mul (by omega) (by omega) (by omega) (by omega);unfold Auc.price;omega
  have M:=h.was k u;have X:=F k (by omega);have f1:a.f k 1=L.f k 1:=by rw[i2 k (by omega),if_neg (by omega)];omega
  have f0:a.f k 0=L.f k 0:=i3 k 0 (by omega);have W:=r.held k (by omega)
  -- the bid
  obtain⟨m,D⟩:∃m,m=min (B4 B k).1 ((a.f k 0-a.f k 1+held k).tdiv B.price):=⟨_,rfl⟩;have o:0<=a.f k 0-a.f k 1+held k:=by omega
  have S:(a.f k 0-a.f k 1+held k).tdiv B.price=(a.f k 0-a.f k 1+held k)/B.price:=Int.tdiv_eq_ediv_of_nonneg o;have Q:0<=(a.f k 0-a.f k 1+held k)/B.price:=Int.ediv_nonneg o (by omega);have P:(a.f k 0-a.f k 1+held k)/B.price*B.price<=a.f k 0-a.f k 1+held k:=Int.ediv_mul_le _ (by omega);have g:0<=m/\m<=N.was k/\m<=(a.f k 0-a.f k 1+held k)/B.price:=by rw[D,q,S];omega
  have V:m*B.price<=a.f k 0-a.f k 1+held k:=by
   have:m*B.price<=(a.f k 0-a.f k 1+held k)/B.price*B.price:=Int.mul_le_mul_of_nonneg_right g.2.2 (by omega);omega
  have l:(DZ B k m).2=B.setNow k m:=PC (by rw[y,h0]) (by omega) ⟨g.1,by omega⟩ (by rw[q];omega);have p:Ae (B.setNow k m) k=max (N.was k*N.last) (m*B.price):=by rw[Jb (by omega),if_pos rfl,q,x]
  have C:0<=Ae (B.setNow k m) k:=by
   rw[p];have:0<=m*B.price:=Int.mul_nonneg g.1 (by omega);omega
  have E:=MQ (L:=a) (i:=k) (n:=Ae (B.setNow k m) k-held k) z (by omega) (by omega) (by rw[p];omega)
  have s:E9 held (a,B) k=(BN a k (Ae (B.setNow k m) k-held k),B.setNow k m):=by
   unfold E9;simp only;rw[<-D,l]
  rw[s];simp only;refine⟨⟨λi=>if i=k then m else b i,?_,λi hi=>?_⟩,λi hi=>?_,λi c Y=>?_⟩
  ·rw[j];rfl
  ·simp only
   split
   ·rename_i e;subst e;omega
   ·exact v i hi
  ·rw[E]
   by_cases c:i=k
   ·subst c;rw[if_pos ⟨rfl,rfl⟩,if_pos (by omega)];omega
   ·rw[if_neg (by omega),i2 i hi]
    have e:Ae (B.setNow k m) i=Ae B i:=by rw[Jb (by omega),if_neg (by omega)]
    rw[e]
    by_cases G:i<k
    ·rw[if_pos G,if_pos (by omega)]
    ·rw[if_neg G,if_neg (by omega)]
  ·rw[E,if_neg (by omega)];exact i3 i c Y
theorem Ul {S:Hs} (u:S.ok) (D:Snd S) {gd:Nat} (j:gd<S.G):Snd (CW S gd):=by
 have hg:=u.g;unfold CW;cases v:S.au gd with
 | none=>exact D
 | some q=>
  obtain⟨A,w⟩:=q;simp only;obtain⟨z,B,K,hw0,hwn⟩:=u.au gd A w j v;have r:=IJ z;have C:=D.sel gd A w j v;have eH:∀i:Nat,CM S i gd=Ah (DB i) (S.bk gd).l+Ae A i:=λi=>by unfold CM auW;rw[v]
  have eK:∀i:Nat,DV S i gd=Ah (Bz i) (S.bk gd).l+if w=i then A.sup else 0:=λi=>by unfold DV auK;rw[v]
  have k:∀i,i<S.L.n->Ae A i<=S.L.f i 1:=λi hi=>by
   have Y:=GE u D hi j;have h2:=Cg (f:=DB i) (l:=(S.bk gd).l) λx F=>Ga ((u.bk gd j).right x F);rw[eH]at Y;omega
  have t:∀i:Nat,0<=Ae A i:=λi=>(Dr z i).1;have wn:∀i:Nat,i<A.n->B4 A i=(A.was i,A.now i):=λi hi=>by unfold B4;rw[if_neg (by omega),BR]
  cases d:(AV A).1 with
  | false=>
   simp only[if_true];obtain⟨X,M,k2⟩:=JF B z.rnd d
   have E:(AV A).2.2 = {A with rnd:=A.rnd+1,was:=λi=>if i<A.n then A.now i else A.was i}:=by
    unfold AV at d ⊢;rw[if_neg (by simp[B])]at d ⊢
    split
    ·rename_i c;rw[if_pos c]at d;cases d
    ·rename_i c;rw[if_neg c]at d
     split
     ·rename_i c;rw[if_pos c]at d;cases d
     ·rfl
   have hNl:(AV A).2.2.last=A.price:=by
    have hr:=z.rnd;rw[E];unfold Auc.last Auc.price;simp only;rw[if_neg (by omega)];have:(A.rnd+1-1)*A.stp=(A.rnd-1)*A.stp+A.stp:=by rw[show A.rnd+1-1=(A.rnd-1)+1 by omega,Int.add_mul];omega
    omega
   have J:∀i,i<A.n->(AV A).2.2.was i=A.now i:=λi hi=>by rw[E];simp only;rw[if_pos hi]
   have hNn:∀i,(AV A).2.2.now i=A.now i:=λi=>by rw[E]
   have hNs:(AV A).2.2.sup=A.sup:=by rw[E]
   obtain⟨⟨b,hB,hbb⟩,r2,Q⟩:=RG (L:=S.L) (N:=(AV A).2.2) u.led r X (by rw[M,K]) k2 (λi hi=>by rw[M]at hi;rw[J i hi,hNn]) (held:=λi=>Ae A i)
    (λi hi=>by
     rw[J i (by omega),hNl];refine⟨?_,t i,k i hi⟩;unfold Ae;rw[wn i (by omega)];simp only;omega) S.L.n (Nat.le_refl _)
   obtain⟨Z,O,W,v4,v5,v6⟩:=JC u.led r (λi=>Ae A i) S.L.n (Nat.le_refl _);generalize BT (λi=>Ae A i) (S.L,(AV A).2.2) S.L.n=T at *;refine D.change j O W (λg e=>rfl) (λg e=>L5 S _ e) (λi hi=>?_) (λi g hi I=>?_) (λx F=>D.ids gd j x F) (λA' w' h=>?_)
   ·rw[(IQ S i gd _ _).1,eH]
    show T.1.f i 1=_;rw[r2 i hi,if_pos hi];omega
   ·rw[(IQ S i gd _ _).2,eK]
    show T.1.f i (6+g)=_;rw[Q i (6+g) (by omega)];have:T.2.sup=A.sup:=by rw[hB];exact hNs
    rw[this]
    split <;> omega
   ·have:((S.setAu gd (some (T.2,w))).setL T.1).au gd=some (T.2,w):=by simp[Hs.setAu,Hs.setL]
    rw[this]at h;cases h;obtain⟨a,rfl⟩:∃a:Nat,w=a:=⟨w.toNat,by omega⟩;have G:a<A.n:=by omega
    rw[wn a G]at C;simp only[Prod.mk.injEq]at C;have Y:=hbb a (by rw[M];exact G);have h2:=J a G;have hTn:T.2.n=A.n:=by rw[v6,M]
    unfold B4;rw[if_neg (by omega),BR];have e1:T.2.was a=(AV A).2.2.was a:=by rw[hB]
    have V:T.2.now a=b a:=by rw[hB]
    rw[e1,V]
    ext
    ·show (AV A).2.2.was a=0;omega
    ·show b a=0;omega
  | true=>
   simp only[Bool.true_eq_false,if_false];obtain⟨X,M,k2⟩:=Ii B d
   have E:∃s,(AV A).2.2 = {A with ste:=s}:=by
    unfold AV at d ⊢;rw[if_neg (by simp[B])]at d ⊢
    split
    ·exact⟨_,rfl⟩
    ·rename_i c;rw[if_neg c]at d
     split
     ·exact⟨_,rfl⟩
     ·rename_i c;rw[if_neg c]at d;cases d
   obtain⟨s,E⟩:=E;have y:∀i:Nat,Ae (AV A).2.2 i=Ae A i:=λi=>by rw[E];rfl
   have o:=L8 r X;obtain⟨P,m⟩:=W4 r X;rw[M]at o P m;rw[k2]at m;obtain⟨a,rfl⟩:∃a:Nat,w=a:=⟨w.toNat,by omega⟩;rw[BR]
   have H:A.sup<=S.L.f a (6+gd):=by
    have Y:=D.lock a gd (by omega) (by omega);rw[if_pos j,eK,if_pos rfl]at Y;have h2:=Cg (f:=Bz a) (l:=(S.bk gd).l) λx F=>I8 ((u.bk gd j).right x F);omega
   obtain⟨r1,r2,Q⟩:=R8 (L:=S.L) u.led (gd:=gd) (w:=a) (p:=(BD (AV A).2.2).1) (sup:=A.sup) (held:=λi=>Ae A i) (got:=(BD (AV A).2.2).2) (by omega) (by omega) o.1.1
    (λi hi=>(o.2 i (by omega)).1) (λi hi=>by rw[<-y];exact P i (by omega)) k (by rw[<-K];exact m) H S.L.n (Nat.le_refl _)
   obtain⟨Z,O,W⟩:=Gk u.led gd (w:=a) (by omega) (BD (AV A).2.2).1 (λi=>Ae A i) (BD (AV A).2.2).2 A.sup S.L.n (Nat.le_refl _);have hsum0:0<=AS (BD (AV A).2.2).2 S.L.n:=Kx _ λi hi=>(o.2 i (by omega)).1;rw[K]at m;generalize Be (gd:Int) a (BD (AV A).2.2).1 (λi=>Ae A i) (BD (AV A).2.2).2 (S.L,A.sup) S.L.n=T at *;generalize AS (BD (AV A).2.2).2 S.L.n=sg at *;have hll:=Z.lock a gd (by rw[O];omega) (by omega);have fw:=Q a gd (by omega);rw[if_pos ⟨rfl,rfl⟩]at fw;have hf:=VB (L:=T.1) (i:=a) (g:=gd) (n:=-T.2) Z (by rw[O];omega) (by rw[W];omega) (by rw[fw,r1];omega) (by omega);have U:=Cw T.1 a gd (-T.2);refine D.change j (U.2.trans O) (U.1.trans W) (λg e=>rfl) (λg e=>L5 S _ e) (λi hi=>?_) (λi g hi I=>?_) (λx F=>D.ids gd j x F) (λA' w' h=>?_)
   ·rw[(Og S i gd).1,eH]
    show (BY T.1 a gd (-T.2)).f i 1=_;rw[hf,if_neg (by omega),r2 i,if_pos hi];omega
   ·rw[(Og S i gd).2,eK]
    show (BY T.1 a gd (-T.2)).f i (6+g)=_;rw[hf,fw,r1]
    by_cases e:g=gd
    ·subst e
     rw[if_pos rfl]
     by_cases V:i=a
     ·subst V;rw[if_pos ⟨rfl,rfl⟩,if_pos rfl];omega
     ·rw[if_neg (λh=>V h.1),if_neg (by omega),Q i g I,if_neg (λh=>V h.1)];omega
    ·rw[if_neg (by omega),if_neg e,Q i g I,if_neg (λh=>e h.2)];omega
   ·have:((S.setAu gd none).setL (BY T.1 a gd (-T.2))).au gd=none:=by simp[Hs.setAu,Hs.setL]
    rw[this]at h;cases h
theorem J4 {S:Hs} (e:S.ok) (d:Snd S):∀k,k<=S.G->Snd (Bd S k)
 | 0,_=>d
 | k+1,hle=>by
  obtain⟨a,i,f,h⟩:=FW e k (by omega);have c:(Bd S k).G=S.G:=by unfold Hs.G;rw[f]
  obtain⟨l,j,g⟩:=F0 a (gd:=k) (by rw[c];omega);have b:(CU (Bd S k) k).G=S.G:=by unfold Hs.G;rw[g,f]
  exact Ul (IW a (by rw[c];omega)) (PA a (J4 e d k (by omega)) (by rw[c];omega)) (by rw[b];omega)
theorem XH {S:Hs} (b:S.ok) (a:Snd S):Snd (Da S).2.2:=by
 unfold Da;have c:=b.now
 split
 ·exact a
 ·have h0:Snd (S.setNow (S.now+1)):=a.plain rfl rfl rfl rfl (λ_ _=>rfl) λ_ _ _ _=>rfl
  exact J4 (S:=S.setNow (S.now+1)) (I6 b (by omega)) h0 S.G (Nat.le_refl _)
theorem cm {S:Hs} {who:Nat} {o:OpV} (b:S.ok) (a:Snd S) (c:who<S.L.n) (d:o.ok):Snd (DA S who o).S:=by
 unfold DA
 repeat' split
 ·exact XH b a
 ·exact eJ a
 ·exact Z1 a
 ·exact XJ b a
 ·exact YD b a
 ·exact Uy b a c d
 ·exact X9 b a c d
 ·exact Zd b a c d
 ·exact Vh b a c d
 ·exact Tr b a c d
 ·exact a
theorem Wj {S:Hs} (b:S.ok) (a:Snd S) (who stamp:Int) (op:ByteArray):Snd (doH S who stamp op).S:=by
 unfold doH
 split
 ·exact a
 ·split
  ·exact a
  ·split
   ·exact a
   ·refine Zz ?_
    unfold CX
    split
    ·exact cm b a (by omega) (LK op)
    ·exact a
theorem ed (c g:Int):Snd (Co c g):=by
 refine⟨λi _=>?_,λi g' _ _=>?_,λg' _ o h=>by simp[Co]at h,λg' A w _ h=>by simp[Co]at h⟩
 ·show (0:Int)=AS (CM (Co c g) i) _
  have z:∀k,AS (CM (Co c g) i) k=0:=λk=>by
   induction k with
   | zero=>rfl
   | succ k ih=>show AS (CM (Co c g) i) k+CM (Co c g) i k=0;rw[ih];rfl
  rw[z]
 ·show (0:Int)=_
  split
  ·simp[DV,auK,Co,Ah]
  ·rfl
theorem Xb {e n:Int} (d:0<=e/\e<=100) (c:0<=n/\n<=9007199254740992):((HD e n).size:Int)<=256:=by
 have b:=Cs (n:=e.toNat) (by omega);have a:=Cs (n:=n.toNat) (by omega);show ((Br e.toNat++Br n.toNat).toArray.size:Int)<=256;simp only[List.size_toArray,List.length_append];omega
section
variable {S:Hs} {who stamp:Int} {op:ByteArray}
theorem rE (d:S.ok) (a:(doH S who stamp op).e=0):∃i:Nat,who=i/\i<S.L.n/\1<=stamp/\stamp<=1099511627776/\S.L.f i 10<stamp/\(doH S who stamp op).t=HD (CX S i op).e (CX S i op).n /\
  (doH S who stamp op).S=(CX S i op).S.setL (((CX S i op).S.L.set i 10 stamp).setR i (HD (CX S i op).e (CX S i op).n))/\(doH S who stamp op).S.L.f i 10=stamp/\(doH S who stamp op).S.L.r i=HD (CX S i op).e (CX S i op).n:=by
 unfold doH at a ⊢
 split at a
 ·cases a
 ·rename_i e
  rw[if_neg e]
  split at a
  ·cases a
  ·rename_i f
   rw[if_neg f]
   split at a
   ·cases a
   ·rename_i c
    rw[if_neg c];obtain⟨i,rfl⟩:∃i:Nat,who=i:=⟨who.toNat,by omega⟩;rw[BR]at c ⊢;have hi:i<S.L.n:=by omega
    obtain⟨d1,d2,d3,d4,d5⟩:=NU d hi op
    have g:Cf S.L (CX S i op).S.L:=by
     unfold CX
     split
     ·exact Vj d
     ·exact Ac _
    have h:=Xb d4 d5
    have b:(EK (CX S i op).S.L i stamp (HD (CX S i op).e (CX S i op).n)).2=((CX S i op).S.L.set i 10 stamp).setR i (HD (CX S i op).e (CX S i op).n):=by
     unfold EK;rw[if_neg (by omega),if_neg (by rw[g.1];omega)]
    refine⟨i,rfl,hi,by omega,by omega,by omega,rfl,?_,?_,?_⟩
    ·simp only[HT,b]
    ·simp only[HT,b,Hs.setL,Led.setR,Led.set];simp
    ·simp only[HT,b,Hs.setL,Led.setR,Led.set];simp
theorem nD (a:(doH S who stamp op).e≠0):(doH S who stamp op).S=S/\(doH S who stamp op).t=⟨#[]⟩:=by
 unfold doH at a ⊢
 split
 ·exact⟨rfl,rfl⟩
 ·rename_i b
  rw[if_neg b]at a
  split
  ·exact⟨rfl,rfl⟩
  ·rename_i c
   rw[if_neg c]at a
   split
   ·exact⟨rfl,rfl⟩
   ·rename_i d
    rw[if_neg d]at a;exact absurd rfl a
end
section
variable {h g:PH} {R:RT}
structure Mz (G:PH) (c:Nat) (a:Ask):Prop where
 hc:G c=some (.cells a.a 27 (0,0))
theorem Mz.w {G:PH} {c:Nat} {a:Ask} {K:Value->Prop} (H:Mz G c a):A0 none (.pointer (some ⟨c,0,none⟩)) G K↔K (.int .i64 a.who):=A5 H.hc rfl
theorem Mz.s {G:PH} {c:Nat} {a:Ask} {K:Value->Prop} (H:Mz G c a):A0 none (.pointer (some ⟨c,1,none⟩)) G K↔K (.int .i64 a.stamp):=A5 H.hc rfl
theorem Mz.all {G:PH} {c:Nat} {a:Ask} {K:Value->Prop} (H:Mz G c a):A0 (some 10) (.pointer (some ⟨c,0,none⟩)) G K↔K a.v:=by
 rw[AI H.hc (off:=0) (n:=10) (by show 0+10<=10;omega)];rfl
end
def D3 (L M:Led):Prop:=M.goods=L.goods/\M.n=L.n/\∀(i j:Nat),L.goods<=(j:Int)->j<4->M.f i (2+j)=L.f i (2+j)
theorem Af (L:Led):D3 L L:=⟨rfl,rfl,λ_ _ _ _=>rfl⟩
theorem CL {A B C:Led} (h:D3 A B) (k:D3 B C):D3 A C:=⟨k.1.trans h.1,k.2.1.trans h.2.1,λi j a b=>(k.2.2 i j (by rw[h.1];exact a) b).trans (h.2.2 i j a b)⟩
theorem DC {L M:Led} (h:D3 L M) {k c:Nat} {v:Int} (d:∀j:Nat,L.goods<=(j:Int)->j<4->c≠2+j):D3 L (M.set k c v):=
 ⟨h.1,h.2.1,λi j a b=>by rw[GL (λe=>d j a b e.2.symm)];exact h.2.2 i j a b⟩
theorem Uf {L M:Led} (h:D3 L M) {k:Nat} {v:ByteArray}:D3 L (M.setR k v):=⟨h.1,h.2.1,h.2.2⟩
theorem LJ {L:Led} {g n:Int} (h:¬CR L g n≠0):∀j:Nat,L.goods<=(j:Int)->(2+g.toNat≠2+j):=λj a=>by
 have:=Cd (Decidable.not_not.1 h);omega
section
variable {L:Led} {i j:Nat} {g n p:Int}
theorem qo:D3 L (GW L i n).2:=by unfold GW;(repeat' split) <;> first | exact Af L | exact DC (Af L) (λ_ _ _=>by omega)
theorem mA:D3 L (EE L i n).2:=by unfold EE;(repeat' split) <;> first | exact Af L | exact DC (Af L) (λ_ _ _=>by omega)
theorem KY:D3 L (BN L i n):=by unfold BN IP IR;(repeat' split) <;> first | exact Af L | exact DC (Af L) (λ_ _ _=>by omega)
theorem dR:D3 L (DG L i g n).2:=by
 unfold DG
 split
 ·exact Af L
 ·rename_i h
  split
  ·exact Af L
  ·exact DC (Af L) λj a _=>LJ h j a
theorem fy:D3 L (DL L i g n).2:=by
 unfold DL
 split
 ·exact Af L
 ·rename_i h
  split
  ·exact Af L
  ·exact DC (Af L) λj a _=>LJ h j a
theorem fF:D3 L (CH L i g n).2:=by unfold CH;(repeat' split) <;> first | exact Af L | exact DC (Af L) (λ_ _ _=>by omega)
theorem RX:D3 L (BY L i g n):=by unfold BY CH ES;(repeat' split) <;> first | exact Af L | exact DC (Af L) (λ_ _ _=>by omega)
theorem mY:D3 L (GS L i j n).2:=by
 unfold GS GO
 (repeat' split) <;> first | exact Af L | exact DC (DC (DC (Af L) (λ_ _ _=>by omega)) (λ_ _ _=>by omega)) (λ_ _ _=>by omega)
theorem ad:D3 L (EG L i j g n).2:=by
 unfold EG
 split
 ·exact Af L
 ·rename_i h
  split
  ·exact Af L
  ·unfold D6
   exact DC (DC (DC (Af L) (λ_ _ _=>by omega)) (λj a _=>LJ h j a)) (λj a _=>LJ h j a)
theorem Vw:D3 L (BJ L i j g p n):=by
 unfold BJ
 repeat' split
 ·exact CL ad mY
 ·exact ad
 ·exact Af L
end
theorem WC (held:Nat->Int) (t:Led×Auc):∀k,D3 t.1 (BT held t k).1
 | 0=>Af _
 | k+1=>CL (WC held t k) KY
theorem W0 {gd:Int} {w:Nat} {p:Int} {held got:Nat->Int} {t:Led×Int}:∀k,D3 t.1 (Be gd w p held got t k).1
 | 0=>Af _
 | k+1=>by
  refine CL (W0 (gd:=gd) (w:=w) (p:=p) (held:=held) (got:=got) k) ?_;show D3 _ (BN (BJ (Be gd w p held got t k).1 w k gd p (got k)) k _);exact CL Vw KY
theorem TB {gd p:Int}:∀(k:Nat) (L:Led) (bu a:List Fil),D3 L (CD gd p k L bu a)
 | 0,L,bu,a=>by cases bu <;> cases a <;> exact Af L
 | k+1,L,[],a=>by rw[Ff];exact Af L
 | k+1,L,b::bs,[]=>by rw[HR];exact Af L
 | k+1,L,b::bs,s::ss=>by
  show D3 L (CD gd p k _ _ _);exact CL Vw (TB k _ _ _)
theorem qz (p:Int) (f:Fil) (t:Spl) (o:Ord):D3 t.L (inF p f t o).L:=by
 unfold inF
 repeat' split
 ·exact Af _
 ·exact KY
 ·exact Af _
theorem Zh (p:Int) (f:Fil):∀(was:List Ord) (t:Spl),D3 t.L (was.foldl (inF p f) t).L
 | [],t=>Af _
 | o::was,t=>CL (qz p f t o) (Zh p f was _)
theorem Wf (p:Int) (was:List Ord):∀(fs:List Fil) (t:Spl),D3 t.L (fs.foldl (Cu p was) t).L
 | [],t=>Af _
 | f::fs,t=>CL (Zh p f was t) (Wf p was fs _)
theorem bm (S:Hs) (gd:Nat):D3 S.L (CU S gd).L:=
 CL (Wf (AE (S.bk gd)).p (S.bk gd).l (AE (S.bk gd)).fs ⟨S.L,[],[]⟩) (TB _ _ _ _)
theorem ZK (S:Hs) (gd:Nat):D3 S.L (CW S gd).L:=by
 unfold CW;cases a:S.au gd with
 | none=>exact Af _
 | some q=>
  obtain⟨A,w⟩:=q;simp only
  split
  ·exact WC _ (S.L,(AV A).2.2) _
  ·exact CL (W0 (gd:=gd) (w:=w.toNat) (p:=(BD (AV A).2.2).1) (held:=λi:Nat=>Ae A i) (got:=(BD (AV A).2.2).2) (t:=(S.L,A.sup)) S.L.n) RX
theorem Q5 (S:Hs):∀k,D3 S.L (Bd S k).L
 | 0=>Af _
 | k+1=>CL (Q5 S k) (CL (bm _ _) (ZK _ _))
theorem dL (S:Hs):D3 S.L (Da S).2.2.L:=by
 unfold Da
 split
 ·exact Af _
 ·exact Q5 (S.setNow (S.now+1)) S.G
section
variable {S:Hs} {who:Nat} {o:OpV}
theorem pB:D3 S.L (DA S who o).S.L:=by
 unfold DA
 repeat' split
 ·exact dL S
 ·exact qo
 ·exact mA
 ·exact dR
 ·exact fy
 ·unfold Dq;(repeat' split) <;> first | exact Af _ | exact fF
 ·unfold FC
  split
  ·exact Af _
  ·split
   ·exact Af _
   ·simp only
    (repeat' split) <;> first | exact Af _ | exact KY
 ·unfold Hj;simp only;(repeat' split) <;> first | exact Af _ | exact CL KY RX
 ·unfold De;simp only;(repeat' split) <;> first | exact Af _ | exact CL KY RX
 ·unfold DO;simp only;(repeat' split) <;> first | exact Af _ | exact KY | exact RX
 ·exact Af _
theorem Yg {L M:Led} (h:Zer L) (a:D3 L M):Zer M:=λi j hi b c=>by
 rw[a.1]at b;rw[a.2.1]at hi;rw[a.2.2 i j b c];exact h i j hi b c
theorem lm {who stamp:Int} {op:ByteArray}:D3 S.L (doH S who stamp op).S.L:=by
 unfold doH
 split
 ·exact Af _
 ·split
  ·exact Af _
  ·split
   ·exact Af _
   ·have a:D3 S.L (CX S who.toNat op).S.L:=by
     unfold CX
     split
     ·exact pB
     ·exact Af _
    refine CL a ?_;show D3 _ (EK _ _ _ _).2;unfold EK
    (repeat' split) <;> first | exact Af _ | exact Uf (DC (Af _) λ_ _ _=>by omega)
end
def Qz (L:Led):Prop:=∀i,i<L.n->L.f i 10=0->L.r i=⟨#[]⟩
theorem bM {S:Hs} (b:S.ok) (h:Qz S.L) (who stamp:Int) (op:ByteArray):Qz (doH S who stamp op).S.L:=by
 by_cases f:(doH S who stamp op).e=0
 ·obtain⟨i,n,hi,t,s,r,q,k,p,o⟩:=rE b f
  have l:=(Ot b who stamp op).2.2;intro a g d;rw[l]at g
  by_cases e:a=i
  ·subst e;omega
  ·have j:Cf S.L (CX S i op).S.L:=by
    unfold CX
    split
    ·exact Vj b
    ·exact Ac _
   have c:(doH S who stamp op).S.L.f a 10=S.L.f a 10:=by
    rw[k];show (((CX S i op).S.L.set i 10 stamp).setR i _).f a 10=_;have:(((CX S i op).S.L.set i 10 stamp).setR i (HD (CX S i op).e (CX S i op).n)).f a 10=((CX S i op).S.L.set i 10 stamp).f a 10:=rfl;rw[this,GL (by omega),j.1]
   have m:(doH S who stamp op).S.L.r a=S.L.r a:=by
    rw[k];show (((CX S i op).S.L.set i 10 stamp).setR i _).r a=_;have:(((CX S i op).S.L.set i 10 stamp).setR i (HD (CX S i op).e (CX S i op).n)).r a=if a=i then HD (CX S i op).e (CX S i op).n else (CX S i op).S.L.r a:=rfl
    rw[this,if_neg e,j.2]
   rw[m];rw[c]at d;exact h a g d
 ·rw[(nD f).1];exact h
theorem Sl:∀(l:List Ask) {S:Hs},S.ok->Snd S->Zer S.L->Qz S.L->Snd (MC S l)/\Zer (MC S l).L/\Qz (MC S l).L
 | [],S,_,a,b,c=>⟨a,b,c⟩
 | a::l,S,hk,h1,h2,h3=>Sl l (Ot hk a.who a.stamp a.text).1 (Wj hk h1 a.who a.stamp a.text) (Yg h2 lm) (bM hk h3 a.who a.stamp a.text)
def GR (s:List UInt8):Nat->Nat->Rd (List Nat)
 | 0,at_=>.ok [] at_
 | k+1,at_=>match GR s k at_ with
  | .bad e=>.bad e
  | .ok l a=>match Ch s a with
   | .bad e=>.bad e
   | .ok n b=>.ok (l ++ [n]) b
theorem QP {s:List UInt8}:∀{k at_:Nat} {l:List Nat} {a:Nat},GR s k at_ = .ok l a->l.length=k
 | 0,at_,l,a,h=>by cases h;rfl
 | k+1,at_,l,a,h=>by
  unfold GR at h;cases c:GR s k at_ with
  | bad e=>rw[c]at h;cases h
  | ok l' a'=>
   rw[c]at h;simp only at h;cases d:Ch s a' with
   | bad e=>rw[d]at h;cases h
   | ok n b=>rw[d]at h;cases h;simp[QP c]
theorem Zs {s:List UInt8}:∀{k:Nat} {l:List Nat} {a:Nat},GR s k 0 = .ok l a->a<=s.length
 | 0,l,a,h=>by cases h;omega
 | k+1,l,a,h=>by
  unfold GR at h;cases d:GR s k 0 with
  | bad e=>rw[d]at h;cases h
  | ok l' a'=>
   rw[d]at h;simp only at h;cases c:Ch s a' with
   | bad e=>rw[c]at h;cases h
   | ok n b=>rw[c]at h;cases h;exact Un _ _ _ _ _ _ c
theorem V0 (s:ByteArray):Cv s=if 256<s.size then (op0,4)else match GR s.data.toList 5 0 with
  | .bad e=>(op0,e)
  | .ok l a=>if s.size<a+8 then (op0,10)else if a+8<s.size then (op0,12)else
   ({kind:=l.getD 0 0,good:=l.getD 1 0,am:=l.getD 2 0,side:=l.getD 3 0,id:=l.getD 4 0,price:=un8 (s.extract a (a+8)).data.toList},0):=by
 unfold Cv
 split
 ·rfl
 ·simp only[GR]
  cases h0:Ch s.data.toList 0 with
  | bad e=>rfl
  | ok k a1=>
   simp only;cases h:Ch s.data.toList a1 with
   | bad e=>rfl
   | ok g a2=>
    simp only;cases f:Ch s.data.toList a2 with
    | bad e=>rfl
    | ok m a3=>
     simp only;cases c:Ch s.data.toList a3 with
     | bad e=>rfl
     | ok d a4=>
      simp only;cases b:Ch s.data.toList a4 with
      | bad e=>rfl
      | ok i a5=>simp only;rfl
def N6 (l:List Nat):Array Value:=#[.int .i64 (l.getD 0 0),.int .i64 (l.getD 1 0),.int .i64 (l.getD 2 0),.int .i64 (l.getD 3 0),.int .i64 (l.getD 4 0)]
theorem Ze {l:List Nat} {n:Nat} (h:l.length<5):(N6 l).setIfInBounds l.length (.int .i64 n)=N6 (l ++ [n]):=by
 match l,h with
 | [],_=>rfl
 | [a],_=>rfl
 | [a,b],_=>rfl
 | [a,b,c],_=>rfl
 | [a,b,c,d],_=>rfl
theorem Yu {l:List UInt8} {i:Nat} {c:UInt8} (a:l[i]?=some c):un8 (l.drop i)=c.toNat+256*un8 (l.drop (i+1)):=by
 have:l.drop i=c::l.drop (i+1):=by
  obtain⟨d,b⟩:=Bc.1 a;rw[List.drop_eq_getElem_cons d,b]
 rw[this];rfl
theorem cE (a b c d e:Int) (p:Nat):Instr.fill (λi=>[(0,1),(1,1),(2,1),(3,1),(4,1),(5,1)][i]?) #[Value.int .i64 0,.int .i64 0,.int .i64 0,.int .i64 0,.int .i64 0,.float .f64 0] [(0,.int .i64 a),(1,.int .i64 b),(2,.int .i64 c),(3,.int .i64 d),(4,.int .i64 e),(5,.float .f64 p)] =
  some (OpV.a {kind:=a,good:=b,am:=c,side:=d,id:=e,price:=p}):=by kernel_rfl
section
variable {h g:PH} {R:RT} {s:ByteArray}
set_option maxRecDepth 10000 in
theorem ZZ (p:R (.ret (.tuple #[(Cv s).1.v,.int .i64 (Cv s).2])) h):A7 Tryz.prog 17 #[.string s] h R:=by
 refine A7.drop (oo ?_);unfold qd zq3 eXW ivW pnW;rw[V0]at p;have W:Instr.fill (λi=>[(0,1),(1,1),(2,1),(3,1),(4,1),(5,1)][i]?) #[Value.int .i64 0,.int .i64 0,.int .i64 0,.int .i64 0,.int .i64 0,.float .f64 0] []=some op0.a:=by rfl
 refine AX λc hc=>?_;have S:=AD h c (.cells op0.a 25 (0,0));have hs0:Sub h (ins h c (.cells op0.a 25 (0,0))):=AT _ hc;have e0:ins h c (.cells #[.int .i64 0,.int .i64 0,.int .i64 0,.int .i64 0,.int .i64 0,.float .f64 0] 25 (0,0))=ins h c (.cells op0.a 25 (0,0)):=rfl;rw[e0];simp only[Dp,At,AB,CF,D9];refine⟨λhlong=>?_,λV=>?_⟩
 ·rw[if_pos (by omega)]at p
  refine⟨_,W,?_⟩;refine AN (cs:=op0.a) S (by rfl) (by rfl) (by rfl) ?_;rw[An,AI S (off:=0) (n:=6) (by show 0+6<=6;omega)];exact⟨h,hs0,p⟩
 rw[if_neg (by omega)]at p;have hz:s.size<4611686018427387000:=by omega
 -- what ends the reading: op0 is rR
 have bad:∀{e:Int} {G:PH} {o:Obj},Sub h G->h c=none->R (.ret (.tuple #[op0.v,.int .i64 e])) h->∃g,Sub g (ins G c o)/\R (.ret (.tuple #[op0.v,.int .i64 e])) g:=λhs _ C=>⟨h,Sub.put hs hc,C⟩;refine AX λd hd=>?_;obtain⟨hd1,Q⟩:=JH hd;have st:∀l:List Nat,True:=λ_=>trivial
 -- u cells beside h
 have u:∀{x t:Array Value},Sub h (ins (ins h c (.cells x 25 (0,0))) d (.cells t 99 (0,0))):=λ{x t}=>Sub.put (Sub.put (Sub.refl h) hc) hd1;have z:∀{x t:Array Value},ins (ins h c (.cells x 25 (0,0))) d (.cells t 99 (0,0)) c=some (.cells x 25 (0,0)):=λ{x t}=>by rw[Aq _ _ Q.symm];exact AD _ _ _
 have gd:∀{x t:Array Value},ins (ins h c (.cells x 25 (0,0))) d (.cells t 99 (0,0)) d=some (.cells t 99 (0,0)):=AD _ _ _
 have U:∀{x t I:Array Value},ins (ins (ins h c (.cells x 25 (0,0))) d (.cells t 99 (0,0))) c (.cells I 25 (0,0))=ins (ins h c (.cells I 25 (0,0))) d (.cells t 99 (0,0)):=λ{x t I}=>by
  rw[TN _ _ _ Q,An]
 have e1:(#[.int .i64 0,.int .i64 0,.int .i64 0,.int .i64 0,.int .i64 0]:Array Value)=N6 []:=rfl;rw[e1]
 refine AL (λm J g'=>∃(i:Nat) (l:List Nat) (a:Nat),J=(.int .i64 0,.int .i64 a,.int .i64 i)/\m=5-i/\i<=5/\GR s.data.toList i 0 = .ok l a /\
   (∀e,GR s.data.toList i 0≠.bad e)/\g'=ins (ins h c (.cells op0.a 25 (0,0))) d (.cells (N6 l) 99 (0,0))) 5
  ⟨0,[],0,rfl,rfl,by omega,rfl,(λe h=>by cases h),rfl⟩ ?_
 rintro m J g' ⟨i,l,a,rfl,rfl,hi,hnum,_,rfl⟩;have O:=QP hnum;have y:=Zs hnum;rw[Array.length_toList]at y;have hale2:a<=s.size:=y
 by_cases hi5:i<5
 ·have q:GR s.data.toList (i+1) 0=match Ch s.data.toList a with | .bad e=>Rd.bad e | .ok n b=>Rd.ok (l ++ [n]) b:=by
   show (match GR s.data.toList i 0 with | .bad e=>Rd.bad e | .ok l a=>match Ch s.data.toList a with | .bad e=>Rd.bad e | .ok n b=>Rd.ok (l ++ [n]) b)=_;rw[hnum]
  have key:∀(A:V3->V3->PH->Prop) x0 (X:V5->PH->Prop),
    (∀n b,Ch s.data.toList a = .ok n b->A (.string s,ptr c,ptr d) (.int .i64 0,.int .i64 b,.int .i64 ((i:Int)+1)) (ins (ins h c (.cells op0.a 25 (0,0))) d (.cells (N6 (l ++ [n])) 99 (0,0)))) ->
    (∀e,Ch s.data.toList a = .bad e->X (.string s,ptr c,.int .i64 e,ptr d,.int .i64 a) (ins (ins h c (.cells op0.a 25 (0,0))) d (.cells (N6 l) 99 (0,0)))) ->
    UC (λc h'=>∃g,Sub g h'/\R (.pan c) g) x0 X (.string s,ptr c,ptr d) A (.int .i64 0,.int .i64 a,.int .i64 i) (ins (ins h c (.cells op0.a 25 (0,0))) d (.cells (N6 l) 99 (0,0))):=by
   intro A x0 X w hxr;unfold UC zq3 ivW;have D:(i:Int)<5:=by omega
   simp only[AC,D,B6,AB];refine nT ?_;refine dy hz (by omega) ?_;cases f:Ch s.data.toList a with
   | bad e=>
    have he:=WD _ _ _ _ _ f;have he0:¬e=0:=by omega
    simp only[AK.elim,Ek,Ej,Ei,BB,he0,BW,Bool.not_false,AB];refine nT ?_;refine⟨_,W,?_⟩;refine AN (cs:=op0.a) z (by rfl) (by rfl) (by rfl) ?_;rw[U];exact hxr e f
   | ok n b=>
    simp only[AK.elim,Ek,Ej,Ei,BB,B6,Bool.not_true,AB];refine nF ?_;rw[EX];refine⟨by omega,by omega,?_⟩;rw[show 0+(i:Int).toNat*1=i by omega,Aw gd (by show i<5;omega) rfl];rw[An,<-O,Ze (by omega)];simp only[AG];rw[w64 (by omega) (by omega),O];exact w n b f
  refine key _ _ _ (λn b f=>⟨rfl,5-(i+1),by omega,i+1,l ++ [n],b,rfl,rfl,by omega,by rw[q,f],(λe h=>by rw[q,f]at h;cases h),rfl⟩) λe f=>?_
  have P:GR s.data.toList 5 0 = .bad e:=by
   have up:∀k,GR s.data.toList (i+1+k) 0 = .bad e:=λk=>by
    induction k with
    | zero=>rw[Nat.add_zero,q,f]
    | succ k ih=>
     show (match GR s.data.toList (i+1+k) 0 with | .bad e=>Rd.bad e | .ok l a=>match Ch s.data.toList a with | .bad e=>Rd.bad e | .ok n b=>Rd.ok (l ++ [n]) b)=_;rw[ih]
   have:=up (5-(i+1))
   rwa [show i+1+(5-(i+1))=5 by omega]at this
  rw[P]at p;intro r C;simp only[Prod.mk.injEq]at C;obtain⟨r0,T,Y,r4,r5⟩:=C;simp only[T,Y];rw[AI z (off:=0) (n:=6) (by show 0+6<=6;omega)];exact⟨h,u,p⟩
 ·have e:i=5:=by omega
  subst e;rw[hnum]at p;unfold UC zq3 ivW;simp only[AC,AB];refine nF ?_;intro r C;simp only[Prod.mk.injEq]at C;obtain⟨r0,T,Y,r4,r5⟩:=C;simp only[r0,T,Y,r4,r5,Dp,Ao];simp only at p;rw[w64 (by omega) (by omega)];simp only[AC,AB,CF,D9];refine⟨λE=>?_,λE=>?_⟩
  ·rw[if_pos (by omega)]at p
   refine⟨_,W,?_⟩;refine AN (cs:=op0.a) z (by rfl) (by rfl) (by rfl) ?_;rw[U,AI z (off:=0) (n:=6) (by show 0+6<=6;omega)];exact⟨h,u,p⟩
  rw[if_neg (by omega)]at p;simp only[At,AB,CF,D9];refine⟨λB=>?_,λB=>?_⟩
  ·rw[if_pos (by omega)]at p
   refine⟨_,W,?_⟩;refine AN (cs:=op0.a) z (by rfl) (by rfl) (by rfl) ?_;rw[U,AI z (off:=0) (n:=6) (by show 0+6<=6;omega)];exact⟨h,u,p⟩
  rw[if_neg (by omega)]at p;have ha8:a+8=s.size:=by omega
  have hex:(s.extract a (a+8)).data.toList=s.data.toList.drop a:=by
   rw[ByteArray.data_extract,Array.toList_extract];have:s.data.toList.length=a+8:=by rw[Array.length_toList];exact ha8.symm
   rw[List.extract_eq_take_drop,List.take_of_length_le (by rw[List.length_drop];omega)]
  rw[hex]at p
  have hL8:(s.data.toList.drop a).length=8:=by
   rw[List.length_drop,Array.length_toList];show s.size-a=8;omega
  -- the eight letters,the last first
  refine AL (λm J g'=>∃k:Nat,J=(.int .u64 (un8 ((s.data.toList.drop a).drop (8-k))),.int .i64 (7-(k:Int)))/\m=8-k/\k<=8/\g'=ins (ins h c (.cells op0.a 25 (0,0))) d (.cells (N6 l) 99 (0,0))) 8
   ⟨0,by rw[List.drop_eq_nil_of_le (by omega)];rfl,rfl,by omega,rfl⟩ ?_
  rintro m J g' ⟨k,rfl,rfl,hk,rfl⟩
  by_cases hk8:k<8
  ·have key:∀(A:V4->V2->PH->Prop) x2,A (.string s,ptr c,ptr d,.int .i64 a) (.int .u64 (un8 ((s.data.toList.drop a).drop (8-(k+1)))),.int .i64 (7-((k+1:Nat):Int))) (ins (ins h c (.cells op0.a 25 (0,0))) d (.cells (N6 l) 99 (0,0))) ->
     PR (λc h'=>∃g,Sub g h'/\R (.pan c) g) x2 (.string s,ptr c,ptr d,.int .i64 a) A (.int .u64 (un8 ((s.data.toList.drop a).drop (8-k))),.int .i64 (7-(k:Int))) (ins (ins h c (.cells op0.a 25 (0,0))) d (.cells (N6 l) 99 (0,0))):=by
    intro A x2 w;unfold PR ivW;have hge:(0:Int)<=7-(k:Int):=by omega
    simp only[By,hge,B6,AB];refine nT ?_;obtain⟨H,F⟩:∃H,(s.data.toList.drop a)[7-k]?=some H:=⟨_,Bu (by omega)⟩;have hcl:H.toNat<256:=H.toNat_lt;have M:=Yu F;rw[show 7-k+1=8-k by omega]at M
    have D:un8 ((s.data.toList.drop a).drop (8-(k+1)))<18446744073709551616:=by
     have h1:=Nl ((s.data.toList.drop a).drop (8-(k+1)));have h2:((s.data.toList.drop a).drop (8-(k+1))).length<=8:=by rw[List.length_drop];omega
     have h3:256^((s.data.toList.drop a).drop (8-(k+1))).length<=256^8:=Nat.pow_le_pow_right (by omega) h2;have h4:(256:Nat)^8=18446744073709551616:=rfl;omega
    rw[show 8-(k+1)=7-k by omega]at D w;simp only[CG,AG];rw[F9 (by omega) (by omega),w64 (by omega) (by omega)];refine⟨s,_,_,H,rfl,rfl,by omega,?_,?_⟩
    ·rw[<-Array.getElem?_toList,show ((a:Int)+(7-(k:Int))).toNat=a+(7-k)by omega]
     rw[List.getElem?_drop]at F;exact F
    ·simp only[Ct,AG,Ao]
     rw[F9 (n:=(H.toNat:Int)) (by omega) (by omega),F9 (by omega) (by omega),w64 (by omega) (by omega)];rw[show ((un8 ((s.data.toList.drop a).drop (8-k)):Nat):Int)*256+(H.toNat:Int)=((un8 ((s.data.toList.drop a).drop (7-k)):Nat):Int)by rw[M];omega];rw[show (7:Int)-((k+1:Nat):Int)=7-(k:Int)-1 by omega]at w;exact w
   exact key _ _ ⟨rfl,8-(k+1),by omega,k+1,rfl,rfl,by omega,rfl⟩
  ·have e8:k=8:=by omega
   subst e8;unfold PR ivW;simp only[By,AB];refine⟨λe=>absurd e (by decide),λ_=>?_⟩;intro T N;simp only[Prod.mk.injEq]at N;obtain⟨q2,q4,Z⟩:=N;simp only[q2,q4,Z,EX];have L:∀{j:Nat} {v:Value},(N6 l)[j]?=some v->∀K,A0 none (.pointer (some ⟨d,j,none⟩)) (ins (ins h c (.cells op0.a 25 (0,0))) d (.cells (N6 l) 99 (0,0))) K↔K v:=λhv K=>A5 gd hv;have l0:=L (j:=0) (v:=.int .i64 (l.getD 0 0)) rfl;have l1:=L (j:=1) (v:=.int .i64 (l.getD 1 0)) rfl;have l2:=L (j:=2) (v:=.int .i64 (l.getD 2 0)) rfl;have l3:=L (j:=3) (v:=.int .i64 (l.getD 3 0)) rfl;have l4:=L (j:=4) (v:=.int .i64 (l.getD 4 0)) rfl;refine⟨by omega,by omega,(l0 _).2 ⟨by omega,by omega,(l1 _).2 ⟨by omega,by omega,(l2 _).2 ⟨by omega,by omega,(l3 _).2 ⟨by omega,by omega,(l4 _).2 ?_⟩⟩⟩⟩⟩;refine Vc ?_;refine⟨(l0 _).2 rfl,(l1 _).2 rfl,(l2 _).2 rfl,(l3 _).2 rfl,(l4 _).2 rfl,?_⟩;simp only[Nat.sub_self,List.drop_zero,BR];refine⟨OpV.a {kind:=l.getD 0 0,good:=l.getD 1 0,am:=l.getD 2 0,side:=l.getD 3 0,id:=l.getD 4 0,price:=un8 (s.data.toList.drop a)},cE _ _ _ _ _ _,?_⟩;refine AN (cs:=OpV.a {kind:=l.getD 0 0,good:=l.getD 1 0,am:=l.getD 2 0,side:=l.getD 3 0,id:=l.getD 4 0,price:=un8 (s.data.toList.drop a)}) z (by rfl) (by rfl) (by rfl) ?_;rw[U,AI z (off:=0) (n:=6) (by show 0+6<=6;omega)];exact⟨h,u,p⟩
end
structure BG (h:PH) (v:Value) (esz n:Nat) (cs:List Value):Prop where
 len:cs.length=n*esz
 one:∀x∈cs,x.oneCell'=true
 at_:(∃cap,v = .slice none n cap/\n=0)\/∃b off cap c e fr,v = .slice (some ⟨b,off,none⟩) n cap/\n<=cap/\h b=some (.cells c e fr)/\off+n*esz<=c.size/\(c.toList.drop off).take (n*esz)=cs
section
variable {h g:PH} {v:Value} {esz n:Nat} {cs:List Value} {e:TypeId}
theorem BG.sub (H:BG h v esz n cs) (d:Sub h g):BG g v esz n cs:=⟨H.len,H.one,by
 rcases H.at_ with a | ⟨b,off,cap,c,e,fr,a1,a2,a3,a4⟩
 ·exact .inl a
 ·exact .inr ⟨b,off,cap,c,e,fr,a1,a2,d _ _ a3,a4⟩⟩
theorem BG.lens (H:BG h v esz n cs) {K:Value->Prop}:Ap v K↔K (.int .i64 n):=by
 rcases H.at_ with⟨cap,rfl,_⟩ | ⟨b,off,cap,c,e,fr,rfl,_⟩ <;> exact BQ _ _ _
theorem BG.nil:BG h (.slice none 0 0) esz 0 []:=⟨by simp,λx a=>(by cases a),.inl ⟨0,rfl,rfl⟩⟩
theorem CC (H:OS e esz v n cs h) (j:∀x∈cs,x.oneCell'=true):BG h v esz n cs:=⟨H.len,j,by
 rcases H.buf with⟨rfl,h0,_⟩ | ⟨b,c,cap,rfl,i,f,a,d⟩
 ·subst h0;exact .inl ⟨0,rfl,rfl⟩
 ·exact .inr ⟨b,0,cap,c,e,_,rfl,a,i,by rw[Ad,f];exact Nat.mul_le_mul_right _ a,by rw[List.drop_zero];exact d⟩⟩
theorem Zr {h0:PH} (H:OB e esz h0 n cs h v) (a:∀x∈cs,x.oneCell'=true):BG h v esz n cs:=CC (AJ OS.mono (D0 (C:=λ_=>True) trivial H)) a
theorem BG.el (H:BG h v esz n cs) {i:Nat} (hi:i<n):∃b o,(∀K,AR esz v (.int .i64 i) K↔K (.pointer (some ⟨b,o,none⟩)))/\∀G,Sub h G->(∀j x,j<esz->cs[i*esz+j]?=some x->∀K,A0 none (.pointer (some ⟨b,o+j,none⟩)) G K↔K x) /\
  ∀j m,j+m<=esz->∀K,A0 (some m) (.pointer (some ⟨b,o+j,none⟩)) G K↔K (.agg ((cs.drop (i*esz+j)).take m).toArray):=by
 rcases H.at_ with⟨cap,rfl,h0⟩ | ⟨b,off,cap,c,e,fr,rfl,q,l,p,a⟩
 ·omega
 ·have s:i*esz+esz<=n*esz:=by
   have:(i+1)*esz<=n*esz:=Nat.mul_le_mul_right _ hi;rw[Nat.add_mul,Nat.one_mul]at this;exact this
  refine⟨b,off+i*esz,λK=>?_,λG k=>⟨λj x r f K=>?_,λj m r K=>?_⟩⟩
  ·rw[B9,show off+(i:Int).toNat*esz=off+i*esz by rw[BR]]
   exact⟨λd=>d.2.2,λd=>⟨by omega,by omega,d⟩⟩
  ·refine A5 (k _ _ l) ?_
   rw[<-a,List.getElem?_take,if_pos (by omega),List.getElem?_drop,Array.getElem?_toList]at f;rw[<-f];congr 1;omega
  ·rw[AI (k _ _ l) (by omega)]
   have t:c.extract (off+i*esz+j) (off+i*esz+j+m)=((cs.drop (i*esz+j)).take m).toArray:=by
    apply Array.toList_inj.1;rw[Array.toList_extract,List.extract_eq_take_drop,<-a];simp only;rw[List.drop_take,List.take_take,List.drop_drop,show min m (n*esz-(i*esz+j))=m by omega]
    congr 1
    ·omega
    ·congr 1;omega
   rw[t]
theorem BG.src (H:BG h v esz n cs) (K:Nat->List Value->Prop) (f:K n cs):I3 false esz v h K:=by
 rcases H.at_ with⟨cap,rfl,h0⟩ | ⟨b,off,cap,c,e,fr,rfl,i,j,d,a⟩
 ·subst h0
  have:cs = []:=List.length_eq_zero_iff.1 (by rw[H.len];simp);subst this;exact .inr (.inl ⟨rfl,cap,rfl,f⟩)
 ·refine .inr (.inr ⟨rfl,b,off,n,cap,c,e,fr,rfl,j,d,?_,?_⟩)
  ·rw[a];exact H.one
  ·rw[a];exact f
theorem WN {K:Value->PH->Prop} {bytes m:Nat} {h0 N:PH} {s x:Value} {l news:List Value} (d:OB e esz h0 n l N s) (j:(n+m)*bytes<=roomBytes) (r:BG h0 x esz m news)
  (S:∀i p,OB e esz h0 (n+m) (l++news) i p->K p i):Ab false e esz bytes s x N K:=by
 have A:∀b off l c,x = .slice (some ⟨b,off,none⟩) l c->∀g cap,s = .slice (some ⟨g,0,none⟩) n cap->b≠g:=λb off l' c f g cap C Z=>by
  subst Z
  rcases d.buf with⟨q,_⟩ | ⟨g',U,k,q,h2,i,_⟩
  ·rw[q]at C;cases C
  ·rw[q]at C;cases C
   rcases r.at_ with⟨B,a,_⟩ | ⟨b2,P,B,c2,e2,Y,a,_,w,_⟩
   ·rw[f]at a;cases a
   ·rw[f]at a;cases a;rw[i]at w;cases w
 rcases Nat.eq_zero_or_pos m with hm | hm
 ·subst hm
  have G:news = []:=List.length_eq_zero_iff.1 (by rw[r.len];simp);subst G;unfold Ab;refine (r.sub d.sub).src _ ?_;have t:∀i p,OB e esz h0 n l i p->K p i:=λi p H=>S i p (by simpa using H)
  rcases d.buf with⟨rfl,rfl,rfl⟩ | ⟨g,c,cap,rfl,X,u,L,I,E⟩
  ·exact .inl ⟨rfl,λ_=>t _ _ d,λW=>absurd W (by omega)⟩
  ·refine .inr (.inl ⟨g,n,cap,c,rfl,X,L,I,j,λb off l U f=>A b off l U f g cap rfl,λb k O M T Q=>?_⟩)
   have z:h0 b=none:=by
    rcases M with rfl | M
    ·exact u
    ·exact d.sub.fresh M
   have F:Sub h0 (Eh N g):=λy o D=>by
    unfold Eh;cases V:Nat.beq y g
    ·exact d.sub y o D
    ·rw[Nat.eq_of_beq_eq_true V,u]at D;cases D
   rw[E]at Q ⊢;simp only[List.append_nil,Nat.add_zero]at Q T ⊢;refine t _ _ ⟨Sub.put F z,d.len,.inr ⟨b,_,k,rfl,AD _ _ _,z,?_,T,?_⟩⟩
   ·simp only[List.size_toArray,List.length_append];omega
   ·simp only
    rw[<-d.len,List.take_left]
 ·exact Db d j hm r.len (λK' J=>(r.sub d.sub).src K' J) A S
end
abbrev rhA (gd now:Int) (Lv Bv Sv:Value):Array Value:=#[.int .i64 gd,.int .i64 now,Lv,Bv,Sv]
abbrev rhO (gd now:Int) (Lv Bv Sv:Value):Obj:=.cells (rhA gd now Lv Bv Sv) 52 (0,0)
theorem BL {v:Value} {e:TypeId} {esz n:Nat} {l:List Value} {h:PH} (H:OS e esz v n l h):v.oneCell'=true:=by
 obtain⟨p,cap,rfl⟩:=H.lens;rfl
section
variable {h g:PH} {R:RT} {C:PH->Prop}
theorem HY {K:Value->PH->Prop} {e:TypeId} {esz bytes n:Nat} {x:Value} {cs:List Value} (H:C g) (d:BG g x esz n cs) (a:n*bytes<=roomBytes) (f:∀g' s,(OS e esz s n cs•C) g'->K s g') :
  Ab false e esz bytes (.slice none 0 0) x g K:=by
 refine WN (n:=0) (l:=[]) (h0:=g) ⟨Sub.refl g,by simp,.inl ⟨rfl,rfl,rfl⟩⟩ (by simpa using a) d λi c b=>?_;rw[Ad,List.nil_append]at b;exact f i c (D0 H b)
theorem O9 {gd now:Int} {e f d:Value} {n z y:Nat} {O bc I:List Value} (hL:BG h e 7 n O) (hB:BG h f 2 z bc) (hS:BG h d 7 y I) (hn:n<=1000) (Z:z<=1000) (Y:y<=1000)
  (hR:∀g a b c,(OS 108 7 a n O•OS 110 2 b z bc•OS 115 7 c y I•Own h) g->R (.ret (.agg (rhA gd now a b c))) g) :
  A7 Tryz.prog 46 #[.agg (rhA gd now e f d)] h R:=by
 refine oI ?_;unfold qI Xw zq1 Yf Ye zq9;rw[show Value.cells (.agg (rhA gd now e f d))=rhA gd now e f d from rfl];refine AX λt1 h1=>?_;have H:(pt t1 (rhO gd now e f d)•Own h) (ins h t1 (rhO gd now e f d)):=Ar h1 (Sub.refl h);revert H;generalize ins h t1 (rhO gd now e f d)=g1;intro H;refine AX λt2 h2=>?_;have x:=Ar (o:=rhO 0 0 (.slice none 0 0) (.slice none 0 0) (.slice none 0 0)) h2 H;revert x;generalize ins g1 t2 (rhO 0 0 (.slice none 0 0) (.slice none 0 0) (.slice none 0 0))=g2;intro x;have N:g2 t1=some (rhO gd now e f d):=AM (AF (A8 _ _) x);simp only[AH,Ad];rw[A5 N (v:=.int .i64 gd) rfl,A5 N (v:=.int .i64 now) rfl];refine⟨rhA gd now (.slice none 0 0) (.slice none 0 0) (.slice none 0 0),by kernel_rfl,?_⟩;refine AX λt3 h3=>?_;refine AN (cs:=rhA gd now (.slice none 0 0) (.slice none 0 0) (.slice none 0 0)) (AD _ _ _) (by rfl) (by rfl) (by rfl) ?_;rw[An];have q:=Ar (o:=rhO gd now (.slice none 0 0) (.slice none 0 0) (.slice none 0 0)) h3 x;revert q;generalize ins g2 t3 (rhO gd now (.slice none 0 0) (.slice none 0 0) (.slice none 0 0))=g3;intro q;simp only[AH,Ad];have X:g3 t3=some (rhO gd now (.slice none 0 0) (.slice none 0 0) (.slice none 0 0)):=AM q;have F:g3 t1=some (rhO gd now e f d):=AM (AF (A8 _ _) (AF (A8 _ _) q));have T:Sub h g3:=AF Own.mono (AF (A8 _ _) (AF (A8 _ _) q));rw[A5 X (v:=.slice none 0 0) rfl,A5 F (v:=e) rfl];refine⟨by omega,by omega,rfl,?_⟩;refine HY q (hL.sub T) (by simp only[roomBytes];omega) λg4 a w=>?_
 have e4:∀A i j k Q:PH->Prop,A•i•j•k•Q=i•(A•j•k•Q):=λ_ _ _ _ _=>by ac_rfl
 have M:=BL (AJ OS.mono w);rw[e4]at w;rw[Aw (AM w) (by show 2<5;omega) M];have m:=Bb (p:=rhO gd now a (.slice none 0 0) (.slice none 0 0)) w;revert m;rw[show (rhA gd now (.slice none 0 0) (.slice none 0 0) (.slice none 0 0)).setIfInBounds 2 a=rhA gd now a (.slice none 0 0) (.slice none 0 0)from rfl];generalize ins g4 t3 (rhO gd now a (.slice none 0 0) (.slice none 0 0))=g5;intro m;have W:g5 t3=some (rhO gd now a (.slice none 0 0) (.slice none 0 0)):=AM m;have E:g5 t1=some (rhO gd now e f d):=AM (AF (A8 _ _) (AF (A8 _ _) (AF (A8 _ _) m)));have S:Sub h g5:=AF Own.mono (AF (A8 _ _) (AF (A8 _ _) (AF (A8 _ _) m)));rw[A5 W (v:=.slice none 0 0) rfl,A5 E (v:=f) rfl];refine⟨by omega,by omega,rfl,?_⟩;refine HY m (hB.sub S) (by simp only[roomBytes];omega) λg6 b u=>?_;have e6:∀A i L j k Q:PH->Prop,A•i•L•j•k•Q=i•(A•L•j•k•Q):=λ_ _ _ _ _ _=>by ac_rfl
 have K:=BL (AJ OS.mono u);rw[e6]at u;rw[Aw (AM u) (by show 3<5;omega) K];have l:=Bb (p:=rhO gd now a b (.slice none 0 0)) u;revert l;rw[show (rhA gd now a (.slice none 0 0) (.slice none 0 0)).setIfInBounds 3 b=rhA gd now a b (.slice none 0 0)from rfl];generalize ins g6 t3 (rhO gd now a b (.slice none 0 0))=g7;intro l;have V:g7 t3=some (rhO gd now a b (.slice none 0 0)):=AM l;have D:g7 t1=some (rhO gd now e f d):=AM (AF (A8 _ _) (AF (A8 _ _) (AF (A8 _ _) (AF (A8 _ _) l))));have P:Sub h g7:=AF Own.mono (AF (A8 _ _) (AF (A8 _ _) (AF (A8 _ _) (AF (A8 _ _) l))));rw[A5 V (v:=.slice none 0 0) rfl,A5 D (v:=d) rfl];refine⟨by omega,by omega,rfl,?_⟩;refine HY l (hS.sub P) (by simp only[roomBytes];omega) λg8 c t=>?_;have e8:∀A i B L j k Q:PH->Prop,A•i•B•L•j•k•Q=i•(j•(L•B•A•Q)•k):=λ_ _ _ _ _ _ _=>by ac_rfl
 have J:=BL (AJ OS.mono t);rw[e8]at t;rw[Aw (AM t) (by show 4<5;omega) J];have s:=Bb (p:=rhO gd now a b c) t;revert s;rw[show (rhA gd now a b (.slice none 0 0)).setIfInBounds 4 c=rhA gd now a b c from rfl];generalize ins g8 t3 (rhO gd now a b c)=g9;intro s;have U:g9 t3=some (rhO gd now a b c):=AM s;rw[AI U (off:=0) (n:=5) (by show 0+5<=5;omega),show (rhA gd now a b c).extract 0 (0+5)=rhA gd now a b c from rfl];have r:=AF (A8 _ _) s;refine AN (cs:=rhA gd now a b c) (AM r) (by rfl) (by rfl) (by simp[rhA,M,K,J];exact⟨rfl,rfl⟩) ?_;have G:=Bb (p:=rhO gd now a b c) r;rw[AI (AD _ _ _) (off:=0) (n:=5) (by show 0+5<=5;omega),show (rhA gd now a b c).extract 0 (0+5)=rhA gd now a b c from rfl];exact hR _ _ _ _ (AJ (A8 _ _) (AF (A8 _ _) G))
end
def BU (f:Nat->List Value) (n:Nat):List Value:=(List.range n).flatMap f
theorem Fa (f:Nat->List Value) (n:Nat):BU f (n+1)=BU f n++f n:=by
 unfold BU;rw[List.range_succ,List.flatMap_append];simp
theorem Fb {f:Nat->List Value} {k:Nat} (a:∀i,(f i).length=k):∀n,(BU f n).length=n*k
 | 0=>by simp[BU]
 | n+1=>by rw[Fa,List.length_append,Fb a n,a,Nat.add_mul,Nat.one_mul]
theorem C4 {f:Nat->List Value} {k:Nat} (a:∀i,(f i).length=k):∀n i j,i<n->j<k->(BU f n)[i*k+j]?=(f i)[j]?
 | 0,i,j,hi,_=>absurd hi (by omega)
 | n+1,i,j,hi,hj=>by
  rw[Fa];have b:=Fb a n
  rcases Nat.lt_or_ge i n with h | h
  ·have c:i*k+k<=n*k:=by
    have:(i+1)*k<=n*k:=Nat.mul_le_mul_right _ h;rw[Nat.add_mul,Nat.one_mul]at this;exact this
   rw[List.getElem?_append_left (by omega)];exact C4 a n i j h hj
  ·have:i=n:=by omega
   subst this;rw[List.getElem?_append_right (by omega),b]
   congr 1;omega
theorem MD {f:Nat->List Value} {k:Nat} (b:∀i,(f i).length=k) {n i:Nat} (hi:i<n):((BU f n).drop (i*k)).take k=f i:=by
 apply List.ext_getElem?;intro j;rw[List.getElem?_take]
 split
 ·rename_i a
  rw[List.getElem?_drop,C4 b n i j hi a]
 ·rename_i a
  rw[List.getElem?_eq_none (by rw[b];omega)]
theorem G7 {f g:Nat->List Value} {n:Nat} (h:∀i,i<n->f i=g i):BU f n=BU g n:=by
 unfold BU;rw[List.flatMap_def,List.flatMap_def]
 congr 1
 exact List.map_congr_left λi hi=>h i (List.mem_range.1 hi)
theorem QF {f:Nat->List Value} {k:Nat} (b:∀i,(f i).length=k) {n i j:Nat} {v:Value} (hi:i<n) (p:j<k):(BU f n).set (i*k+j) v=BU (λa=>if a=i then (f i).set j v else f a) n:=by
 have r:∀a,((λa=>if a=i then (f i).set j v else f a) a).length=k:=λa=>by
  show (if a=i then (f i).set j v else f a).length=k
  split
  ·rw[List.length_set,b]
  ·exact b a
 have o:0<k:=by omega
 apply List.ext_getElem?;intro m
 rcases Nat.lt_or_ge m (n*k)with hm | hm
 ·have c:m/k<n:=(Nat.div_lt_iff_lt_mul o).2 hm
  have q:m%k<k:=Nat.mod_lt _ o;have s:m/k*k+m%k=m:=by rw[Nat.mul_comm];exact Nat.div_add_mod m k
  have t:=C4 r n (m/k) (m%k) c q;have u:=C4 b n (m/k) (m%k) c q;rw[s]at u t;rw[t,List.getElem?_set,Fb b]
  by_cases e:i*k+j=m
  ·have d:m/k=i:=by rw[<-e,Nat.mul_comm,Nat.mul_add_div o,Nat.div_eq_of_lt p,Nat.add_zero]
   have l:m%k=j:=by rw[<-e,Nat.mul_comm,Nat.mul_add_mod,Nat.mod_eq_of_lt p]
   rw[if_pos e,if_pos (by omega),d,l];simp only[if_true];rw[List.getElem?_set_self (by rw[b];exact p)]
  ·rw[if_neg e,u]
   by_cases d:m/k=i
   ·have g:¬j=m%k:=λh=>e (by rw[h,<-d];exact s)
    simp only[d,if_true];rw[List.getElem?_set_ne g]
   ·simp only[d,if_false]
 ·rw[List.getElem?_eq_none (by rw[List.length_set,Fb b];exact hm),List.getElem?_eq_none (by rw[Fb r];exact hm)]
theorem QH {f:Nat->List Value} {n:Nat} (h:∀i,∀x∈f i,x.oneCell'=true):∀x∈BU f n,x.oneCell'=true:=by
 intro x a;obtain⟨i,_,hi⟩:=List.mem_flatMap.1 a;exact h i x hi
def Ay (L:Led) (i p:Nat):Int:=L.f i (if p=0 then 0 else p+1)
def clC (L:Led) (i:Nat):List Value:=[.int .i64 (Ay L i 0),.int .i64 (Ay L i 1),.int .i64 (Ay L i 2),.int .i64 (Ay L i 3),.int .i64 (Ay L i 4),.int .i64 (L.f i 10),.string (L.r i)]
def bkC (bs:Nat->Value) (S:Hs) (g:Nat):List Value:=[bs g,.int .i64 (S.bk g).next]
def saC (ss:Nat->Value) (S:Hs) (g:Nat):List Value:=match S.au g with
 | some (A,w)=>[.bool true,.int .i64 w,.int .i64 A.sup,.int .i64 A.sta,.int .i64 A.stp,.int .i64 A.ste,ss g]
 | none=>[.bool false,.int .i64 0,.int .i64 0,.int .i64 0,.int .i64 0,.int .i64 0,.slice none 0 0]
theorem Ft (L:Led) (i:Nat):(clC L i).length=7:=rfl
theorem Na (bs:Nat->Value) (S:Hs) (g:Nat):(bkC bs S g).length=2:=rfl
theorem Em (ss:Nat->Value) (S:Hs) (g:Nat):(saC ss S g).length=7:=by unfold saC;split <;> rfl
theorem Wo {L:Led} {i p:Nat} (a:p<5):(clC L i)[p]?=some (.int .i64 (Ay L i p)):=by
 match p,a with
 | 0,_=>rfl
 | 1,_=>rfl
 | 2,_=>rfl
 | 3,_=>rfl
 | 4,_=>rfl
def D5 (f:Nat->Int) (n:Nat):List Value:=(List.range n).map λi=>.int .i64 (f i)
def Dl (h:PH) (v:Value) (A:Auc):Prop:=∃(k:Nat) (a:Nat->Value),A.rnd=(k:Int)+1/\BG h v 1 (k+1) ((List.range (k+1)).map a)/\BG h (a k) 1 A.n (D5 A.now A.n)/\(0<k->BG h (a (k-1)) 1 A.n (D5 A.was A.n))
structure RHp (h:PH) (S:Hs) (Lv Bv Sv:Value) (bs ss:Nat->Value):Prop where
 L:BG h Lv 7 S.L.n (BU (clC S.L) S.L.n)
 B:BG h Bv 2 S.G (BU (bkC bs S) S.G)
 A:BG h Sv 7 S.G (BU (saC ss S) S.G)
 b:∀g,g<S.G->BG h (bs g) 6 (S.bk g).l.length (ordsC (S.bk g).l)
 a:∀g A w,g<S.G->S.au g=some (A,w)->Dl h (ss g) A
def RH (h:PH) (v:Value) (S:Hs):Prop:=∃b c a bs ss,v = .agg (rhA S.L.goods S.now b c a)/\RHp h S b c a bs ss
section
variable {h g:PH} {R:RT} {C:PH->Prop} {S:Hs} {Lv Bv Sv:Value} {bs ss:Nat->Value}
theorem Dl.sub {v:Value} {A:Auc} (H:Dl h v A) (a:Sub h g):Dl g v A:=by
 obtain⟨k,b,i,f,e,d⟩:=H;exact⟨k,b,i,f.sub a,e.sub a,λc=>(d c).sub a⟩
theorem RHp.sub (H:RHp h S Lv Bv Sv bs ss) (a:Sub h g):RHp g S Lv Bv Sv bs ss:=⟨H.L.sub a,H.B.sub a,H.A.sub a,λi hi=>(H.b i hi).sub a,λi A w hi b=>(H.a i A w hi b).sub a⟩
theorem RH.sub {v:Value} (H:RH h v S) (a:Sub h g):RH g v S:=by
 obtain⟨Lv,Bv,Sv,bs,ss,e,H⟩:=H;exact⟨Lv,Bv,Sv,bs,ss,e,H.sub a⟩
theorem BG.ptr1 {v:Value} {n:Nat} {cs:List Value} (H:BG h v 1 n cs) {i:Nat} (hi:i<n) {x:Value} (a:cs[i]?=some x):∃b o,(∀K,AR 1 v (.int .i64 i) K↔K (.pointer (some ⟨b,o,none⟩)))/\∀G,Sub h G->∀K,A0 none (.pointer (some ⟨b,o,none⟩)) G K↔K x:=by
 obtain⟨b,o,e,d⟩:=H.el hi;exact⟨b,o,e,λG c K=>(d G c).1 0 x (by omega) (by simpa using a) K⟩
end
end Go.Pw
