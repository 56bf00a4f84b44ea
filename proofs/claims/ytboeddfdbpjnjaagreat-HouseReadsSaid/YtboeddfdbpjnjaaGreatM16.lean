/- Texts of this claim, one behind the other. -/
import Derived.Test.YtboeddfdbpjnjaaGreatM10
import Derived.Test.YtboeddfdbpjnjaaGreatM14
import Derived.Test.YtboeddfdbpjnjaaGreatM15
import Derived.KernelRfl
set_option linter.unusedSimpArgs false
set_option linter.unusedVariables false
namespace Go.Pw
open Go Go.Proofs
theorem putO_ok {B:Bk} (hk:B.ok) (o:Ord):(putO B o).2.ok:=by
 unfold putO
 split
 ·exact hk
 ·rename_i h1
  split
  ·exact hk
  ·rename_i h2
   split
   ·exact hk
   ·rename_i h3
    have hr:rightO o=true:=by
     cases h:rightO o with
     | true=>rfl
     | false=>exact absurd (.inl h) h1
    have hnone:∀x∈B.l,x.id≠o.id:=idx_none (by
     cases h:idx B.l o.id with
     | none=>rfl
     | some k=>rw[h]at h2;exact absurd rfl h2)
    have hnx:=hk.nx
    refine⟨λx hx=>?_,?_,?_,λx hx=>?_,?_,?_⟩
    ·rcases List.mem_append.1 hx with hx | hx
     ·exact hk.right x hx
     ·simp at hx;subst hx;exact hr
    ·exact List.pairwise_append.2 ⟨hk.ids,by simp,λx hx y hy=>by simp at hy;subst hy;exact hnone x hx⟩
    ·exact List.pairwise_append.2 ⟨hk.pls,by simp,λx hx y hy=>by simp at hy;subst hy;exact (hk.pl x hx).2⟩
    ·rcases List.mem_append.1 hx with hx | hx
     ·have:=hk.pl x hx;simp only;omega
     ·simp at hx;subst hx;simp only;omega
    ·have:=hk.len;simp only[List.length_append,List.length_cons,List.length_nil];omega
    ·simp only;omega
theorem cancelO_ok {B:Bk} (hk:B.ok) (id own:Int):(cancelO B id own).2.ok:=by
 unfold cancelO
 split
 ·exact hk
 ·rename_i k hk1
  split
  ·exact hk
  ·split
   ·exact hk
   ·have hsub:(B.l.eraseIdx k).Sublist B.l:=List.eraseIdx_sublist _ _
    exact⟨λx hx=>hk.right x (hsub.subset hx),hk.ids.sublist hsub,hk.pls.sublist hsub,λx hx=>hk.pl x (hsub.subset hx),Nat.le_trans hsub.length_le hk.len,hk.nx⟩
theorem amendO_ok {B:Bk} (hk:B.ok) (id own p m:Int):(amendO B id own p m).2.ok:=by
 unfold amendO
 split
 ·exact hk
 ·rename_i k hidx
  split
  ·exact hk
  ·rename_i o ho
   split
   ·exact hk
   ·split
    ·exact hk
    ·rename_i hr0
     have hr:rightO {o with pr:=p,am:=m} = true:=by
      cases h:rightO {o with pr:=p,am:=m} with
      | true=>rfl
      | false=>exact absurd h hr0
     have hkl:k<B.l.length:=(List.getElem?_eq_some_iff.1 ho).1
     have hom:=List.mem_of_getElem? ho
     split
     ·refine⟨λx hx=>?_,?_,?_,λx hx=>?_,by simp only[List.length_set];exact hk.len,hk.nx⟩
      ·rcases List.mem_or_eq_of_mem_set hx with hx | rfl
       ·exact hk.right x hx
       ·exact hr
      ·rw[List.pairwise_iff_getElem]
       intro i j hi hj hij
       have e1:=List.pairwise_iff_getElem.1 hk.ids i j (by simpa using hi) (by simpa using hj) hij
       have ok:B.l[k]=o:=(List.getElem?_eq_some_iff.1 ho).2
       simp only[List.getElem_set]
       split
       ·rename_i e;subst e
        rw[ok]at e1
        split
        ·omega
        ·exact e1
       ·split
        ·rename_i e;subst e;rw[ok]at e1;exact e1
        ·exact e1
      ·rw[List.pairwise_iff_getElem]
       intro i j hi hj hij
       have e1:=List.pairwise_iff_getElem.1 hk.pls i j (by simpa using hi) (by simpa using hj) hij
       have ok:B.l[k]=o:=(List.getElem?_eq_some_iff.1 ho).2
       simp only[List.getElem_set]
       split
       ·rename_i e;subst e
        rw[ok]at e1
        split
        ·omega
        ·exact e1
       ·split
        ·rename_i e;subst e;rw[ok]at e1;exact e1
        ·exact e1
      ·rcases List.mem_or_eq_of_mem_set hx with hx | rfl
       ·exact hk.pl x hx
       ·exact hk.pl o hom
     ·split
      ·exact hk
      ·have hsub:(B.l.eraseIdx k).Sublist B.l:=List.eraseIdx_sublist _ _
       have hnx:=hk.nx
       have hlen:(B.l.eraseIdx k).length=B.l.length-1:=List.length_eraseIdx_of_lt hkl
       refine⟨λx hx=>?_,?_,?_,λx hx=>?_,?_,?_⟩
       ·rcases List.mem_append.1 hx with hx | hx
        ·exact hk.right x (hsub.subset hx)
        ·simp at hx;subst hx;exact hr
       ·refine List.pairwise_append.2 ⟨hk.ids.sublist hsub,by simp,λx hx y hy=>?_⟩
        simp at hy;subst hy
        simp only
        obtain⟨i,hik,hi⟩:=List.mem_eraseIdx_iff_getElem?.1 hx
        exact ids_at hk.ids hi ho hik
       ·exact List.pairwise_append.2 ⟨hk.pls.sublist hsub,by simp,λx hx y hy=>by simp at hy;subst hy;exact (hk.pl x (hsub.subset hx)).2⟩
       ·rcases List.mem_append.1 hx with hx | hx
        ·have:=hk.pl x (hsub.subset hx);simp only;omega
        ·simp at hx;subst hx;simp only;omega
       ·have:=hk.len;simp only[List.length_append,List.length_cons,List.length_nil,hlen];omega
       ·simp only;omega
theorem putO_own {B:Bk} {o:Ord} {n:Nat} (h:∀x∈B.l,x.own<n) (ho:o.own<n):∀x∈(putO B o).2.l,x.own<n:=by
 unfold putO
 repeat' split
 ·exact h
 ·exact h
 ·exact h
 ·intro x hx
  rcases List.mem_append.1 hx with hx | hx
  ·exact h x hx
  ·simp at hx;subst hx;exact ho
theorem cancelO_own {B:Bk} {id own:Int} {n:Nat} (h:∀x∈B.l,x.own<n):∀x∈(cancelO B id own).2.l,x.own<n:=by
 unfold cancelO
 repeat' split
 all_goals first | exact h | exact λx hx=>h x ((List.eraseIdx_sublist _ _).subset hx)
theorem amendO_own {B:Bk} {id own p m:Int} {n:Nat} (h:∀x∈B.l,x.own<n):∀x∈(amendO B id own p m).2.l,x.own<n:=by
 unfold amendO
 split
 ·exact h
 ·rename_i k hidx
  split
  ·exact h
  ·rename_i o ho
   have hom:=List.mem_of_getElem? ho
   repeat' split
   all_goals first | exact h | skip
   ·intro x hx
    rcases List.mem_or_eq_of_mem_set hx with hx | rfl
    ·exact h x hx
    ·exact h o hom
   ·intro x hx
    rcases List.mem_append.1 hx with hx | hx
    ·exact h x ((List.eraseIdx_sublist _ _).subset hx)
    ·simp at hx;subst hx;exact h o hom
theorem setL_ok {S:Hs} (hk:S.ok) {L:Led} (hL:Inv L) (hg:L.goods=S.L.goods) (hn:L.n=S.L.n):(S.setL L).ok:=by
 have eG:(S.setL L).G=S.G:=by unfold Hs.G Hs.setL;simp only;rw[hg]
 exact⟨hL,by show 1<=L.n;rw[hn];exact hk.n1,λi hi=>hk.bk i (by rw[eG]at hi;exact hi),λi hi o ho=>by show o.own<L.n;rw[hn];exact hk.own i (by rw[eG]at hi;exact hi) o ho,
  λi A w hi ha=>by show A.ok/\A.ste=0/\A.n=L.n/\0<=w/\w<L.n;rw[hn];exact hk.au i A w (by rw[eG]at hi;exact hi) ha,hk.now⟩
theorem setBk_ok {S:Hs} (hk:S.ok) {i:Nat} {B:Bk} (hB:B.ok) (ho:∀o∈B.l,o.own<S.L.n):(S.setBk i B).ok:=by
 refine⟨hk.led,hk.n1,λk hi=>?_,λk hi o h=>?_,hk.au,hk.now⟩
 ·show (if k=i then B else S.bk k).ok
  split
  ·exact hB
  ·exact hk.bk k hi
 ·have h2:o∈(if k=i then B else S.bk k).l:=h
  split at h2
  ·exact ho o h2
  ·exact hk.own k hi o h2
theorem setAu_ok {S:Hs} (hk:S.ok) {i:Nat} {A:Auc} {w:Int} (h:A.ok/\A.ste=0/\A.n=S.L.n/\0<=w/\w<S.L.n):(S.setAu i (some (A,w))).ok:=by
 refine⟨hk.led,hk.n1,hk.bk,hk.own,λk A' w' hi ha=>?_,hk.now⟩
 have ha2:(if k=i then some (A,w)else S.au k)=some (A',w'):=ha
 split at ha2
 ·cases ha2;exact h
 ·exact hk.au k A' w' hi ha2
section
variable {S:Hs} {who:Nat} {o:OpV}
theorem putH_ok (hk:S.ok) (hw:who<S.L.n) (ho:o.ok):(putH S who o).2.ok:=by
 unfold putH
 simp only
 split
 ·exact hk
 ·rename_i ht
  have htm:=termsH_ok (S:=S) (who:=who) (o:=o) (by simpa using ht)
  have hg:=hk.g
  have hgd:=ho.good
  split
  ·exact hk
  ·split
   ·exact hk
   ·have h1:=holdH_gn S.L who (coverC (decide (o.side=0)) (termsH S who o).p o.am)
    have h2:=lockH_gn (holdH S.L who (coverC (decide (o.side=0)) (termsH S who o).p o.am)) who o.good (coverG (decide (o.side=0)) (termsH S who o).p o.am)
    have hB:=putO_ok (hk.bk o.good.toNat (by omega)) (ordOfOp (termsH S who o) who o)
    have hO:=putO_own (o:=ordOfOp (termsH S who o) who o) (hk.own o.good.toNat (by omega)) (by show (who:Int)<S.L.n;omega)
    exact setL_ok (setBk_ok hk hB hO) (inv_lockH (inv_holdH hk.led hw _) (by rw[h1.2];exact hw) _ _) (h2.1.trans h1.1) (h2.2.trans h1.2)
theorem amendH_ok (hk:S.ok) (hw:who<S.L.n) (ho:o.ok):(amendH S who o).2.ok:=by
 unfold amendH
 simp only
 split
 ·exact hk
 ·rename_i ht
  have htm:=termsH_ok (S:=S) (who:=who) (o:=o) (by simpa using ht)
  have hg:=hk.g
  have hgd:=ho.good
  split
  ·exact hk
  ·split
   ·exact hk
   ·split
    ·exact hk
    ·refine setL_ok (setBk_ok hk (amendO_ok (hk.bk o.good.toNat (by omega)) _ _ _ _) (amendO_own (hk.own o.good.toNat (by omega)))) (inv_lockH (inv_holdH hk.led hw _) (by rw[(holdH_gn _ _ _).2];exact hw) _ _) ((lockH_gn _ _ _ _).1.trans (holdH_gn _ _ _).1) ((lockH_gn _ _ _ _).2.trans (holdH_gn _ _ _).2)
theorem cancelH_ok (hk:S.ok) (hw:who<S.L.n) (ho:o.ok):(cancelH S who o).2.ok:=by
 unfold cancelH
 simp only
 split
 ·exact hk
 ·have hg:=hk.g
  have hgd:=ho.good
  split
  ·exact hk
  ·have hb:=setBk_ok (i:=o.good.toNat) hk (cancelO_ok (hk.bk o.good.toNat (by omega)) (o.id*16+who) who) (cancelO_own (hk.own o.good.toNat (by omega)))
   split
   ·exact setL_ok hb (inv_holdH hk.led hw _) (holdH_gn _ _ _).1 (holdH_gn _ _ _).2
   ·exact setL_ok hb (inv_lockH hk.led hw _ _) (lockH_gn _ _ _ _).1 (lockH_gn _ _ _ _).2
theorem wantH_ok (hk:S.ok) (hw:who<S.L.n) (ho:o.ok):(wantH S who o).2.ok:=by
 unfold wantH
 split
 ·exact hk
 ·have hg:=hk.g
  have hgd:=ho.good
  split
  ·exact hk
  ·rename_i A w hau
   obtain⟨a1,a2,a3,a4,a5⟩:=hk.au o.good.toNat A w (by omega) hau
   simp only
   split
   ·exact hk
   ·split
    ·exact hk
    ·split
     ·exact hk
     ·have hb:=bidA_keep A who o.am
      exact setL_ok (setAu_ok hk ⟨bidA_ok a1 _ _,by rw[hb.1,a2],by rw[hb.2.2.1,a3],a4,a5⟩) (inv_holdH hk.led hw _) (holdH_gn _ _ _).1 (holdH_gn _ _ _).2
theorem offerH_ok (hk:S.ok) (hw:who<S.L.n) (ho:o.ok):(offerH S who o).2.ok:=by
 unfold offerH
 split
 ·exact hk
 ·split
  ·exact hk
  ·split
   ·exact hk
   ·rename_i hb
    have hb2:=Decidable.not_not.1 hb
    split
    ·exact hk
    ·split
     ·exact hk
     ·exact setL_ok (setAu_ok hk ⟨newAuc_ok hb2,rfl,by simp[newAuc],by omega,by omega⟩) (inv_lock hk.led hw) (lockL_gn _ _ _ _).1 (lockL_gn _ _ _ _).2
theorem actH_ok (hk:S.ok) (hw:who<S.L.n) (ho:o.ok):(actH S who o).S.ok:=by
 unfold actH
 repeat' split
 ·exact (tickH_ok hk).1
 ·exact setL_ok hk (inv_pay hk.led hw) (payL_gn _ _ _).1 (payL_gn _ _ _).2
 ·exact setL_ok hk (inv_take hk.led hw) (takeL_gn _ _ _).1 (takeL_gn _ _ _).2
 ·exact setL_ok hk (inv_store hk.led hw) (storeL_gn _ _ _ _).1 (storeL_gn _ _ _ _).2
 ·exact setL_ok hk (inv_fetch hk.led hw) (fetchL_gn _ _ _ _).1 (fetchL_gn _ _ _ _).2
 ·exact offerH_ok hk hw ho
 ·exact wantH_ok hk hw ho
 ·exact putH_ok hk hw ho
 ·exact amendH_ok hk hw ho
 ·exact cancelH_ok hk hw ho
 ·exact hk
theorem actH_gn (hk:S.ok):(actH S who o).S.L.goods=S.L.goods/\(actH S who o).S.L.n=S.L.n:=by
 unfold actH
 repeat' split
 ·exact⟨(tickH_ok hk).2.2.1,(tickH_ok hk).2.1⟩
 ·exact payL_gn _ _ _
 ·exact takeL_gn _ _ _
 ·exact storeL_gn _ _ _ _
 ·exact fetchL_gn _ _ _ _
 ·exact offerH_gn _ _ _
 ·exact wantH_gn _ _ _
 ·exact putH_gn _ _ _
 ·exact amendH_gn _ _ _
 ·exact cancelH_gn _ _ _
 ·exact⟨rfl,rfl⟩
theorem lockL_e (L:Led) (i:Nat) (g n:Int):(lockL L i g n).1=0\/(lockL L i g n).1=1\/(lockL L i g n).1=61:=by unfold lockL;(repeat' split) <;> simp
theorem putO_e (B:Bk) (o:Ord):0<=(putO B o).1/\(putO B o).1<=100:=by unfold putO;(repeat' split) <;> simp
theorem amendO_e (B:Bk) (a b c d:Int):0<=(amendO B a b c d).1/\(amendO B a b c d).1<=100:=by unfold amendO;(repeat' split) <;> simp
theorem termsH_e (S:Hs) (who:Nat) (o:OpV):0<=(termsH S who o).e/\(termsH S who o).e<=100:=by
 have:=ticksO_err o.price
 unfold termsH
 split
 ·simp
 ·simp only;omega
theorem actH_e (hk:S.ok):(0<=(actH S who o).e/\(actH S who o).e<=100)/\(0<=(actH S who o).n/\(actH S who o).n<=9007199254740992):=by
 have ht:=tickH_ok hk
 have h1:=ticksO_err o.price
 have h2:=termsH_e S who o
 have h3:=lockL_e S.L who o.good o.am
 unfold actH
 repeat' split
 ·simp only;omega
 ·unfold payL;(repeat' split) <;> simp
 ·unfold takeL;(repeat' split) <;> simp
 ·unfold storeL;(repeat' split) <;> simp
 ·unfold fetchL;(repeat' split) <;> simp
 ·unfold offerH;(repeat' split) <;> simp only <;> omega
 ·unfold wantH;simp only;(repeat' split) <;> first | (simp;done) | (simp only;(repeat' split) <;> simp)
 ·unfold putH
  simp only
  split
  ·simp only;omega
  ·split
   ·unfold coverE at *;split <;> simp
   ·split
    ·have:=putO_e (S.bk o.good.toNat) (ordOfOp (termsH S who o) who o);simp only;omega
    ·simp
 ·unfold amendH
  simp only
  split
  ·simp only;omega
  ·split
   ·simp
   ·split
    ·simp
    ·split
     ·refine⟨?_,by simp⟩;exact amendO_e _ _ _ _ _
     ·simp
 ·unfold cancelH;simp only;(repeat' split) <;> simp
 ·simp
end
end Go.Pw
set_option linter.unusedSimpArgs false
set_option linter.unusedVariables false
namespace Go.Pw
open Go Go.Proofs
structure Dn where
 t:ByteArray
 e:Int
 S:Hs
def repB (e n:Int):ByteArray:=⟨(encN e.toNat++encN n.toNat).toArray⟩
def didH (S:Hs) (who:Nat) (op:ByteArray):Did:=if (ofOpO op).2=0 then actH S who (ofOpO op).1 else ⟨0,90,S⟩
def markH (d:Did) (who:Nat) (stamp:Int):Hs:=d.S.setL (markL d.S.L who stamp (repB d.e d.n)).2
def doH (S:Hs) (who stamp:Int) (op:ByteArray):Dn:=
 if ¬(0<=who/\who<S.L.n)then ⟨⟨#[]⟩,60,S⟩else
 if stamp<1\/1099511627776<stamp then ⟨⟨#[]⟩,1,S⟩else
 if stamp<=S.L.f who.toNat 10 then ⟨⟨#[]⟩,91,S⟩else
 ⟨repB (didH S who.toNat op).e (didH S who.toNat op).n,0,markH (didH S who.toNat op) who.toNat stamp⟩
theorem markL_gn (L:Led) (i:Nat) (s:Int) (t:ByteArray):(markL L i s t).2.goods=L.goods/\(markL L i s t).2.n=L.n:=by unfold markL;(repeat' split) <;> exact⟨rfl,rfl⟩
section
variable {h g:PH} {R:AEnd->PH->Prop} {x:Nat} {nm:Nm} {S:Hs} {C:PH->Prop} {who:Nat} {o:OpV}
theorem h_kind {f:Nat} (hf:actF o.kind=some f) (H:HsN x nm S h) (hn:nm.ok S) (hk:S.ok) (hw:who<S.L.n) (ho:o.ok)
  (hR:∀g nm',HsN x nm' (actH S who o).S g->nm'.ok (actH S who o).S->R (.ret (.tuple #[.int .i64 (actH S who o).n,.int .i64 (actH S who o).e])) g):ACalls Tryz.prog f #[ptr x,.int .i64 who,o.v] h R:=by
 have hgn:=actH_gn (who:=who) (o:=o) hk
 unfold actF at hf
 unfold actH at hR hgn
 by_cases k1:o.kind=1
 ·rw[if_pos k1]at hf hR hgn;cases hf;exact h_tick H hn hk λg Hg=>hR g nm Hg (hn.to hgn.1)
 rw[if_neg k1]at hf hR hgn
 by_cases k2:o.kind=2
 ·rw[if_pos k2]at hf hR hgn;cases hf;exact h_pay H hk hw λg Hg=>hR g nm Hg (hn.to hgn.1)
 rw[if_neg k2]at hf hR hgn
 by_cases k3:o.kind=3
 ·rw[if_pos k3]at hf hR hgn;cases hf;exact h_take H hk hw λg Hg=>hR g nm Hg (hn.to hgn.1)
 rw[if_neg k3]at hf hR hgn
 by_cases k4:o.kind=4
 ·rw[if_pos k4]at hf hR hgn;cases hf;exact h_store H hk hw λg Hg=>hR g nm Hg (hn.to hgn.1)
 rw[if_neg k4]at hf hR hgn
 by_cases k5:o.kind=5
 ·rw[if_pos k5]at hf hR hgn;cases hf;exact h_fetch H hk hw λg Hg=>hR g nm Hg (hn.to hgn.1)
 rw[if_neg k5]at hf hR hgn
 by_cases k6:o.kind=6
 ·rw[if_pos k6]at hf hR hgn;cases hf;exact h_offer H hn hk hw ho λg nm' Hg hn'=>hR g nm' Hg hn'
 rw[if_neg k6]at hf hR hgn
 by_cases k7:o.kind=7
 ·rw[if_pos k7]at hf hR hgn;cases hf;exact h_want H hn hk hw ho λg Hg=>hR g nm Hg (hn.to hgn.1)
 rw[if_neg k7]at hf hR hgn
 by_cases k8:o.kind=8
 ·rw[if_pos k8]at hf hR hgn;cases hf;exact h_put H hn hk hw ho λg Hg=>hR g nm Hg (hn.to hgn.1)
 rw[if_neg k8]at hf hR hgn
 by_cases k9:o.kind=9
 ·rw[if_pos k9]at hf hR hgn;cases hf;exact h_amend H hn hk hw ho λg Hg=>hR g nm Hg (hn.to hgn.1)
 rw[if_neg k9]at hf hR hgn
 by_cases k10:o.kind=10
 ·rw[if_pos k10]at hf hR hgn;cases hf;exact h_cancel H hn hk hw ho λg Hg=>hR g nm Hg (hn.to hgn.1)
 rw[if_neg k10]at hf
 cases hf
theorem actF_none {o:OpV} (hf:actF o.kind=none):actH S who o=⟨0,90,S⟩:=by
 unfold actF at hf
 unfold actH
 by_cases k1:o.kind=1
 ·rw[if_pos k1]at hf;cases hf
 by_cases k2:o.kind=2
 ·rw[if_neg k1,if_pos k2]at hf;cases hf
 by_cases k3:o.kind=3
 ·rw[if_neg k1,if_neg k2,if_pos k3]at hf;cases hf
 by_cases k4:o.kind=4
 ·rw[if_neg k1,if_neg k2,if_neg k3,if_pos k4]at hf;cases hf
 by_cases k5:o.kind=5
 ·rw[if_neg k1,if_neg k2,if_neg k3,if_neg k4,if_pos k5]at hf;cases hf
 by_cases k6:o.kind=6
 ·rw[if_neg k1,if_neg k2,if_neg k3,if_neg k4,if_neg k5,if_pos k6]at hf;cases hf
 by_cases k7:o.kind=7
 ·rw[if_neg k1,if_neg k2,if_neg k3,if_neg k4,if_neg k5,if_neg k6,if_pos k7]at hf;cases hf
 by_cases k8:o.kind=8
 ·rw[if_neg k1,if_neg k2,if_neg k3,if_neg k4,if_neg k5,if_neg k6,if_neg k7,if_pos k8]at hf;cases hf
 by_cases k9:o.kind=9
 ·rw[if_neg k1,if_neg k2,if_neg k3,if_neg k4,if_neg k5,if_neg k6,if_neg k7,if_neg k8,if_pos k9]at hf;cases hf
 by_cases k10:o.kind=10
 ·rw[if_neg k1,if_neg k2,if_neg k3,if_neg k4,if_neg k5,if_neg k6,if_neg k7,if_neg k8,if_neg k9,if_pos k10]at hf;cases hf
 rw[if_neg k1,if_neg k2,if_neg k3,if_neg k4,if_neg k5,if_neg k6,if_neg k7,if_neg k8,if_neg k9,if_neg k10]
theorem didH_ok (hk:S.ok) (hw:who<S.L.n) (op:ByteArray):(didH S who op).S.ok/\(didH S who op).S.L.goods=S.L.goods/\(didH S who op).S.L.n=S.L.n/\(0<=(didH S who op).e/\(didH S who op).e<=100)/\(0<=(didH S who op).n/\(didH S who op).n<=9007199254740992):=by
 unfold didH
 split
 ·exact⟨actH_ok hk hw (ofOpO_ok op),(actH_gn hk).1,(actH_gn hk).2,(actH_e hk).1,(actH_e hk).2⟩
 ·exact⟨hk,rfl,rfl,by simp,by simp⟩
theorem markH_ok {d:Did} {stamp:Int} (hk:d.S.ok) (hw:who<d.S.L.n):(markH d who stamp).ok/\(markH d who stamp).L.goods=d.S.L.goods/\(markH d who stamp).L.n=d.S.L.n:=
 ⟨setL_ok hk (inv_mark hk.led hw) (markL_gn _ _ _ _).1 (markL_gn _ _ _ _).2,(markL_gn _ _ _ _).1,(markL_gn _ _ _ _).2⟩
theorem doH_ok (hk:S.ok) (who stamp:Int) (op:ByteArray):(doH S who stamp op).S.ok/\(doH S who stamp op).S.L.goods=S.L.goods/\(doH S who stamp op).S.L.n=S.L.n:=by
 unfold doH
 split
 ·exact⟨hk,rfl,rfl⟩
 ·split
  ·exact⟨hk,rfl,rfl⟩
  ·split
   ·exact⟨hk,rfl,rfl⟩
   ·obtain⟨d1,d2,d3,d4,d5⟩:=didH_ok (who:=who.toNat) hk (by omega) op
    obtain⟨m1,m2,m3⟩:=markH_ok (who:=who.toNat) (stamp:=stamp) d1 (by rw[d3];omega)
    exact⟨m1,m2.trans d2,m3.trans d3⟩
theorem str_cat {K:Value->Prop} (a b:List UInt8) (hs:a.length+b.length<=1000000):vBin Tryz.prog .add 9 (.string ⟨a.toArray⟩) (.string ⟨b.toArray⟩) K↔K (.string ⟨(a++b).toArray⟩):=by
 rw[vBin_sadd _ _ _ (by show a.toArray.size+b.toArray.size<=_;simp;omega)]
 have e:(⟨a.toArray⟩:ByteArray)++⟨b.toArray⟩=⟨(a++b).toArray⟩:=by
  apply ByteArray.ext
  rw[ByteArray.data_append]
  simp
 rw[e]
theorem h_reply {d:Did} {stamp:Int} {R':Value->PH->Prop} (H:HsN x nm d.S h) (hk:d.S.ok) (hw:who<d.S.L.n) (he:0<=d.e/\d.e<=100) (hnn:0<=d.n/\d.n<=9007199254740992) (hR:∀g,HsN x nm (markH d who stamp) g->R (.ret (.tuple #[.string (repB d.e d.n),.int .i64 0])) g) :
  vCall Tryz.prog 34 #[.int .i64 d.e] h (λt83 h_17=>
   vExt t83 0 λt84=>
   vExt t83 1 λt85=>
   vCall Tryz.prog 34 #[.int .i64 d.n] h_17 (λt88 h_18=>
   vExt t88 0 λt89=>
   vExt t88 1 λt90=>
   vLoad none (.pointer (some ⟨x,0,none⟩)) h_18 λt94=>
   vBin Tryz.prog .add 9 t84 t89 λt99=>
   vCall Tryz.prog 35 #[t94,.int .i64 who,.int .i64 stamp,t99] h_18 (λt100 h_19=>
   vBin Tryz.prog .add 9 t84 t89 λt103=>
   R (.ret (.tuple #[t103,(.int .i64 0)])) h_19)
   (λc h=>R (.pan c) h))
   (λc h=>R (.pan c) h))
   (λc h=>R (.pan c) h):=by
 obtain⟨e,he'⟩:∃e:Nat,d.e=e:=⟨d.e.toNat,by omega⟩
 obtain⟨n,hn'⟩:∃n:Nat,d.n=n:=⟨d.n.toNat,by omega⟩
 unfold markH repB at hR
 rw[he',hn',Int.toNat_natCast,Int.toNat_natCast]at hR
 rw[he',hn']
 have l1:=encN_10 (n:=e) (by omega)
 have l2:=encN_10 (n:=n) (by omega)
 refine putInt_ok (by omega) ?_
 simp only[AEnd.elim,vExt_20,vExt_21]
 refine putInt_ok (by omega) ?_
 simp only[AEnd.elim,vExt_20,vExt_21,H.f.lx.ld]
 rw[str_cat _ _ (by omega)]
 refine mark_ok H.f.hl hw ?_
 simp only[AEnd.elim]
 rw[str_cat _ _ (by omega)]
 have hgn:=markL_gn d.S.L who stamp ⟨(encN e++encN n).toArray⟩
 have H2:=HsN.led (L':=(markL d.S.L who stamp ⟨(encN e++encN n).toArray⟩).2) (sep_emp H) hgn.1 hgn.2
 exact hR _ (sep_l HsN.mono H2)
theorem h_do {who stamp:Int} {op:ByteArray} (H:HsN x nm S h) (hn:nm.ok S) (hk:S.ok) (hR:∀g nm',HsN x nm' (doH S who stamp op).S g->nm'.ok (doH S who stamp op).S->R (.ret (.tuple #[.string (doH S who stamp op).t,.int .i64 (doH S who stamp op).e])) g) :
  ACalls Tryz.prog 12 #[ptr x,.int .i64 who,.int .i64 stamp,.string op] h R:=by
 refine call12 ?_
 unfold sh12
 have F:=H.f
 rw[vBin_pnil Tryz.underlying28]
 simp only[boolOf_b,gq_b,true_implies,vNil_p,vFA_p,Nat.zero_add,F.lx.ld,ne_eq,not_true_eq_false,false_implies,and_true]
 rw[vBin_pnil Tryz.underlying81]
 simp only[vPick_b,cond_false,dIf_b]
 refine⟨λe=>absurd e (by simp),λ_=>?_⟩
 unfold doH at hR
 by_cases hw:0<=who/\who<S.L.n
 rotate_left
 ·rw[if_pos hw]at hR
  refine acct_bad F.hl (by omega) ?_
  simp only[AEnd.elim,vExt_20,vExt_21]
  refine vNew_i λc hc=>?_
  refine vStore_to (cs:=acct0) (ins_eq _ _ _) (by rfl) (by rfl) (by rfl) ?_
  rw[ins_ins]
  simp only[vUn_not,Bool.not_false,dIf_b]
  exact⟨λ_=>hR _ nm (HsN.mono _ _ (sub_ins _ hc) H) hn,λe=>absurd e (by simp)⟩
 rw[if_neg (λhnn=>hnn hw)]at hR
 obtain⟨i,rfl⟩:∃i:Nat,who=i:=⟨who.toNat,by omega⟩
 have hi:i<S.L.n:=by omega
 rw[Int.toNat_natCast]at hR
 refine acct_ok F.hl hi ?_
 simp only[AEnd.elim,vExt_20,vExt_21]
 refine vNew_i λc hc=>?_
 refine vStore_to (cs:=acctCells S.L i) (ins_eq _ _ _) (by rfl) (by rfl) (by rfl) ?_
 rw[ins_ins]
 have H1:HsN x nm S (ins h c (.cells (acctCells S.L i) 61 (0,0))):=HsN.mono _ _ (sub_ins _ hc) H
 revert H1
 generalize ins h c (.cells (acctCells S.L i) 61 (0,0))=G
 intro H1
 have F1:=H1.f
 simp only[vUn_not,Bool.not_true,dIf_b]
 refine⟨λe=>absurd e (by simp),λ_=>?_⟩
 simp only[vNil_p,vFA_p,Nat.zero_add,F1.lx.ld]
 refine last_ok F1.hl hi ?_
 simp only[AEnd.elim,vExt_20,vExt_21,vBin_lss]
 by_cases hs1:stamp<1
 ·rw[if_pos (.inl hs1)]at hR
  simp[hs1]
  exact hR _ nm H1 hn
 by_cases hs2:1099511627776<stamp
 ·rw[if_pos (.inr hs2)]at hR
  simp[hs1,hs2]
  exact hR _ nm H1 hn
 rw[if_neg (by omega)]at hR
 simp only[hs1,decide_false,boolOf_b,gq_b,true_implies,vBin_gtr,hs2,ne_eq,not_true_eq_false,false_implies,and_true,vPick_b,cond_false,dIf_b,Bool.false_eq_true,true_and,vBin_leq]
 by_cases hs3:stamp<=S.L.f i 10
 ·rw[if_pos hs3]at hR
  simp only[hs3,decide_true]
  exact⟨λ_=>hR _ nm H1 hn,λe=>absurd e (by simp)⟩
 rw[if_neg hs3]at hR
 simp only[hs3,decide_false]
 refine⟨λe=>absurd e (by simp),λ_=>?_⟩
 refine ofOp_ok ?_
 simp only[AEnd.elim,vExt_20,vExt_21]
 have ho:=ofOpO_ok op
 obtain⟨d1,d2,d3,d4,d5⟩:=didH_ok hk hi op
 have fin:∀{d:Did} {g nm'},didH S i op=d->HsN x nm' d.S g->nm'.ok d.S->_:=λ{d g nm'} hd Hg hn'=>h_reply (R:=R) (R':=λ_ _=>True) (d:=d) (stamp:=stamp) (who:=i) Hg (by rw[<-hd];exact d1) (by rw[<-hd,d3];exact hi) (by rw[<-hd];exact d4) (by rw[<-hd];exact d5) λg2 Hg2=>by
  rw[hd]at hR
  exact hR g2 nm' Hg2 (hn'.to (markL_gn _ _ _ _).1)
 unfold didH at fin
 refine vNew_i λq hq=>?_
 refine vStore_to (cs:=(ofOpO op).1.a) (ins_eq _ _ _) (by rfl) (by rfl) (by cases (ofOpO op).1;rfl) ?_
 rw[ins_ins]
 have H2:HsN x nm S (ins G q (.cells (ofOpO op).1.a 25 (0,0))):=HsN.mono _ _ (sub_ins _ hq) H1
 have hqq:ins G q (.cells (ofOpO op).1.a 25 (0,0)) q=some (.cells (ofOpO op).1.a 25 (0,0)):=ins_eq _ _ _
 revert H2 hqq
 generalize ins G q (.cells (ofOpO op).1.a 25 (0,0))=G2
 intro H2 hqq
 rw[vBin_eql,dIf_b]
 by_cases hf:(ofOpO op).2=0
 rotate_left
 ·rw[if_neg hf]at fin
  simp only[hf,decide_false]
  exact⟨λe=>absurd e (by simp),λ_=>fin (d:=⟨0,90,S⟩) rfl H2 hn⟩
 rw[if_pos hf]at fin
 simp only[hf,decide_true]
 refine⟨λ_=>?_,λe=>absurd e (by simp)⟩
 generalize (ofOpO op).1=o at *
 simp only[vFA_p,Nat.zero_add]
 rw[vLoad_1 hqq (show o.a[0]?=some (.int .i64 o.kind)from rfl)]
 refine h_acts ?_
 simp only[AEnd.elim]
 cases ha:actF o.kind with
 | none=>
  rw[actF_none ha]at fin
  unfold fnV
  rw[nofn_neq,dIf_b]
  exact⟨λe=>absurd e (by simp),λ_=>fin (d:=⟨0,90,S⟩) rfl H2 hn⟩
 | some f=>
  unfold fnV
  rw[fn_neq,dIf_b]
  refine⟨λ_=>?_,λe=>absurd e (by simp)⟩
  rw[vLoad_n hqq (off:=0) (n:=6) (by show 0+6<=6;omega),show o.a.extract 0 (0+6)=o.a from rfl]
  refine⟨f,#[],#[],rfl,?_⟩
  refine h_kind (who:=i) (o:=o) ha H2 hn hk hi ho λg nm' Hg hn'=>?_
  simp only[AEnd.elim,vExt_20,vExt_21]
  exact fin (d:=actH S i o) rfl Hg hn'
end
end Go.Pw
set_option linter.unusedSimpArgs false
set_option linter.unusedVariables false
namespace Go.Pw
open Go Go.Proofs
abbrev Rec:=ByteArray×ByteArray
def recC (l:List Rec):List Value:=l.flatMap λa=>[.string a.1,.string a.2]
theorem recC_app (l m:List Rec):recC (l++m)=recC l++recC m:=by simp[recC]
theorem recC_cells (L:Led) (n:Nat):recCells L n=recC (recsOf L n):=by
 unfold recCells recC recsOf
 rw[List.flatMap_map]
theorem recsOf_len (L:Led) (n:Nat):(recsOf L n).length=n:=by simp[recsOf]
theorem recC_get:∀(l:List Rec) (i:Nat) (a:Rec),l[i]?=some a->(recC l)[i*2]?=some (.string a.1)/\(recC l)[i*2+1]?=some (.string a.2)
 | [],i,a,h=>by simp at h
 | b::l,0,a,h=>by simp at h;subst h;exact⟨rfl,rfl⟩
 | b::l,i+1,a,h=>by
  have:=recC_get l i a (by simpa using h)
  have e:recC (b::l) = [.string b.1,.string b.2]++recC l:=by simp[recC]
  rw[e,List.getElem?_append_right (by simp;omega),List.getElem?_append_right (by simp;omega)]
  have e1:(i+1)*2 - [Value.string b.1,.string b.2].length=i*2:=by simp;omega
  have e2:(i+1)*2+1 - [Value.string b.1,.string b.2].length=i*2+1:=by simp;omega
  rw[e1,e2]
  exact this
theorem recs_of {h h0:PH} {l:List Rec} {s:Value} (hw:OB 42 2 h0 l.length (recC l) h s):RecsAt h s l:=by
 rcases Nat.eq_zero_or_pos l.length with hn | hn
 ·obtain⟨p,cap,e⟩:=ob_len hw
  have:=List.eq_nil_of_length_eq_zero hn
  subst this
  exact⟨p,cap,e,by simp,λi a ha=>by simp at ha⟩
 ·obtain⟨q,c,cap,hs,hq,hsz,hget⟩:=ob_get hw hn
  have hc:l.length<=cap:=by
   rcases hw.buf with⟨_,h1,_⟩ | ⟨g2,c2,cap2,h1,h2,h3,h4,h5,h6⟩
   ·omega
   ·rw[h1]at hs;cases hs;exact h5
  refine⟨_,cap,hs,hc,λi a ha=>?_⟩
  have hi:i<l.length:=(List.getElem?_eq_some_iff.1 ha).1
  obtain⟨g1,g2⟩:=recC_get l i a ha
  refine⟨q,0,c,_,_,rfl,hq,by omega,?_⟩
  apply Array.ext_getElem?
  intro j
  rw[Array.getElem?_extract]
  rcases Nat.lt_or_ge j 2 with hj | hj
  ·rw[if_pos (by omega),hget _ (by omega)]
   match j,hj with
   | 0,_=>simpa using g1
   | 1,_=>simpa using g2
  ·rw[if_neg (by omega),Array.getElem?_eq_none (by simpa using hj)]
def keyS (p:List UInt8) (i:Nat):ByteArray:=⟨(p ++ [UInt8.ofNat (48+i)]).toArray⟩
def bookK:List UInt8:=[98,111,111,107,47]
def clockK:List UInt8:=[99,108,111,99,107,47]
def bkR (S:Hs) (i:Nat):Rec:=(keyS bookK i,bkB (S.bk i))
def auR (S:Hs) (i:Nat):List Rec:=match S.au i with
 | some p=>[(keyS clockK i,⟨(encN p.2.toNat++(aucB p.1).data.toList).toArray⟩)]
 | none=>[]
def auRs (S:Hs):Nat->List Rec
 | 0=>[]
 | k+1=>auRs S k++auR S k
def nowR (S:Hs):Rec:=(⟨#[110,111,119]⟩,⟨(encN S.now.toNat).toArray⟩)
def hsRecs (S:Hs):List Rec:=recsOf S.L S.L.n++(List.range S.G).map (bkR S)++auRs S S.G ++ [nowR S]
theorem auRs_len (S:Hs):∀k,(auRs S k).length<=k
 | 0=>by simp[auRs]
 | k+1=>by
  have h1:=auRs_len S k
  have h2:(auR S k).length<=1:=by unfold auR;split <;> simp
  simp only[auRs,List.length_append]
  omega
section
variable {h g:PH} {R:AEnd->PH->Prop} {x:Nat} {nm:Nm} {S:Hs} {C:PH->Prop}
theorem fill_b (b:UInt8):Instr.fill (λi=>some (i*1,1)) (rep #[Value.int IntKind.u8 0] (1*1)) [(0,Value.int IntKind.u8 ↑b.toNat)]=some #[.int .u8 b.toNat]:=by
 have e:Array.range 1=#[0]:=by decide
 simp[Instr.fill,rep,Value.cells,e]
theorem hkey_ok {p:List UInt8} {i:Nat} (hi:i<10) (hp:p.length<=100) (hR:R (.ret (.string (keyS p i))) h):ACalls Tryz.prog 38 #[.string ⟨p.toArray⟩,.int .i64 i] h R:=by
 refine ACalls.drop (call38 ?_)
 unfold sh38
 rw[vBin_add,w64 (by omega) (by omega),vConvI_i,wrap_u8n (n:=48+i) (by omega) (by omega)]
 refine⟨by omega,_,fill_b _,λb hb=>?_⟩
 refine .inr ⟨b,0,1,1,_,_,_,[UInt8.ofNat (48+i)],rfl,ins_eq _ _ _,rfl,rfl,?_⟩
 refine (str_cat p [UInt8.ofNat (48+i)] (by simp;omega)).2 ?_
 exact⟨h,sub_ins _ hb,hR⟩
theorem app_rec {K:Value->PH->Prop} {h0:PH} {s:Value} {l:List Rec} {a b:ByteArray} (ob:OB 42 2 h0 l.length (recC l) h s) (hl:l.length<=1000000) (hk:∀g s',OB 42 2 h0 (l ++ [(a,b)]).length (recC (l ++ [(a,b)])) g s'->K s' g) :
  vBuild [(0,1),(1,1)] #[.string ⟨#[]⟩,.string ⟨#[]⟩] [(0,.string a),(1,.string b)] λt41=>
   (1*2<=2^24)/\vBuildS 42 2 1 #[.string ⟨#[]⟩,.string ⟨#[]⟩] [(0,t41)] h λt42 h_3=>
   (0<2)/\(0<32)/\(Array.size #[(.string ⟨#[]⟩:Value),(.string ⟨#[]⟩:Value)]=2)/\vAppend false 42 2 32 s t42 h_3 K:=by
 refine⟨#[.string a,.string b],by simp[Instr.fill,Value.cells],?_⟩
 refine⟨by omega,_,fill_rec a b,λd hd=>⟨by omega,by omega,rfl,?_⟩⟩
 have obd:=ob.up (sub_ins (.cells #[.string a,.string b] 42) hd)
 refine ob_app (m:=1) (news:=[.string a,.string b]) obd (by simp only[roomBytes];omega) (by omega) rfl
  (λK' hk'=>.inr (.inr ⟨rfl,d,0,1,1,_,_,_,rfl,ins_eq _ _ _,by show 0+1*2<=2;omega,?_,hk'⟩)) (λb' off l cc hx gg cap hs=>?_) λg5 s5 ob5=>?_
 ·intro v hv
  simp at hv
  rcases hv with rfl | rfl <;> rfl
 ·cases hx
  intro e
  rcases ob.buf with⟨h1',_⟩ | ⟨g3,c3,cap3,h1',h2',_⟩
  ·rw[h1']at hs;cases hs
  ·rw[h1']at hs;cases hs;rw[<-e,hd]at h2';cases h2'
 ·refine hk g5 s5 ?_
  rw[recC_app,List.length_append]
  exact ob5
theorem h_records (H:HsN x nm S h) (hn:nm.ok S) (hk:S.ok) (hR:∀g s,OB 42 2 h (hsRecs S).length (recC (hsRecs S)) g s->R (.ret s) g):ACalls Tryz.prog 14 #[ptr x] h R:=by
 refine call14 ?_
 unfold sh14
 have F:=H.f
 have hcl:=hk.cl
 have hg:=hk.g
 rw[vBin_pnil Tryz.underlying28]
 simp only[boolOf_b,gq_b,true_implies,vNil_p,vFA_p,Nat.zero_add,F.lx.ld,ne_eq,not_true_eq_false,false_implies,and_true]
 rw[vBin_pnil Tryz.underlying81]
 simp only[vPick_b,cond_false,dIf_b]
 refine⟨λe=>absurd e (by simp),λ_=>?_⟩
 refine records_ok F.hl hk.led λg1 s1 ob1=>?_
 simp only[AEnd.elim]
 have ob1':OB 42 2 h (recsOf S.L S.L.n).length (recC (recsOf S.L S.L.n)) g1 s1:=by
  rw[recsOf_len,<-recC_cells];exact ob1
 have hl0:(recsOf S.L S.L.n).length<=16:=by rw[recsOf_len];exact hcl
 unfold hsRecs at hR
 generalize recsOf S.L S.L.n=l0 at *
 rw[vLoad_1 (ob1.sub _ _ F.hx) (show (hsHd nm S)[4]?=some (.slice (some ⟨nm.bs,0,none⟩) S.G nm.bcap)from rfl),vLenS_s]
 refine lf_intro (λm s' g=>∃(i:Nat) (s:Value),s'=(s,.int .i64 i)/\m=S.G-i/\i<=S.G/\OB 42 2 h (l0++(List.range i).map (bkR S)).length (recC (l0++(List.range i).map (bkR S))) g s) S.G
  ⟨0,s1,rfl,rfl,by omega,by simpa using ob1'⟩ ?_
 rintro m s' g ⟨i,s,rfl,rfl,hi,ob⟩
 by_cases hin:i<S.G
 ·have key:∀(kn:(Value×Value×Value)->(Value×Value)->PH->Prop) x0,(∀g2 s2,OB 42 2 h (l0++(List.range (i+1)).map (bkR S)).length (recC (l0++(List.range (i+1)).map (bkR S))) g2 s2->kn (ptr x,.slice (some ⟨nm.bs,0,none⟩) S.G nm.bcap,.int .i64 S.G) (s2,.int .i64 ((i:Int)+1)) g2) ->
    b14_5 (λc h=>R (.pan c) h) x0 (ptr x,.slice (some ⟨nm.bs,0,none⟩) S.G nm.bcap,.int .i64 S.G) kn (s,.int .i64 i) g:=by
   intro kn x0 hkn
   unfold b14_5
   have hlt:(i:Int)<(S.G:Int):=by omega
   simp only[vBin_lss,hlt,decide_true,dIf_b,vIxS_p]
   refine⟨λ_=>⟨by omega,by omega,?_⟩,λe=>absurd e (by simp)⟩
   rw[vLoad_1 (ob.sub _ _ F.hb) (v:=ptr (nm.ba i)) (by simpa using hn.cb i hin)]
   refine hkey_ok (p:=bookK) (by omega) (by simp[bookK]) ?_
   simp only[AEnd.elim]
   refine bk_bytes (BkP.mono _ _ ob.sub (F.bk i hin)) (hk.bk i hin) ?_
   simp only[AEnd.elim]
   refine app_rec ob (by simp;omega) λg2 s2 ob2=>?_
   simp only[vBin_add]
   rw[w64 (by omega) (by omega)]
   refine hkn g2 s2 ?_
   rw[List.range_succ,List.map_append,<-List.append_assoc]
   exact ob2
  exact key _ _ λg2 s2 ob2=>⟨rfl,S.G-(i+1),by omega,i+1,s2,rfl,rfl,by omega,ob2⟩
 ·have e:i=S.G:=by omega
  subst e
  unfold b14_5
  simp only[vBin_lss,dIf_b]
  refine⟨λe=>absurd e (by simp),λ_=>?_⟩
  intro r hr
  simp only[Prod.mk.injEq]at hr
  obtain⟨r0,r3⟩:=hr
  simp only[r0,r3,vNil_p,vFA_p,Nat.zero_add]
  rw[vLoad_1 (ob.sub _ _ F.hx) (show (hsHd nm S)[5]?=some (.slice (some ⟨nm.ss,0,none⟩) S.G S.G)from rfl),vLenS_s]
  have hl1:(l0++(List.range S.G).map (bkR S)).length<=20:=by simp;omega
  generalize l0++(List.range S.G).map (bkR S)=l1 at *
  refine lf_intro (λm s' g=>∃(i:Nat) (s:Value),s'=(s,.int .i64 i)/\m=S.G-i/\i<=S.G/\OB 42 2 h (l1++auRs S i).length (recC (l1++auRs S i)) g s) S.G
   ⟨0,s,rfl,rfl,by omega,by simpa [auRs]using ob⟩ ?_
  clear ob
  rintro m s' g ⟨i,s,rfl,rfl,hi,ob⟩
  have hla:=auRs_len S i
  by_cases hin:i<S.G
  ·have key:∀(kn:(Value×Value×Value)->(Value×Value)->PH->Prop) x2,(∀g2 s2,OB 42 2 h (l1++auRs S (i+1)).length (recC (l1++auRs S (i+1))) g2 s2->kn (ptr x,.slice (some ⟨nm.ss,0,none⟩) S.G S.G,.int .i64 S.G) (s2,.int .i64 ((i:Int)+1)) g2) ->
     b14_10 (λc h=>R (.pan c) h) x2 (ptr x,.slice (some ⟨nm.ss,0,none⟩) S.G S.G,.int .i64 S.G) kn (s,.int .i64 i) g:=by
    intro kn x2 hkn
    unfold b14_10
    have hlt:(i:Int)<(S.G:Int):=by omega
    simp only[vBin_lss,hlt,decide_true,dIf_b,vIxS_p]
    refine⟨λ_=>⟨by omega,by omega,?_⟩,λe=>absurd e (by simp)⟩
    rw[show 0+(i:Int).toNat*2=i*2 by omega,vLoad_n (ob.sub _ _ F.hs) (by rw[saleC_size];omega),saleC_ext hin]
    refine vNew_i λd hd=>?_
    refine vStore_to (cs:=#[saleP nm S i,.int .i64 (saleW S i)]) (ins_eq _ _ _) (by rfl) (by rfl) (by unfold saleP;cases S.au i <;> rfl) ?_
    rw[ins_ins]
    have obd:=ob.up (sub_ins (.cells #[saleP nm S i,.int .i64 (saleW S i)] 98 (0,0)) hd)
    have hdd:ins g d (.cells #[saleP nm S i,.int .i64 (saleW S i)] 98 (0,0)) d=some (.cells #[saleP nm S i,.int .i64 (saleW S i)] 98 (0,0)):=ins_eq _ _ _
    revert obd hdd
    generalize ins g d (.cells #[saleP nm S i,.int .i64 (saleW S i)] 98 (0,0))=G
    intro obd hdd
    simp only[vFA_p,Nat.zero_add]
    rw[vLoad_1 hdd (v:=saleP nm S i) rfl]
    cases hau:S.au i with
    | none=>
     have hP:saleP nm S i = .pointer none:=by unfold saleP;rw[hau]
     rw[hP,vBin_nilneq Tryz.underlying96,dIf_b]
     refine⟨λe=>absurd e (by simp),λ_=>?_⟩
     rw[vBin_add,w64 (by omega) (by omega)]
     refine hkn G s ?_
     have:auRs S (i+1)=auRs S i:=by simp[auRs,auR,hau]
     rw[this]
     exact obd
    | some q=>
     obtain⟨A,w⟩:=q
     obtain⟨hAk,hA0,hAn,hw0,hwn⟩:=hk.au i A w hin hau
     have hP:saleP nm S i=ptr (nm.aa i):=by unfold saleP;rw[hau]
     have hW:saleW S i=w:=by unfold saleW;rw[hau]
     rw[hP,hW]at hdd
     rw[hP,vBin_pneq Tryz.underlying96,dIf_b]
     refine⟨λ_=>?_,λe=>absurd e (by simp)⟩
     rw[vLoad_1 hdd (v:=.int .i64 w) rfl]
     obtain⟨wn,rfl⟩:∃wn:Nat,w=wn:=⟨w.toNat,by omega⟩
     refine putInt_ok (by omega) ?_
     simp only[AEnd.elim,vExt_20,vExt_21,vFA_p,Nat.zero_add]
     rw[vLoad_1 hdd (v:=ptr (nm.aa i)) rfl]
     refine hkey_ok (p:=clockK) (by omega) (by simp[clockK]) ?_
     simp only[AEnd.elim]
     rw[vLoad_1 hdd (v:=ptr (nm.aa i)) rfl]
     refine⟨rfl,?_⟩
     refine clock_bytes ((F.au i (A,(wn:Int)) hin hau).sub obd.sub) hAk ?_
     simp only[AEnd.elim]
     have l1':=encN_10 (n:=wn) (by omega)
     have l2':(encL (aucNums A A.n)).length<=1000:=by
      have h1:=encL_len2 (aucNums_bd hAk A.n (Nat.le_refl _))
      have h2:=aucNums_len A A.n
      have h3:=hAk.n
      omega
     have eB:(aucB A).data.toList=encL (aucNums A A.n):=by simp[aucB]
     have eB2:aucB A=⟨(aucB A).data.toList.toArray⟩:=by simp[aucB]
     rw[eB2,str_cat _ _ (by rw[eB];omega)]
     refine app_rec obd (by simp;omega) λg2 s2 ob2=>?_
     simp only[vBin_add]
     rw[w64 (by omega) (by omega)]
     refine hkn g2 s2 ?_
     have:auRs S (i+1)=auRs S i ++ [(keyS clockK i,⟨(encN wn++(aucB A).data.toList).toArray⟩)]:=by simp[auRs,auR,hau]
     rw[this,<-List.append_assoc]
     exact ob2
   exact key _ _ λg2 s2 ob2=>⟨rfl,S.G-(i+1),by omega,i+1,s2,rfl,rfl,by omega,ob2⟩
  ·have e:i=S.G:=by omega
   subst e
   unfold b14_10
   simp only[vBin_lss,dIf_b]
   refine⟨λe=>absurd e (by simp),λ_=>?_⟩
   intro r hr
   simp only[Prod.mk.injEq]at hr
   obtain⟨r0,r3⟩:=hr
   simp only[r0,r3,vNil_p,vFA_p,Nat.zero_add]
   have hnow:=hk.now
   rw[vLoad_1 (ob.sub _ _ F.hx) (show (hsHd nm S)[3]?=some (.int .i64 S.now)from rfl)]
   obtain⟨nw,hnw⟩:∃nw:Nat,S.now=nw:=⟨S.now.toNat,by omega⟩
   unfold nowR at hR
   rw[hnw,Int.toNat_natCast]at hR
   rw[hnw]
   refine putInt_ok (by omega) ?_
   simp only[AEnd.elim,vExt_20,vExt_21]
   exact app_rec ob (by simp;omega) λg2 s2 ob2=>hR g2 s2 ob2
end
end Go.Pw
set_option linter.unusedSimpArgs false
set_option linter.unusedVariables false
namespace Go.Pw
open Go Go.Proofs
def newHs (c g:Int):Hs:={L:=newLed c g,now:=0,bk:=λ_=>{next:=1,l:=[]},au:=λ_=>none}
theorem bk0_ok:({next:=1,l:=[]}:Bk).ok where
 right o h:=by simp at h
 ids:=List.Pairwise.nil
 pls:=List.Pairwise.nil
 pl o h:=by simp at h
 len:=by simp
 nx:=by simp
theorem newHs_ok {c g:Int} (hc1:1<=c) (hc2:c<=16) (hg1:1<=g) (hg2:g<=4):(newHs c g).ok:=
 ⟨inv_new hc2 hg2 hg1,by show 1<=c.toNat;omega,λi _=>bk0_ok,λi _ o h=>(by simp[newHs]at h),λi A w _ h=>(by simp[newHs]at h),by simp[newHs]⟩
theorem saleC_new {nm:Nm} {S:Hs} (h:∀i,S.au i=none):rep #[.pointer none,.int .i64 0] (S.G*2)=saleC nm S:=by
 apply Array.ext_getElem?
 intro k
 rcases Nat.lt_or_ge k (S.G*2)with hk | hk
 ·have e1:(saleC nm S)[k]?=some (if k%2=0 then .pointer none else .int .i64 0):=by
   unfold saleC
   rw[Array.getElem?_ofFn,dif_pos hk]
   simp only
   unfold saleP saleW
   rw[h]
  rw[e1]
  unfold rep
  simp only[Array.getElem?_map,Array.getElem?_range,hk,if_true,Option.map_some]
  congr 1
  have hm:k%2<2:=by omega
  simp only[List.size_toArray,List.length_cons,List.length_nil]
  match hk:k%2,hm with
  | 0,_=>rfl
  | 1,_=>rfl
 ·rw[Array.getElem?_eq_none (by simp[rep];omega),Array.getElem?_eq_none (by rw[saleC_size];exact hk)]
theorem stars_emp {A:Nat->PH->Prop}:∀(n:Nat),(∀k,k<n->A k=emp)->stars A n=emp
 | 0,_=>rfl
 | n+1,h=>by unfold stars;rw[stars_emp n λk hk=>h k (by omega),h n (by omega),sep_emp_eq mono_emp]
section
variable {h g:PH} {R:AEnd->PH->Prop} {x:Nat} {nm:Nm} {S:Hs} {C:PH->Prop}
theorem led_of {b:Nat} {L:Led} (H:(pt x (.cells #[.int .i64 L.goods,.slice (some ⟨b,0,none⟩) L.n L.n] 149 (0,0))•pt b (.cells (ledCells L) 132 (0,0))•C) h):(LedP x b L•C) h:=by
 rw[<-sep_assoc]at H
 refine sep_mono H (λg hg=>?_) λ_ h=>h
 have h1:=pt_get hg
 have h2:=pt_get (sep_c hg)
 refine⟨h1,h2,λe=>?_⟩
 rw[e,h2]at h1
 injection h1 with h3
 injection h3 with _ h4
 exact absurd h4 (by decide)
theorem os_pt {e:TypeId} {esz n:Nat} {l:List Value} {s:Value} (H:(OS e esz s n l•C) h) (hn:0<n):∃g c cap,s = .slice (some ⟨g,0,none⟩) n cap/\n<=cap/\(∀j,j<n*esz->c[j]?=l[j]?)/\(pt g (.cells c e (0,0))•C) h:=by
 obtain⟨h0,hc,ob⟩:=os_ob H
 rcases ob.buf with⟨_,e0,_⟩ | ⟨g,c,cap,rfl,hg,hg0,hcs,hle,htk⟩
 ·omega
 ·refine⟨g,c,cap,rfl,hle,λj hj=>by rw[<-htk,List.getElem?_take,if_pos hj,Array.getElem?_toList],?_⟩
  refine⟨one g (.cells c e (0,0)),h0,λb hb=>?_,one_sub hg,ob.sub,ins_eq _ _ _,hc⟩
  by_cases e:b=g
  ·subst e;exact hg0
  ·exact absurd (by unfold one;rw[ins_ne _ _ e]) hb
def ptrsL (ba:Nat->Nat) (n:Nat):List Value:=(List.range n).map λk=>ptr (ba k)
theorem fill_p (v:Value) (hv:v.cells=#[v]):Instr.fill (λi=>some (i*1,1)) (rep #[Value.pointer none] (1*1)) [(0,v)]=some #[v]:=by
 have e:Array.range 1=#[0]:=by decide
 simp[Instr.fill,rep,hv,e]
def hc0 (l c g:Value) (s:Value) (ss G:Nat):Array Value:=#[l,c,g,.int .i64 0,s,.slice (some ⟨ss,0,none⟩) G G]
theorem build_house (l c g v:Value) (hl:l.cells=#[l]) (hc:c.cells=#[c]) (hg:g.cells=#[g]) (hv:v.cells=#[v]) :
  Instr.fill (λi=>[(0,1),(1,1),(2,1),(3,1),(4,1),(5,1)][i]?) #[Value.pointer none,.int .i64 0,.int .i64 0,.int .i64 0,.slice none 0 0,.slice none 0 0] [(0,l),(1,c),(2,g),(5,v)]=some #[l,c,g,.int .i64 0,.slice none 0 0,v]:=by
 simp[Instr.fill,hl,hc,hg,hv]
theorem h_new {c g:Int} (hc1:1<=c) (hc2:c<=16) (hg1:1<=g) (hg2:g<=4) (hR:∀G x nm,(∀C:PH->Prop,C h->(HsN x nm (newHs c g)•C) G)->nm.ok (newHs c g)->R (.ret (.tuple #[ptr x,.int .i64 0])) G) :
  ACalls Tryz.prog 19 #[.int .i64 c,.int .i64 g] h R:=by
 refine call19 ?_
 unfold sh19
 refine new_ok hc1 hc2 hg1 hg2 λl lb hlb hl hne=>?_
 obtain⟨C0,hC0,h0⟩:∃C0:PH->Prop,(∀g',C0 g'->g'=h)/\C0 h:=⟨λg'=>g'=h,λ_ e=>e,rfl⟩
 have H1:(LedP l lb (newLed c g)•C0) (ins (ins h lb (.cells (ledCells (newLed c g)) 132 (0,0))) l (.cells #[.int .i64 g,.slice (some ⟨lb,0,none⟩) c.toNat c.toNat] 149 (0,0))):=
  led_of (L:=newLed c g) (pt_new (by rw[ins_ne _ _ hne];exact hl) (pt_new hlb h0))
 revert H1
 generalize ins (ins h lb (.cells (ledCells (newLed c g)) 132 (0,0))) l (.cells #[.int .i64 g,.slice (some ⟨lb,0,none⟩) c.toNat c.toNat] 149 (0,0))=G1
 intro H1
 simp only[AEnd.elim,vExt_20,vExt_21,vBin_neq,decide_true,Bool.not_true,dIf_b]
 refine⟨λe=>absurd e (by simp),λ_=>?_⟩
 refine⟨_,_,_,_,rfl,rfl,by omega,by omega,by omega,by omega,λss hss=>?_⟩
 obtain⟨G,hG⟩:∃G:Nat,g=G:=⟨g.toNat,by omega⟩
 subst hG
 simp only[Int.toNat_natCast]
 refine⟨_,build_house _ _ _ _ rfl rfl rfl rfl,?_⟩
 have H2:(pt ss (.cells (rep #[.pointer none,.int .i64 0] (G*2)) 98 (0,0))•LedP l lb (newLed c G)•C0) (ins G1 ss (.cells (rep #[.pointer none,.int .i64 0] (G*2)) 98 (0,0))):=pt_new hss H1
 revert H2
 generalize ins G1 ss (.cells (rep #[.pointer none,.int .i64 0] (G*2)) 98 (0,0))=G2
 intro H2
 refine vNew_i λx hx=>?_
 rw[show (Value.agg #[ptr l,.int .i64 c,.int .i64 G,.int .i64 0,.slice none 0 0,.slice (some ⟨ss,0,none⟩) G G]).cells=hc0 (ptr l) (.int .i64 c) (.int .i64 G) (.slice none 0 0) ss G from rfl]
 have H3:(pt x (.cells (hc0 (ptr l) (.int .i64 c) (.int .i64 G) (.slice none 0 0) ss G) 85 (0,0))•pt ss (.cells (rep #[.pointer none,.int .i64 0] (G*2)) 98 (0,0))•LedP l lb (newLed c G)•C0) (ins G2 x (.cells (hc0 (ptr l) (.int .i64 c) (.int .i64 G) (.slice none 0 0) ss G) 85 (0,0))):=pt_new hx H2
 revert H3
 generalize ins G2 x (.cells (hc0 (ptr l) (.int .i64 c) (.int .i64 G) (.slice none 0 0) ss G) 85 (0,0))=G3
 intro H3
 generalize hD:(pt ss (.cells (rep #[.pointer none,.int .i64 0] (G*2)) 98 (0,0))•LedP l lb (newLed c G)•C0)=D at H3
 refine lf_intro (λm s' g'=>∃(i:Nat) (s:Value) (ba:Nat->Nat),s' = .int .i64 i/\m=G-i/\i<=G /\
   (pt x (.cells (hc0 (ptr l) (.int .i64 c) (.int .i64 G) s ss G) 85 (0,0))•OS 93 1 s i (ptrsL ba i)•stars (λk=>BkP (ba k) {next:=1,l:=[]}) i•D) g') G
  ⟨0,.slice none 0 0,λ_=>0,rfl,rfl,by omega,?_⟩ ?_
 ·refine sep_mono H3 (λ_ h=>h) λg' hg'=>?_
  refine ob_os (h0:=g') ?_ ⟨Sub.refl _,rfl,.inl ⟨rfl,rfl,rfl⟩⟩
  show (emp•D) g'
  exact sep_c (sep_emp hg')
 rintro m s' g' ⟨i,s,ba,rfl,rfl,hi,H⟩
 by_cases hin:i<G
 ·have key:∀(kn:(Value×Value)->Value->PH->Prop) x0,(∀g2 s2 ba2,(pt x (.cells (hc0 (ptr l) (.int .i64 c) (.int .i64 G) s2 ss G) 85 (0,0))•OS 93 1 s2 (i+1) (ptrsL ba2 (i+1))•stars (λk=>BkP (ba2 k) {next:=1,l:=[]}) (i+1)•D) g2->kn (ptr x,.int .i64 G) (.int .i64 ((i:Int)+1)) g2) ->
    b19_6 (λc h=>R (.pan c) h) x0 (ptr x,.int .i64 G) kn (.int .i64 i) g':=by
   intro kn x0 hkn
   unfold b19_6
   have hlt:(i:Int)<(G:Int):=by omega
   simp only[vBin_lss,hlt,decide_true,dIf_b,vNil_p,vFA_p,Nat.zero_add]
   refine⟨λ_=>?_,λe=>absurd e (by simp)⟩
   have hxx:=pt_get H
   rw[vLoad_1 hxx (v:=s) rfl]
   refine bk_new λg2 b hb hs hC=>?_
   have H4:=hC _ H
   have hxx2:=hs _ _ hxx
   simp only[AEnd.elim]
   rw[vLoad_1 hxx2 (v:=s) rfl]
   refine⟨rfl,by omega,_,fill_p (ptr b) rfl,λd hd=>⟨by omega,by omega,rfl,?_⟩⟩
   have H5:(pt d (.cells #[ptr b] 93 (0,0))•BkP b {next:=1,l:=[]}•pt x (.cells (hc0 (ptr l) (.int .i64 c) (.int .i64 G) s ss G) 85 (0,0))•OS 93 1 s i (ptrsL ba i)•stars (λk=>BkP (ba k) {next:=1,l:=[]}) i•D) (ins g2 d (.cells #[ptr b] 93 (0,0))):=pt_new hd H4
   revert H5
   generalize ins g2 d (.cells #[ptr b] 93 (0,0))=g3
   intro H5
   have hdd:=pt_get H5
   have e5:pt d (.cells #[ptr b] 93 (0,0))•BkP b {next:=1,l:=[]}•pt x (.cells (hc0 (ptr l) (.int .i64 c) (.int .i64 G) s ss G) 85 (0,0))•OS 93 1 s i (ptrsL ba i)•stars (λk=>BkP (ba k) {next:=1,l:=[]}) i•D =
     OS 93 1 s i (ptrsL ba i)•(pt d (.cells #[ptr b] 93 (0,0))•BkP b {next:=1,l:=[]}•pt x (.cells (hc0 (ptr l) (.int .i64 c) (.int .i64 G) s ss G) 85 (0,0))•stars (λk=>BkP (ba k) {next:=1,l:=[]}) i•D):=by ac_rfl
   rw[e5]at H5
   obtain⟨h6,hc6,ob6⟩:=os_ob H5
   have hd6:=pt_get hc6
   refine ob_app (m:=1) (news:=[ptr b]) ob6 (by simp only[roomBytes];omega) (by omega) rfl
    (λK' hk'=>.inr (.inr ⟨rfl,d,0,1,1,_,_,_,rfl,hdd,by show 0+1*1<=1;omega,(by intro v hv;simp at hv;subst hv;rfl),hk'⟩)) (λb' off l' cc hx' gg cap hs'=>?_) λg7 s7 ob7=>?_
   ·cases hx'
    intro e
    rcases ob6.buf with⟨h1',_⟩ | ⟨g3,c3,cap3,h1',h2',h3',_⟩
    ·rw[h1']at hs';cases hs'
    ·rw[h1']at hs';cases hs';rw[<-e,hd6]at h3';cases h3'
   have H7:=ob_os hc6 ob7
   have e7:OS 93 1 s7 (i+1) (ptrsL ba i ++ [ptr b])•(pt d (.cells #[ptr b] 93 (0,0))•BkP b {next:=1,l:=[]}•pt x (.cells (hc0 (ptr l) (.int .i64 c) (.int .i64 G) s ss G) 85 (0,0))•stars (λk=>BkP (ba k) {next:=1,l:=[]}) i•D) =
     pt x (.cells (hc0 (ptr l) (.int .i64 c) (.int .i64 G) s ss G) 85 (0,0))•(OS 93 1 s7 (i+1) (ptrsL ba i ++ [ptr b])•(stars (λk=>BkP (ba k) {next:=1,l:=[]}) i•BkP b {next:=1,l:=[]})•(D•pt d (.cells #[ptr b] 93 (0,0)))):=by ac_rfl
   rw[e7]at H7
   have hxx7:=pt_get H7
   rw[vStore_1 hxx7 (by show 4<6;omega) (by rcases ob7.buf with⟨e,_⟩ | ⟨_,_,_,e,_⟩ <;> rw[e] <;> rfl)]
   simp only[vBin_add]
   rw[w64 (by omega) (by omega)]
   have H8:=pt_put (p:=.cells (hc0 (ptr l) (.int .i64 c) (.int .i64 G) s7 ss G) 85 (0,0)) H7
   refine hkn _ s7 (λk=>if k=i then b else ba k) ?_
   refine sep_mono H8 (λ_ h=>h) λ_ h=>sep_mono h (λ_ h=>?_) λ_ h=>sep_mono h (λ_ h=>?_) λ_ h=>sep_l ?_ h
   ·have e8:ptrsL (λk=>if k=i then b else ba k) (i+1)=ptrsL ba i ++ [ptr b]:=by
     unfold ptrsL
     rw[List.range_succ,List.map_append]
     congr 1
     ·refine List.map_congr_left λk hk=>?_
      have:=List.mem_range.1 hk
      show ptr (if k=i then b else ba k)=ptr (ba k)
      rw[if_neg (by omega)]
     ·simp
    rw[e8];exact h
   ·unfold stars
    have e9:stars (λk=>BkP (if k=i then b else ba k) {next:=1,l:=[]}) i=stars (λk=>BkP (ba k) {next:=1,l:=[]}) i:=stars_congr _ λk hk=>by
     show BkP (if k=i then b else ba k) _=BkP (ba k) _
     rw[if_neg (by omega)]
    have e10:BkP ((λk=>if k=i then b else ba k) i) {next:=1,l:=[]} = BkP b {next:=1,l:=[]}:=by simp
    show (stars (λk=>BkP (if k=i then b else ba k) {next:=1,l:=[]}) i•BkP ((λk=>if k=i then b else ba k) i) {next:=1,l:=[]}) _
    rw[e9,e10]
    exact h
   ·rw[<-hD];exact mono_sep _ _
  exact key _ _ λg2 s2 ba2 H2=>⟨rfl,G-(i+1),by omega,i+1,s2,ba2,rfl,rfl,by omega,H2⟩
 ·have e:i=G:=by omega
  subst e
  unfold b19_6
  simp only[vBin_lss,dIf_b]
  refine⟨λe=>absurd e (by simp),λ_=>?_⟩
  intro r hr
  simp only[hr]
  rw[<-hD]at H
  have e9:pt x (.cells (hc0 (ptr l) (.int .i64 c) (.int .i64 i) s ss i) 85 (0,0))•OS 93 1 s i (ptrsL ba i)•stars (λk=>BkP (ba k) {next:=1,l:=[]}) i•(pt ss (.cells (rep #[.pointer none,.int .i64 0] (i*2)) 98 (0,0))•LedP l lb (newLed c i)•C0) =
    OS 93 1 s i (ptrsL ba i)•(pt x (.cells (hc0 (ptr l) (.int .i64 c) (.int .i64 i) s ss i) 85 (0,0))•stars (λk=>BkP (ba k) {next:=1,l:=[]}) i•(pt ss (.cells (rep #[.pointer none,.int .i64 0] (i*2)) 98 (0,0))•LedP l lb (newLed c i)•C0)):=by ac_rfl
  rw[e9]at H
  obtain⟨bs,cb,bcap,rfl,hcap,hcb,H⟩:=os_pt H (by omega)
  have eG:(newHs c i).G=i:=by unfold Hs.G newHs newLed;simp
  refine hR g' x {l:=l,lb:=lb,bs:=bs,bcap:=bcap,cb:=cb,ss:=ss,ba:=ba,aa:=λ_=>0,ab:=λ_=>0} (λC hC=>?_) ⟨λk hk=>?_,by rw[eG];exact hcap⟩
  ·unfold HsN
   have e1:hsO {l:=l,lb:=lb,bs:=bs,bcap:=bcap,cb:=cb,ss:=ss,ba:=ba,aa:=λ_=>0,ab:=λ_=>0} (newHs c i) = .cells (hc0 (ptr l) (.int .i64 c) (.int .i64 i) (.slice (some ⟨bs,0,none⟩) i bcap) ss i) 85 (0,0):=by
    unfold hsO hsHd hc0
    rw[eG]
    have:((newHs c i).L.n:Int)=c:=by show ((c.toNat:Nat):Int)=c;omega
    rw[this];rfl
   have e2:saO {l:=l,lb:=lb,bs:=bs,bcap:=bcap,cb:=cb,ss:=ss,ba:=ba,aa:=λ_=>0,ab:=λ_=>0} (newHs c i) = .cells (rep #[.pointer none,.int .i64 0] (i*2)) 98 (0,0):=by
    unfold saO
    rw[<-saleC_new (S:=newHs c i) (λ_=>rfl),eG]
   rw[e1,e2,eG]
   have e3:stars (auP {l:=l,lb:=lb,bs:=bs,bcap:=bcap,cb:=cb,ss:=ss,ba:=ba,aa:=λ_=>0,ab:=λ_=>0} (newHs c i)) i=emp:=stars_emp i λk _=>rfl
   rw[e3,sep_emp_eq (mono_stars _ _)]
   have e4:(pt x (.cells (hc0 (ptr l) (.int .i64 c) (.int .i64 i) (.slice (some ⟨bs,0,none⟩) i bcap) ss i) 85 (0,0))•LedP l lb (newHs c i).L•pt bs (boO {l:=l,lb:=lb,bs:=bs,bcap:=bcap,cb:=cb,ss:=ss,ba:=ba,aa:=λ_=>0,ab:=λ_=>0})•pt ss (.cells (rep #[.pointer none,.int .i64 0] (i*2)) 98 (0,0))•stars (bkP {l:=l,lb:=lb,bs:=bs,bcap:=bcap,cb:=cb,ss:=ss,ba:=ba,aa:=λ_=>0,ab:=λ_=>0} (newHs c i)) i)•C =
     pt bs (boO {l:=l,lb:=lb,bs:=bs,bcap:=bcap,cb:=cb,ss:=ss,ba:=ba,aa:=λ_=>0,ab:=λ_=>0})•(pt x (.cells (hc0 (ptr l) (.int .i64 c) (.int .i64 i) (.slice (some ⟨bs,0,none⟩) i bcap) ss i) 85 (0,0))•stars (bkP {l:=l,lb:=lb,bs:=bs,bcap:=bcap,cb:=cb,ss:=ss,ba:=ba,aa:=λ_=>0,ab:=λ_=>0} (newHs c i)) i•(pt ss (.cells (rep #[.pointer none,.int .i64 0] (i*2)) 98 (0,0))•LedP l lb (newHs c i).L•C)):=by ac_rfl
   rw[e4]
   refine sep_mono H (λ_ h=>h) λ_ h=>sep_mono h (λ_ h=>h) λ_ h=>sep_mono h (λ_ h=>h) λ_ h=>sep_mono h (λ_ h=>h) λ_ h=>sep_mono h (λ_ h=>h) λg2 h=>?_
   rw[hC0 _ h];exact hC
  ·rw[eG]at hk
   have:=hcb k (by omega)
   rw[this]
   unfold ptrsL
   rw[List.getElem?_map,List.getElem?_range hk]
   rfl
end
end Go.Pw
set_option linter.unusedSimpArgs false
set_option linter.unusedVariables false
namespace Go.Pw
open Go Go.Proofs
structure Ask where
 who:Int
 stamp:Int
 op:OpV
 raw:Bool
 t:ByteArray
def Ask.a (a:Ask):Array Value:=#[.int .i64 a.who,.int .i64 a.stamp,.int .i64 a.op.kind,.int .i64 a.op.good,.int .i64 a.op.am,.int .i64 a.op.side,.int .i64 a.op.id,.float .f64 a.op.price,.bool a.raw,.string a.t]
abbrev Ask.v (a:Ask):Value:=.agg a.a
def Ask.text (a:Ask):ByteArray:=if a.raw then a.t else opB a.op
def Ask.ok (a:Ask):Prop:=a.op.price<18446744073709551616
def AsksAt (h:PH) (v:Value) (l:List Ask):Prop:=
 ∃p cap,v = .slice p l.length cap/\l.length<=cap/\∀i a,l[i]?=some a->∃b off c e fr,p=some ⟨b,off,none⟩/\h b=some (.cells c e fr)/\off+i*10+10<=c.size/\c.extract (off+i*10) (off+i*10+10)=a.a
theorem AsksAt.sub {h g:PH} {v:Value} {l:List Ask} (hv:AsksAt h v l) (hs:Sub h g):AsksAt g v l:=by
 obtain⟨p,cap,rfl,hc,hel⟩:=hv
 refine⟨p,cap,rfl,hc,λi a ha=>?_⟩
 obtain⟨b,off,c,e,fr,q1,q2,q3⟩:=hel i a ha
 exact⟨b,off,c,e,fr,q1,hs _ _ q2,q3⟩
abbrev Own (h:PH):PH->Prop:=λg=>Sub h g
theorem Own.mono {h:PH}:Mono (Own h):=λa b hs H=>H.trans hs
def runH (S:Hs) (l:List Ask):Hs:=l.foldl (λS a=>(doH S a.who a.stamp a.text).S) S
theorem runH_ok:∀(l:List Ask) {S:Hs},S.ok->(runH S l).ok/\(runH S l).L.goods=S.L.goods/\(runH S l).L.n=S.L.n
 | [],S,h=>⟨h,rfl,rfl⟩
 | a::l,S,h=>by
  obtain⟨d1,d2,d3⟩:=doH_ok h a.who a.stamp a.text
  obtain⟨r1,r2,r3⟩:=runH_ok l d1
  exact⟨r1,r2.trans d2,r3.trans d3⟩
theorem runH_take {S:Hs} {l:List Ask} {i:Nat} {a:Ask} (ha:l[i]?=some a):runH S (l.take (i+1))=(doH (runH S (l.take i)) a.who a.stamp a.text).S:=by
 unfold runH
 rw[List.take_add_one,ha,List.foldl_append];rfl
section
variable {h g:PH} {R:AEnd->PH->Prop} {x:Nat} {nm:Nm} {S:Hs} {C:PH->Prop}
theorem text_ok2 {a:Ask} (ha:a.ok) (hR:R (.ret (.string a.text)) h):ACalls Tryz.prog 13 #[a.v] h R:=by
 refine ACalls.drop (call13 ?_)
 unfold sh13
 rw[show Value.cells a.v=a.a from rfl]
 refine vNew_gen λc G hc hs hcc=>?_
 simp only[vFA_p,Nat.zero_add]
 rw[vLoad_1 hcc (v:=.bool a.raw) rfl,dIf_b]
 unfold Ask.text at hR
 refine⟨λhr=>?_,λhr=>?_⟩
 ·rw[if_pos hr]at hR
  rw[vLoad_1 hcc (v:=.string a.t) rfl]
  exact⟨h,hs,hR⟩
 ·rw[if_neg (by simp[hr])]at hR
  rw[vLoad_n hcc (off:=2) (n:=6) (by show 2+6<=10;omega),show a.a.extract 2 (2+6)=a.op.a from rfl]
  refine opText_ok ha ?_
  simp only[AEnd.elim,vExt_20,vExt_21]
  exact⟨h,hs,hR⟩
theorem h_doC {who stamp:Int} {op:ByteArray} (H:(HsN x nm S•C) h) (hn:nm.ok S) (hk:S.ok)
  (hR:∀g nm',(HsN x nm' (doH S who stamp op).S•C) g->nm'.ok (doH S who stamp op).S->R (.ret (.tuple #[.string (doH S who stamp op).t,.int .i64 (doH S who stamp op).e])) g) :
  ACalls Tryz.prog 12 #[ptr x,.int .i64 who,.int .i64 stamp,.string op] h R:=by
 refine ACalls.sep (Q:=λe g=>e = .ret (.tuple #[.string (doH S who stamp op).t,.int .i64 (doH S who stamp op).e])/\∃nm',nm'.ok (doH S who stamp op).S/\HsN x nm' (doH S who stamp op).S g) H (λg Hg=>h_do Hg hn hk λg' nm' Hg' hn'=>⟨rfl,nm',hn',Hg'⟩) λe g Hq=>?_
 obtain⟨he,Hq2⟩:=sep_and.1 Hq
 obtain⟨nm',Hq3⟩:=sep_ex.1 Hq2
 obtain⟨hn',Hq4⟩:=sep_and.1 Hq3
 rw[he]
 exact hR g nm' Hq4 hn'
theorem h_recordsC (H:(HsN x nm S•C) h) (hn:nm.ok S) (hk:S.ok) (hR:∀g s,(HsN x nm S•OS 42 2 s (hsRecs S).length (recC (hsRecs S))•C) g->R (.ret s) g):ACalls Tryz.prog 14 #[ptr x] h R:=by
 refine ACalls.sep (Q:=λe g=>∃s,e = .ret s/\(OS 42 2 s (hsRecs S).length (recC (hsRecs S))•HsN x nm S) g) H (λg Hg=>h_records Hg hn hk λg' s ob=>⟨s,rfl,ob_os Hg ob⟩) λe g Hq=>?_
 obtain⟨s,Hq2⟩:=sep_ex.1 Hq
 obtain⟨he,Hq⟩:=sep_and.1 Hq2
 rw[he]
 refine hR g s ?_
 have e:(OS 42 2 s (hsRecs S).length (recC (hsRecs S))•HsN x nm S)•C=HsN x nm S•OS 42 2 s (hsRecs S).length (recC (hsRecs S))•C:=by ac_rfl
 rw[e]at Hq
 exact Hq
theorem recs_os {l:List Rec} {s:Value} (H:OS 42 2 s l.length (recC l) h):RecsAt h s l:=by
 obtain⟨h0,_,ob⟩:=os_ob (C:=emp) (sep_emp H)
 exact recs_of ob
set_option maxRecDepth 10000 in
theorem hbegun_ok {v:Value} {l:List Ask} (hv:AsksAt h v l) (hl:∀a∈l,a.ok)
  (hR:∀g x nm,(HsN x nm (runH (newHs 3 2) (l.take 60))•Own h) g->nm.ok (runH (newHs 3 2) (l.take 60))->R (.ret (ptr x)) g):ACalls Tryz.prog 11 #[v] h R:=by
 refine call11 ?_
 unfold sh11
 obtain⟨p,cap,rfl,_,hel⟩:=hv
 refine h_new (c:=3) (g:=2) (by omega) (by omega) (by omega) (by omega) λg x nm H0 hn0=>?_
 have H:=H0 (Own h) (Sub.refl h)
 simp only[AEnd.elim,vExt_20,vExt_21]
 rw[vBin_pnil Tryz.underlying28,dIf_b]
 refine⟨λe=>absurd e (by simp),λ_=>?_⟩
 have hk0:(newHs 3 2).ok:=newHs_ok (by omega) (by omega) (by omega) (by omega)
 generalize newHs 3 2=S0 at *
 refine lf_intro (λm s' g'=>∃(i:Nat) (nm:Nm),s' = .int .i64 i/\m=l.length-i/\i<=l.length/\i<=60/\(HsN x nm (runH S0 (l.take i))•Own h) g'/\nm.ok (runH S0 (l.take i))) l.length ⟨0,nm,rfl,rfl,by omega,by omega,H,hn0⟩ ?_
 rintro m s' g' ⟨i,nm,rfl,rfl,hi,hi60,H,hn⟩
 by_cases hil:i<l.length/\i<60
 ·obtain⟨hil,h60⟩:=hil
  obtain⟨a,ha⟩:∃a,l[i]?=some a:=⟨_,List.getElem?_eq_getElem hil⟩
  obtain⟨b',off,c,e,fr,rfl,hc,hsz,hex⟩:=hel i a ha
  have hao:=hl a (List.mem_of_getElem? ha)
  have hstep:=runH_take (S:=S0) ha
  have hk:=(runH_ok (l.take i) hk0).1
  generalize runH S0 (l.take i)=S at *
  have key:∀(kn:(Value×Value)->Value->PH->Prop) (x0:Value->PH->Prop),(∀g2 nm2,(HsN x nm2 (doH S a.who a.stamp a.text).S•Own h) g2->nm2.ok (doH S a.who a.stamp a.text).S->kn (.slice (some ⟨b',off,none⟩) l.length cap,ptr x) (.int .i64 ((i:Int)+1)) g2) ->
    b11_5 (λc h=>R (.pan c) h) x0 (.slice (some ⟨b',off,none⟩) l.length cap,ptr x) kn (.int .i64 i) g':=by
   intro kn x0 hkn
   unfold b11_5
   have hlt:(i:Int)<(l.length:Int):=by omega
   have hlt60:(i:Int)<60:=by omega
   have hcg:g' b'=some (.cells c e fr):=(sep_r Own.mono H) _ _ hc
   have ex:∀j,j<10->c[off+i*10+j]?=a.a[j]?:=λj hj=>by
    rw[<-hex,Array.getElem?_extract,if_pos (by omega)]
   simp only[vLenS_s,vBin_lss,hlt,decide_true,boolOf_b,gq_b,true_implies,ne_eq,not_true_eq_false,false_implies,and_true,hlt60,vPick_b,cond_true,dIf_b,vIxS_p,vFA_p]
   refine⟨⟨by omega,trivial,?_⟩,λe=>absurd e (by simp)⟩
   have e0:off+(i:Int).toNat*10=off+i*10:=by omega
   rw[e0,Nat.add_zero]
   have l0:∀K,vLoad none (.pointer (some ⟨b',off+i*10,none⟩)) g' K↔K (.int .i64 a.who):=λK=>vLoad_1 hcg ((ex 0 (by omega)).trans rfl)
   have l1:∀K,vLoad none (.pointer (some ⟨b',off+i*10+1,none⟩)) g' K↔K (.int .i64 a.stamp):=λK=>vLoad_1 hcg ((ex 1 (by omega)).trans rfl)
   rw[l0]
   refine⟨by omega,trivial,?_⟩
   rw[l1]
   refine⟨by omega,trivial,?_⟩
   rw[vLoad_n hcg (by omega),hex]
   refine text_ok2 hao ?_
   simp only[AEnd.elim]
   rw[l0,l1]
   refine⟨rfl,rfl,?_⟩
   refine h_doC H hn hk λg2 nm2 H2 hn2=>?_
   simp only[AEnd.elim,vBin_add]
   rw[w64 (by omega) (by omega)]
   exact hkn g2 nm2 H2 hn2
  exact key _ _ λg2 nm2 H2 hn2=>⟨rfl,l.length-(i+1),by omega,i+1,nm2,rfl,rfl,by omega,by omega,by rw[hstep];exact H2,by rw[hstep];exact hn2⟩
 ·have out:∀(kn:(Value×Value)->Value->PH->Prop) (x0:Value->PH->Prop),x0 (ptr x) g'->b11_5 (λc h=>R (.pan c) h) x0 (.slice p l.length cap,ptr x) kn (.int .i64 i) g':=by
   intro kn x0 hx0
   unfold b11_5
   by_cases hil2:i<l.length
   ·have h60:¬(i:Int)<60:=by omega
    simp[hil2,h60]
    exact hx0
   ·simp[hil2]
    exact hx0
  refine out _ _ ?_
  intro r hr
  rw[show r 3=_ from hr]
  have e:l.take i=l.take 60:=by
   rcases Nat.lt_or_ge i 60 with h1 | h1
   ·rw[List.take_of_length_le (by omega),List.take_of_length_le (by omega)]
   ·have:i=60:=by omega
    rw[this]
  rw[e]at H hn
  exact hR _ _ _ H hn
end
end Go.Pw
set_option linter.unusedSimpArgs false
set_option linter.unusedVariables false
namespace Go.Pw
open Go Go.Proofs
section
variable {h g:PH} {R:AEnd->PH->Prop} {x:Nat} {nm:Nm} {S:Hs} {C:PH->Prop} {i:Nat}
theorem h_account (H:HsN x nm S h) (hi:i<S.L.n) (hR:R (.ret (.tuple #[.agg (acctCells S.L i),.bool true])) h):ACalls Tryz.prog 23 #[ptr x,.int .i64 i] h R:=by
 refine ACalls.drop (call23 ?_)
 unfold sh23
 refine vNew_i λc hc=>?_
 have H1:=HsN.mono _ _ (sub_ins (.cells #[.int .i64 0,.int .i64 0,.int .i64 0,.int .i64 0,.int .i64 0,.int .i64 0,.int .i64 0,.int .i64 0,.int .i64 0,.int .i64 0] 61 (0,0)) hc) H
 rw[vBin_pnil Tryz.underlying28,dIf_b]
 refine⟨λe=>absurd e (by simp),λ_=>?_⟩
 simp only[vNil_p,vFA_p,Nat.zero_add,H1.f.lx.ld]
 refine acct_ok H1.f.hl hi ?_
 simp only[AEnd.elim,vExt_20,vExt_21]
 refine vStore_to (cs:=acctCells S.L i) (ins_eq _ _ _) (by rfl) (by rfl) (by rfl) ?_
 rw[ins_ins,vLoad_n (ins_eq _ _ _) (by show 0+10<=10;omega)]
 rw[show (acctCells S.L i).extract 0 (0+10)=acctCells S.L i from rfl]
 exact⟨h,sub_ins _ hc,hR⟩
theorem h_now (H:HsN x nm S h) (hR:R (.ret (.int .i64 S.now)) h):ACalls Tryz.prog 26 #[ptr x] h R:=by
 refine call26 ?_
 unfold sh26
 rw[vBin_pnil Tryz.underlying28,dIf_b]
 refine⟨λe=>absurd e (by simp),λ_=>?_⟩
 simp only[vNil_p,vFA_p,Nat.zero_add]
 rw[vLoad_1 H.f.hx (show (hsHd nm S)[3]?=some (.int .i64 S.now)from rfl)]
 exact hR
end
end Go.Pw
set_option linter.unusedSimpArgs false
set_option linter.unusedVariables false
namespace Go.Pw
open Go Go.Proofs
def awOp (k g m d i:Int) (p:Nat):OpV:={kind:=k,good:=g,am:=m,side:=d,id:=i,price:=p}
def aw0H:Hs:=newHs 2 1
def q1:OpV:=awOp 2 0 6400 0 0 0
def q2:OpV:=awOp 4 0 5 0 0 0
def q3:OpV:=awOp 8 0 5 0 1 4611686018427387904
def q4:OpV:=awOp 8 0 3 1 1 4609434218613702656
def q5:OpV:=awOp 1 0 0 0 0 0
theorem enc_6400:encN 6400 = [128,50]:=by rw[encN_big (by omega),encN_small (by omega)];rfl
theorem enc0:encN 0 = [0]:=encN_small (by omega)
theorem enc1:encN 1 = [1]:=encN_small (by omega)
theorem ob1:opB q1=⟨#[2,0,128,50,0,0,0,0,0,0,0,0,0,0]⟩:=by
 have:¬∃n∈q1.nums,n<0\/9007199254740992<n:=by decide
 unfold opB
 rw[if_neg this]
 have e:encL q1.nums = [2,0,128,50,0,0]:=by
  show encN 2++(encN 0++(encN 6400++(encN 0++(encN 0 ++ []))))=_
  rw[enc_6400,enc0,encN_small (by omega)];rfl
 rw[e];rfl
theorem of1:ofOpO (opB q1)=(q1,0):=by rw[ob1];kernel_rfl
def aw1H:Hs:=(actH aw0H 0 q1).S.setL (markL (actH aw0H 0 q1).S.L 0 1 ⟨#[0,0]⟩).2
def aw2H:Hs:=(actH aw1H 1 q2).S.setL (markL (actH aw1H 1 q2).S.L 1 2 ⟨#[0,0]⟩).2
def aw3H:Hs:=(actH aw2H 0 q3).S.setL (markL (actH aw2H 0 q3).S.L 0 3 ⟨#[0,0]⟩).2
def aw4H:Hs:=(actH aw3H 1 q4).S.setL (markL (actH aw3H 1 q4).S.L 1 4 ⟨#[0,0]⟩).2
def aw5H:Hs:=(actH aw4H 0 q5).S.setL (markL (actH aw4H 0 q5).S.L 0 5 ⟨#[0,1]⟩).2
theorem ae1:(actH aw0H 0 q1).e=0:=by kernel_rfl
theorem ae2:(actH aw1H 1 q2).e=0:=by kernel_rfl
theorem ae3:(actH aw2H 0 q3).e=0:=by kernel_rfl
theorem ae4:(actH aw3H 1 q4).e=0:=by kernel_rfl
theorem ae5:(actH aw4H 0 q5).e=0:=by kernel_rfl
theorem an5:(actH aw4H 0 q5).n=1:=by kernel_rfl
theorem an1:(actH aw0H 0 q1).n=0:=by kernel_rfl
theorem an2:(actH aw1H 1 q2).n=0:=by kernel_rfl
theorem an3:(actH aw2H 0 q3).n=0:=by kernel_rfl
theorem an4:(actH aw3H 1 q4).n=0:=by kernel_rfl
theorem as0:aw0H.L.f 0 10=0:=by kernel_rfl
theorem as1:aw1H.L.f 1 10=0:=by kernel_rfl
theorem as2:aw2H.L.f 0 10=1:=by kernel_rfl
theorem as3:aw3H.L.f 1 10=2:=by kernel_rfl
theorem as4:aw4H.L.f 0 10=3:=by kernel_rfl
theorem av1:aw5H.now=1:=by kernel_rfl
theorem av2:aw5H.L.f 0 2=3:=by kernel_rfl
theorem av3:aw5H.L.f 0 0=6112:=by kernel_rfl
theorem av4:aw5H.L.f 0 1=256:=by kernel_rfl
theorem av5:aw5H.L.f 1 0=288:=by kernel_rfl
theorem av6:aw5H.L.f 1 6=0:=by kernel_rfl
end Go.Pw
set_option linter.unusedSimpArgs false
set_option linter.unusedVariables false
namespace Go.Pw
open Go Go.Proofs
theorem encL_small:∀{l:List Int},(∀n∈l,0<=n/\n<128)->encL l=l.map λn=>UInt8.ofNat n.toNat
 | [],_=>rfl
 | n::l,h=>by
  have h1:=h n (by simp)
  have h2:=encL_small (l:=l) λx hx=>h x (by simp[hx])
  show encN n.toNat++encL l=_
  rw[h2,encN_small (by omega)];rfl
theorem opB_small {o:OpV} (h:∀n∈o.nums,0<=n/\n<128):opB o=⟨(o.nums.map (λn=>UInt8.ofNat n.toNat)++le8 o.price 8).toArray⟩:=by
 unfold opB
 rw[if_neg (by rintro⟨n,hn,h1⟩;have:=h n hn;omega),encL_small h]
theorem of2:ofOpO (opB q2)=(q2,0):=by rw[opB_small (by decide)];kernel_rfl
theorem of3:ofOpO (opB q3)=(q3,0):=by rw[opB_small (by decide)];kernel_rfl
theorem of4:ofOpO (opB q4)=(q4,0):=by rw[opB_small (by decide)];kernel_rfl
theorem of5:ofOpO (opB q5)=(q5,0):=by rw[opB_small (by decide)];kernel_rfl
def ask (w:Int) (q:OpV):Ask:={who:=w,stamp:=0,op:=q,raw:=false,t:=⟨#[]⟩}
def awL:List Ask:=[ask 0 q1,ask 1 q2,ask 0 q3,ask 1 q4,ask 0 q5]
def awS:Nat->Hs
 | 0=>aw0H
 | 1=>aw1H
 | 2=>aw2H
 | 3=>aw3H
 | 4=>aw4H
 | _=>aw5H
def awT:Nat->ByteArray
 | 4=>⟨#[0,1]⟩
 | _=>⟨#[0,0]⟩
theorem do_step {S:Hs} {w:Nat} {stamp:Int} {op:ByteArray} {o:OpV} {n:Nat} {c:UInt8} (hw:w<S.L.n) (hs:1<=stamp/\stamp<=1099511627776) (hl:S.L.f w 10<stamp) (ho:ofOpO op=(o,0)) (he:(actH S w o).e=0) (hn:(actH S w o).n=n) (hc:encN n = [c]) :
  doH S w stamp op=⟨⟨#[0,c]⟩,0,(actH S w o).S.setL (markL (actH S w o).S.L w stamp ⟨#[0,c]⟩).2⟩:=by
 unfold doH
 rw[if_neg (by omega),if_neg (by omega),if_neg (by rw[Int.toNat_natCast];omega)]
 simp only[Int.toNat_natCast]
 have hd:didH S w op=actH S w o:=by unfold didH;rw[ho];simp
 rw[hd]
 have hr:repB (actH S w o).e (actH S w o).n=⟨#[0,c]⟩:=by
  unfold repB
  rw[he,hn,Int.toNat_natCast,hc,show (0:Int).toNat=0 from rfl,enc0]
  rfl
 unfold markH
 rw[hr]
theorem aw_do {i:Nat} {a:Ask} (ha:awL[i]?=some a):doH (awS i) a.who ((i:Int)+1) a.text=⟨awT i,0,awS (i+1)⟩/\a.ok:=by
 have tx:∀w q,(ask w q).text=opB q:=λw q=>by simp[Ask.text,ask]
 match i,ha with
 | 0,ha=>cases ha;rw[tx];exact⟨do_step (w:=0) (n:=0) (by decide) (by decide) (by rw[show (awS 0).L.f 0 10=0 from as0];decide) of1 ae1 an1 enc0,by unfold Ask.ok;decide⟩
 | 1,ha=>cases ha;rw[tx];exact⟨do_step (w:=1) (n:=0) (by decide) (by decide) (by rw[show (awS 1).L.f 1 10=0 from as1];decide) of2 ae2 an2 enc0,by unfold Ask.ok;decide⟩
 | 2,ha=>cases ha;rw[tx];exact⟨do_step (w:=0) (n:=0) (by decide) (by decide) (by rw[show (awS 2).L.f 0 10=1 from as2];decide) of3 ae3 an3 enc0,by unfold Ask.ok;decide⟩
 | 3,ha=>cases ha;rw[tx];exact⟨do_step (w:=1) (n:=0) (by decide) (by decide) (by rw[show (awS 3).L.f 1 10=2 from as3];decide) of4 ae4 an4 enc0,by unfold Ask.ok;decide⟩
 | 4,ha=>cases ha;rw[tx];exact⟨do_step (w:=0) (n:=1) (by decide) (by decide) (by rw[show (awS 4).L.f 0 10=3 from as4];decide) of5 ae5 an5 enc1,by unfold Ask.ok;decide⟩
 | i+5,ha=>simp[awL]at ha
def z10:Array Value:=#[.int .i64 0,.int .i64 0,.int .i64 0,.int .i64 0,.int .i64 0,.int .i64 0,.int .i64 0,.float .f64 0,.bool false,.string ⟨#[]⟩]
def awC:Array Value:=(awL.flatMap λa=>a.a.toList).toArray
theorem fill_ask (w:Int) (q:OpV):Instr.fill (λi=>[(0,1),(1,1),(2,6),(8,1),(9,1)][i]?) z10 [(0,.int .i64 w),(2,.agg q.a)]=some (ask w q).a:=by kernel_rfl
theorem fill_awL:Instr.fill (λi=>some (i*10,10)) (rep z10 (5*10)) [(0,.agg (ask 0 q1).a),(1,.agg (ask 1 q2).a),(2,.agg (ask 0 q3).a),(3,.agg (ask 1 q4).a),(4,.agg (ask 0 q5).a)]=some awC:=by kernel_rfl
theorem aex0:awC.extract (0*10) (0*10+10)=(ask 0 q1).a:=by kernel_rfl
theorem aex1:awC.extract (1*10) (1*10+10)=(ask 1 q2).a:=by kernel_rfl
theorem aex2:awC.extract (2*10) (2*10+10)=(ask 0 q3).a:=by kernel_rfl
theorem aex3:awC.extract (3*10) (3*10+10)=(ask 1 q4).a:=by kernel_rfl
theorem aex4:awC.extract (4*10) (4*10+10)=(ask 0 q5).a:=by kernel_rfl
theorem awC_ext {i:Nat} {a:Ask} (ha:awL[i]?=some a):awC.extract (i*10) (i*10+10)=a.a:=by
 match i,ha with
 | 0,ha=>cases ha;exact aex0
 | 1,ha=>cases ha;exact aex1
 | 2,ha=>cases ha;exact aex2
 | 3,ha=>cases ha;exact aex3
 | 4,ha=>cases ha;exact aex4
 | i+5,ha=>simp[awL]at ha
section
variable {h g:PH} {R:AEnd->PH->Prop}
set_option maxRecDepth 10000 in
theorem hawake_ok (hR:R (.ret (.bool true)) h):ACalls Tryz.prog 16 #[] h R:=by
 refine ACalls.drop (call16 ?_)
 unfold sh16
 refine h_new (c:=2) (g:=1) (by omega) (by omega) (by omega) (by omega) λg x nm H0 hn0=>?_
 have H:=H0 (Own h) (Sub.refl h)
 clear H0
 simp only[AEnd.elim,vExt_20,vExt_21,vBin_neq,decide_true,Bool.not_true,boolOf_b,gq_b,true_implies,ne_eq,not_true_eq_false,false_implies,and_true]
 rw[vBin_pnil Tryz.underlying28]
 simp only[vPick_b,cond_false,dIf_b]
 refine⟨λe=>absurd e (by simp),λ_=>?_⟩
 refine⟨q1.a,by rfl,(ask 0 q1).a,fill_ask 0 q1,q2.a,by rfl,(ask 1 q2).a,fill_ask 1 q2,q3.a,by rfl,(ask 0 q3).a,fill_ask 0 q3,q4.a,by rfl,(ask 1 q4).a,fill_ask 1 q4,q5.a,by rfl,(ask 0 q5).a,fill_ask 0 q5,?_⟩
 refine⟨by omega,awC,fill_awL,λd hd=>?_⟩
 have H1:(pt d (.cells awC 27 (0,0))•HsN x nm (awS 0)•Own h) (ins g d (.cells awC 27 (0,0))):=pt_new hd H
 have H2:(HsN x nm (awS 0)•pt d (.cells awC 27 (0,0))•Own h) (ins g d (.cells awC 27 (0,0))):=by rw[sep_lc];exact H1
 clear H1
 revert H2
 generalize ins g d (.cells awC 27 (0,0))=g1
 intro H2
 have hk0:∀i,(awS i).ok:=by
  have k0:(awS 0).ok:=newHs_ok (by omega) (by omega) (by omega) (by omega)
  have st:∀i,i<5->(awS i).ok->(awS (i+1)).ok:=λi hi hk=>by
   have hl:i<awL.length:=hi
   have:=(aw_do (List.getElem?_eq_getElem hl)).1
   have h1:=(doH_ok hk (awL[i]'hl).who ((i:Int)+1) (awL[i]'hl).text).1
   rw[this]at h1
   exact h1
  have k1:=st 0 (by omega) k0
  have k2:=st 1 (by omega) k1
  have k3:=st 2 (by omega) k2
  have k4:=st 3 (by omega) k3
  have k5:=st 4 (by omega) k4
  intro i
  match i with
  | 0=>exact k0
  | 1=>exact k1
  | 2=>exact k2
  | 3=>exact k3
  | 4=>exact k4
  | i+5=>exact k5
 refine lf_intro (λm s' g'=>∃(i:Nat) (nm:Nm),s'=(.bool false,.int .i64 i)/\m=5-i/\i<=5/\(HsN x nm (awS i)•pt d (.cells awC 27 (0,0))•Own h) g'/\nm.ok (awS i)) 5 ⟨0,nm,rfl,rfl,by omega,H2,hn0⟩ ?_
 clear H2 hn0 H hd
 rintro m s' g' ⟨i,nm,rfl,rfl,hi,H,hn⟩
 by_cases hil:i<5
 ·have hl:i<awL.length:=hil
  have ha:awL[i]?=some awL[i]:=List.getElem?_eq_getElem hl
  generalize awL[i]=a at ha
  obtain⟨hdo,hao⟩:=aw_do ha
  have hex:=awC_ext ha
  have hcc:=pt_get (sep_r (mono_sep _ _) H)
  have hsz:awC.size=50:=by kernel_rfl
  have ex:∀j,j<10->awC[i*10+j]?=a.a[j]?:=λj hj=>by
   rw[<-hex,Array.getElem?_extract,if_pos (by omega)]
  have hk:=hk0 i
  have key:∀(kn:(Value×Value)->(Value×Value)->PH->Prop) x0 xr,(∀g2 nm2,(HsN x nm2 (awS (i+1))•pt d (.cells awC 27 (0,0))•Own h) g2->nm2.ok (awS (i+1))->kn (ptr x,.slice (some ⟨d,0,none⟩) 5 5) (.bool false,.int .i64 ((i:Int)+1)) g2) ->
    b16_6 (λc h'=>∃g,Sub g h'/\R (.pan c) g) x0 xr (ptr x,.slice (some ⟨d,0,none⟩) 5 5) kn (.bool false,.int .i64 i) g':=by
   intro kn x0 xr hkn
   unfold b16_6
   have hlt:(i:Int)<((5:Nat):Int):=by omega
   simp only[vLenS_s,vBin_lss,hlt,decide_true,dIf_b,vIxS_p,vFA_p]
   refine⟨λ_=>⟨by omega,by omega,?_⟩,λe=>absurd e (by simp)⟩
   have e0:0+(i:Int).toNat*10=i*10:=by omega
   rw[e0,Nat.add_zero]
   have l0:∀K,vLoad none (.pointer (some ⟨d,i*10,none⟩)) g' K↔K (.int .i64 a.who):=λK=>vLoad_1 hcc ((ex 0 (by omega)).trans rfl)
   rw[l0,vBin_add,w64 (by omega) (by omega)]
   refine⟨by omega,by omega,?_⟩
   rw[vLoad_n hcc (by omega),hex]
   refine text_ok2 hao ?_
   simp only[AEnd.elim]
   rw[l0]
   refine⟨rfl,?_⟩
   refine h_doC H hn hk ?_
   rw[hdo]
   intro g2 nm2 H2 hn2
   have hT:awT i=⟨#[0,0]⟩\/awT i=⟨#[0,1]⟩:=by
    match i with
    | 0=>exact .inl rfl
    | 1=>exact .inl rfl
    | 2=>exact .inl rfl
    | 3=>exact .inl rfl
    | 4=>exact .inr rfl
    | i+5=>exact .inl rfl
   obtain⟨c,hc⟩:∃c:UInt8,awT i=⟨#[0,c]⟩:=by rcases hT with h | h <;> exact⟨_,h⟩
   simp only[AEnd.elim,vExt_20,vExt_21,vBin_neq,decide_true,Bool.not_true,boolOf_b,gq_b,true_implies,ne_eq,not_true_eq_false,false_implies,and_true,vLenStr_s,vPick_b,cond_false]
   rw[hc]
   have hsz2:((ByteArray.size ⟨#[0,c]⟩:Nat):Int)=2:=rfl
   rw[hsz2]
   simp only[decide_true,Bool.not_true,boolOf_b,gq_b,true_implies,ne_eq,not_true_eq_false,false_implies,and_true,vPick_b,cond_false]
   refine⟨⟨#[0,c]⟩,_,_,0,rfl,rfl,by omega,rfl,?_⟩
   refine (vBin_neq 5 .u8 0 0).2 ?_
   simp only[decide_true,Bool.not_true,vPick_b,cond_false,dIf_b,vBin_add]
   refine⟨λe=>absurd e (by simp),λ_=>?_⟩
   rw[w64 (by omega) (by omega)]
   exact hkn g2 nm2 H2 hn2
  exact key _ _ _ λg2 nm2 H2 hn2=>⟨rfl,5-(i+1),by omega,i+1,nm2,rfl,rfl,by omega,H2,hn2⟩
 ·have e:i=5:=by omega
  subst e
  unfold b16_6
  simp only[vLenS_s,vBin_lss,dIf_b]
  refine⟨λe=>absurd e (by simp),λ_=>?_⟩
  intro r hr
  simp only[Prod.mk.injEq]at hr
  obtain⟨r0,r1⟩:=hr
  simp only[r0,r1]
  have hsub:Sub h g':=sep_r Own.mono (sep_r (mono_sep _ _) H)
  have HN:HsN x nm aw5H g':=sep_l HsN.mono H
  clear H
  have hn5:aw5H.L.n=2:=by kernel_rfl
  refine h_account (i:=0) HN (by omega) ?_
  simp only[AEnd.elim,vExt_20,vExt_21]
  refine vNew_i λc1 hc1=>?_
  refine vStore_to (cs:=acctCells aw5H.L 0) (ins_eq _ _ _) (by rfl) (by rfl) (by rfl) ?_
  rw[ins_ins]
  have s1:Sub g' (ins g' c1 (.cells (acctCells aw5H.L 0) 61 (0,0))):=sub_ins _ hc1
  have q1':ins g' c1 (.cells (acctCells aw5H.L 0) 61 (0,0)) c1=some (.cells (acctCells aw5H.L 0) 61 (0,0)):=ins_eq _ _ _
  revert s1 q1'
  generalize ins g' c1 (.cells (acctCells aw5H.L 0) 61 (0,0))=G1
  intro s1 k1
  have HN1:=HsN.mono _ _ s1 HN
  refine h_account (i:=1) HN1 (by omega) ?_
  simp only[AEnd.elim,vExt_20,vExt_21]
  refine vNew_i λc2 hc2=>?_
  refine vStore_to (cs:=acctCells aw5H.L 1) (ins_eq _ _ _) (by rfl) (by rfl) (by rfl) ?_
  rw[ins_ins]
  have s2:Sub G1 (ins G1 c2 (.cells (acctCells aw5H.L 1) 61 (0,0))):=sub_ins _ hc2
  have k2:ins G1 c2 (.cells (acctCells aw5H.L 1) 61 (0,0)) c2=some (.cells (acctCells aw5H.L 1) 61 (0,0)):=ins_eq _ _ _
  revert s2 k2
  generalize ins G1 c2 (.cells (acctCells aw5H.L 1) 61 (0,0))=G2
  intro s2 k2
  have k1':=s2 _ _ k1
  refine h_now (HsN.mono _ _ s2 HN1) ?_
  have ld:=λ{j:Nat} {v:Value} (hv:(acctCells aw5H.L 0)[j]?=some v) (K:Value->Prop)=>vLoad_1 (K:=K) k1' hv
  have ld2:=λ{j:Nat} {v:Value} (hv:(acctCells aw5H.L 1)[j]?=some v) (K:Value->Prop)=>vLoad_1 (K:=K) k2 hv
  have a0:=ld (j:=0) (v:=.int .i64 6112) (by show some (Value.int .i64 (aw5H.L.f 0 0))=_;rw[av3])
  have a1:=ld (j:=1) (v:=.int .i64 256) (by show some (Value.int .i64 (aw5H.L.f 0 1))=_;rw[av4])
  have a2:=ld (j:=2) (v:=.int .i64 3) (by show some (Value.int .i64 (aw5H.L.f 0 2))=_;rw[av2])
  have b0:=ld2 (j:=0) (v:=.int .i64 288) (by show some (Value.int .i64 (aw5H.L.f 1 0))=_;rw[av5])
  have b6:=ld2 (j:=6) (v:=.int .i64 0) (by show some (Value.int .i64 (aw5H.L.f 1 6))=_;rw[av6])
  rw[av1]
  simp[AEnd.elim,a0,a1,a2,b0,b6]
  exact⟨h,(hsub.trans s1).trans s2,hR⟩
end
end Go.Pw
set_option linter.unusedSimpArgs false
set_option linter.unusedVariables false
namespace Go.Pw
open Go Go.Proofs
section
variable {S:Hs} {who:Nat} {o:OpV} {i:Nat}
end
end Go.Pw
set_option linter.unusedSimpArgs false
set_option linter.unusedVariables false
namespace Go.Pw
open Go Go.Proofs
def buyW (i:Nat) (o:Ord):Int:=if o.own=i/\o.buys=true then o.pr*o.am else 0
def sellW (i:Nat) (o:Ord):Int:=if o.own=i/\o.buys=false then o.am else 0
def auW (S:Hs) (i g:Nat):Int:=match S.au g with | some p=>needA p.1 i | none=>0
def auK (S:Hs) (i g:Nat):Int:=match S.au g with | some p=>if p.2=i then p.1.sup else 0 | none=>0
def heldG (S:Hs) (i g:Nat):Int:=sumO (buyW i) (S.bk g).l+auW S i g
def lockG (S:Hs) (i g:Nat):Int:=sumO (sellW i) (S.bk g).l+auK S i g
def heldW (S:Hs) (i:Nat):Int:=sumN (heldG S i) S.G
structure Snd (S:Hs):Prop where
 held:∀i,i<S.L.n->S.L.f i 1=heldW S i
 lock:∀i g,i<S.L.n->g<4->S.L.f i (6+g)=if g<S.G then lockG S i g else 0
 ids:∀g,g<S.G->∀o∈(S.bk g).l,o.id%16=o.own/\o.id/16<=1048576
 sel:∀g A w,g<S.G->S.au g=some (A,w)->wantsA A w=(0,0)
theorem buyW_nn {i:Nat} {o:Ord} (h:rightO o=true):0<=buyW i o:=by
 have:=rightO_iff.1 h
 unfold buyW
 split
 ·exact Int.mul_nonneg (by omega) (by omega)
 ·omega
theorem sellW_nn {i:Nat} {o:Ord} (h:rightO o=true):0<=sellW i o:=by
 have:=rightO_iff.1 h
 unfold sellW
 split <;> omega
theorem sumO_nn {f:Ord->Int}:∀{l:List Ord},(∀o∈l,0<=f o)->0<=sumO f l
 | [],_=>by simp[sumO]
 | o::l,h=>by
  have h1:=sumO_nn (f:=f) (l:=l) λx hx=>h x (by simp[hx])
  have h2:=h o (by simp)
  simp only[sumO];omega
theorem sumN_nn {f:Nat->Int}:∀(n:Nat),(∀i,i<n->0<=f i)->0<=sumN f n
 | 0,_=>by simp[sumN]
 | n+1,h=>by
  have h1:=sumN_nn n λi hi=>h i (by omega)
  have h2:=h n (by omega)
  simp only[sumN];omega
end Go.Pw
set_option linter.unusedSimpArgs false
set_option linter.unusedVariables false
namespace Go.Pw
open Go Go.Proofs
end Go.Pw
set_option linter.unusedSimpArgs false
set_option linter.unusedVariables false
namespace Go.Pw
open Go Go.Proofs
end Go.Pw
set_option linter.unusedSimpArgs false
set_option linter.unusedVariables false
namespace Go.Pw
open Go Go.Proofs
end Go.Pw
set_option linter.unusedSimpArgs false
set_option linter.unusedVariables false
namespace Go.Pw
open Go Go.Proofs
end Go.Pw
set_option linter.unusedSimpArgs false
set_option linter.unusedVariables false
namespace Go.Pw
open Go Go.Proofs
end Go.Pw
set_option linter.unusedSimpArgs false
set_option linter.unusedVariables false
namespace Go.Pw
open Go Go.Proofs
end Go.Pw
set_option linter.unusedSimpArgs false
set_option linter.unusedVariables false
namespace Go.Pw
open Go Go.Proofs
end Go.Pw
set_option linter.unusedSimpArgs false
set_option linter.unusedVariables false
namespace Go.Pw
open Go Go.Proofs
section
variable {h g:PH} {R:AEnd->PH->Prop}
structure AskIn (G:PH) (c:Nat) (a:Ask):Prop where
 hc:G c=some (.cells a.a 27 (0,0))
theorem AskIn.w {G:PH} {c:Nat} {a:Ask} {K:Value->Prop} (H:AskIn G c a):vLoad none (.pointer (some ⟨c,0,none⟩)) G K↔K (.int .i64 a.who):=vLoad_1 H.hc rfl
theorem AskIn.all {G:PH} {c:Nat} {a:Ask} {K:Value->Prop} (H:AskIn G c a):vLoad (some 10) (.pointer (some ⟨c,0,none⟩)) G K↔K a.v:=by
 rw[vLoad_n H.hc (off:=0) (n:=10) (by show 0+10<=10;omega)];rfl
end
end Go.Pw
set_option linter.unusedSimpArgs false
set_option linter.unusedVariables false
namespace Go.Pw
open Go Go.Proofs
def MuteH (L:Led):Prop:=∀i,i<L.n->L.f i 10=0->L.r i=⟨#[]⟩
end Go.Pw
set_option linter.unusedSimpArgs false
set_option linter.unusedVariables false
namespace Go.Pw
open Go Go.Proofs
end Go.Pw
set_option linter.unusedSimpArgs false
set_option linter.unusedVariables false
namespace Go.Pw
open Go Go.Proofs
end Go.Pw
set_option linter.unusedSimpArgs false
set_option linter.unusedVariables false
namespace Go.Pw
open Go Go.Proofs
theorem hsRecs_len (S:Hs) (hk:S.ok):(hsRecs S).length<=1000:=by
 have h1:=hk.cl
 have h2:=hk.g
 have h3:=auRs_len S S.G
 unfold hsRecs
 simp only[List.length_append,recsOf_len,List.length_map,List.length_range,List.length_cons,List.length_nil]
 omega
end Go.Pw
set_option linter.unusedSimpArgs false
set_option linter.unusedVariables false
namespace Go.Pw
open Go Go.Proofs
end Go.Pw
