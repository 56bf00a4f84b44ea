/- Texts of this claim, one behind the other. -/
import Derived.Test.YtboeddfdbpjnjaaGreatM10
import Derived.Test.YtboeddfdbpjnjaaGreatM14
import Derived.Test.YtboeddfdbpjnjaaGreatM15
import Derived.KernelRfl
set_option linter.unusedSimpArgs false
set_option linter.unusedVariables false
namespace Go.Pw
open Go Go.Proofs
theorem putO_ok {B:Bk} (hk:B.ok) (o:Ord):(putO B o).2.ok:=by
 unfold putO
 split
 ·exact hk
 ·rename_i h1
  split
  ·exact hk
  ·rename_i h2
   split
   ·exact hk
   ·rename_i h3
    have hr:rightO o=true:=by
     cases h:rightO o with
     | true=>rfl
     | false=>exact absurd (.inl h) h1
    have hnone:∀x∈B.l,x.id≠o.id:=idx_none (by
     cases h:idx B.l o.id with
     | none=>rfl
     | some k=>rw[h]at h2;exact absurd rfl h2)
    have hnx:=hk.nx
    refine⟨λx hx=>?_,?_,?_,λx hx=>?_,?_,?_⟩
    ·rcases List.mem_append.1 hx with hx | hx
     ·exact hk.right x hx
     ·simp at hx;subst hx;exact hr
    ·exact List.pairwise_append.2 ⟨hk.ids,by simp,λx hx y hy=>by simp at hy;subst hy;exact hnone x hx⟩
    ·exact List.pairwise_append.2 ⟨hk.pls,by simp,λx hx y hy=>by simp at hy;subst hy;exact (hk.pl x hx).2⟩
    ·rcases List.mem_append.1 hx with hx | hx
     ·have:=hk.pl x hx;simp only;omega
     ·simp at hx;subst hx;simp only;omega
    ·have:=hk.len;simp only[List.length_append,List.length_cons,List.length_nil];omega
    ·simp only;omega
theorem cancelO_ok {B:Bk} (hk:B.ok) (id own:Int):(cancelO B id own).2.ok:=by
 unfold cancelO
 split
 ·exact hk
 ·rename_i k hk1
  split
  ·exact hk
  ·split
   ·exact hk
   ·have hsub:(B.l.eraseIdx k).Sublist B.l:=List.eraseIdx_sublist _ _
    exact⟨λx hx=>hk.right x (hsub.subset hx),hk.ids.sublist hsub,hk.pls.sublist hsub,λx hx=>hk.pl x (hsub.subset hx),Nat.le_trans hsub.length_le hk.len,hk.nx⟩
theorem amendO_ok {B:Bk} (hk:B.ok) (id own p m:Int):(amendO B id own p m).2.ok:=by
 unfold amendO
 split
 ·exact hk
 ·rename_i k hidx
  split
  ·exact hk
  ·rename_i o ho
   split
   ·exact hk
   ·split
    ·exact hk
    ·rename_i hr0
     have hr:rightO {o with pr:=p,am:=m} = true:=by
      cases h:rightO {o with pr:=p,am:=m} with
      | true=>rfl
      | false=>exact absurd h hr0
     have hkl:k<B.l.length:=(List.getElem?_eq_some_iff.1 ho).1
     have hom:=List.mem_of_getElem? ho
     split
     ·refine⟨λx hx=>?_,?_,?_,λx hx=>?_,by simp only[List.length_set];exact hk.len,hk.nx⟩
      ·rcases List.mem_or_eq_of_mem_set hx with hx | rfl
       ·exact hk.right x hx
       ·exact hr
      ·rw[List.pairwise_iff_getElem]
       intro i j hi hj hij
       have e1:=List.pairwise_iff_getElem.1 hk.ids i j (by simpa using hi) (by simpa using hj) hij
       have ok:B.l[k]=o:=(List.getElem?_eq_some_iff.1 ho).2
       simp only[List.getElem_set]
       split
       ·rename_i e;subst e
        rw[ok]at e1
        split
        ·omega
        ·exact e1
       ·split
        ·rename_i e;subst e;rw[ok]at e1;exact e1
        ·exact e1
      ·rw[List.pairwise_iff_getElem]
       intro i j hi hj hij
       have e1:=List.pairwise_iff_getElem.1 hk.pls i j (by simpa using hi) (by simpa using hj) hij
       have ok:B.l[k]=o:=(List.getElem?_eq_some_iff.1 ho).2
       simp only[List.getElem_set]
       split
       ·rename_i e;subst e
        rw[ok]at e1
        split
        ·omega
        ·exact e1
       ·split
        ·rename_i e;subst e;rw[ok]at e1;exact e1
        ·exact e1
      ·rcases List.mem_or_eq_of_mem_set hx with hx | rfl
       ·exact hk.pl x hx
       ·exact hk.pl o hom
     ·split
      ·exact hk
      ·have hsub:(B.l.eraseIdx k).Sublist B.l:=List.eraseIdx_sublist _ _
       have hnx:=hk.nx
       have hlen:(B.l.eraseIdx k).length=B.l.length-1:=List.length_eraseIdx_of_lt hkl
       refine⟨λx hx=>?_,?_,?_,λx hx=>?_,?_,?_⟩
       ·rcases List.mem_append.1 hx with hx | hx
        ·exact hk.right x (hsub.subset hx)
        ·simp at hx;subst hx;exact hr
       ·refine List.pairwise_append.2 ⟨hk.ids.sublist hsub,by simp,λx hx y hy=>?_⟩
        simp at hy;subst hy
        simp only
        obtain⟨i,hik,hi⟩:=List.mem_eraseIdx_iff_getElem?.1 hx
        exact ids_at hk.ids hi ho hik
       ·exact List.pairwise_append.2 ⟨hk.pls.sublist hsub,by simp,λx hx y hy=>by simp at hy;subst hy;exact (hk.pl x (hsub.subset hx)).2⟩
       ·rcases List.mem_append.1 hx with hx | hx
        ·have:=hk.pl x (hsub.subset hx);simp only;omega
        ·simp at hx;subst hx;simp only;omega
       ·have:=hk.len;simp only[List.length_append,List.length_cons,List.length_nil,hlen];omega
       ·simp only;omega
theorem putO_own {B:Bk} {o:Ord} {n:Nat} (h:∀x∈B.l,x.own<n) (ho:o.own<n):∀x∈(putO B o).2.l,x.own<n:=by
 unfold putO
 repeat' split
 ·exact h
 ·exact h
 ·exact h
 ·intro x hx
  rcases List.mem_append.1 hx with hx | hx
  ·exact h x hx
  ·simp at hx;subst hx;exact ho
theorem cancelO_own {B:Bk} {id own:Int} {n:Nat} (h:∀x∈B.l,x.own<n):∀x∈(cancelO B id own).2.l,x.own<n:=by
 unfold cancelO
 repeat' split
 all_goals first | exact h | exact λx hx=>h x ((List.eraseIdx_sublist _ _).subset hx)
theorem amendO_own {B:Bk} {id own p m:Int} {n:Nat} (h:∀x∈B.l,x.own<n):∀x∈(amendO B id own p m).2.l,x.own<n:=by
 unfold amendO
 split
 ·exact h
 ·rename_i k hidx
  split
  ·exact h
  ·rename_i o ho
   have hom:=List.mem_of_getElem? ho
   repeat' split
   all_goals first | exact h | skip
   ·intro x hx
    rcases List.mem_or_eq_of_mem_set hx with hx | rfl
    ·exact h x hx
    ·exact h o hom
   ·intro x hx
    rcases List.mem_append.1 hx with hx | hx
    ·exact h x ((List.eraseIdx_sublist _ _).subset hx)
    ·simp at hx;subst hx;exact h o hom
theorem setL_ok {S:Hs} (hk:S.ok) {L:Led} (hL:Inv L) (hg:L.goods=S.L.goods) (hn:L.n=S.L.n):(S.setL L).ok:=by
 have eG:(S.setL L).G=S.G:=by unfold Hs.G Hs.setL;simp only;rw[hg]
 exact⟨hL,by show 1<=L.n;rw[hn];exact hk.n1,λi hi=>hk.bk i (by rw[eG]at hi;exact hi),λi hi o ho=>by show o.own<L.n;rw[hn];exact hk.own i (by rw[eG]at hi;exact hi) o ho,
  λi A w hi ha=>by show A.ok/\A.ste=0/\A.n=L.n/\0<=w/\w<L.n;rw[hn];exact hk.au i A w (by rw[eG]at hi;exact hi) ha,hk.now⟩
theorem setBk_ok {S:Hs} (hk:S.ok) {i:Nat} {B:Bk} (hB:B.ok) (ho:∀o∈B.l,o.own<S.L.n):(S.setBk i B).ok:=by
 refine⟨hk.led,hk.n1,λk hi=>?_,λk hi o h=>?_,hk.au,hk.now⟩
 ·show (if k=i then B else S.bk k).ok
  split
  ·exact hB
  ·exact hk.bk k hi
 ·have h2:o∈(if k=i then B else S.bk k).l:=h
  split at h2
  ·exact ho o h2
  ·exact hk.own k hi o h2
theorem setAu_ok {S:Hs} (hk:S.ok) {i:Nat} {A:Auc} {w:Int} (h:A.ok/\A.ste=0/\A.n=S.L.n/\0<=w/\w<S.L.n):(S.setAu i (some (A,w))).ok:=by
 refine⟨hk.led,hk.n1,hk.bk,hk.own,λk A' w' hi ha=>?_,hk.now⟩
 have ha2:(if k=i then some (A,w)else S.au k)=some (A',w'):=ha
 split at ha2
 ·cases ha2;exact h
 ·exact hk.au k A' w' hi ha2
section
variable {S:Hs} {who:Nat} {o:OpV}
theorem putH_ok (hk:S.ok) (hw:who<S.L.n) (ho:o.ok):(putH S who o).2.ok:=by
 unfold putH
 simp only
 split
 ·exact hk
 ·rename_i ht
  have htm:=termsH_ok (S:=S) (who:=who) (o:=o) (by simpa using ht)
  have hg:=hk.g
  have hgd:=ho.good
  split
  ·exact hk
  ·split
   ·exact hk
   ·have h1:=holdH_gn S.L who (coverC (decide (o.side=0)) (termsH S who o).p o.am)
    have h2:=lockH_gn (holdH S.L who (coverC (decide (o.side=0)) (termsH S who o).p o.am)) who o.good (coverG (decide (o.side=0)) (termsH S who o).p o.am)
    have hB:=putO_ok (hk.bk o.good.toNat (by omega)) (ordOfOp (termsH S who o) who o)
    have hO:=putO_own (o:=ordOfOp (termsH S who o) who o) (hk.own o.good.toNat (by omega)) (by show (who:Int)<S.L.n;omega)
    exact setL_ok (setBk_ok hk hB hO) (inv_lockH (inv_holdH hk.led hw _) (by rw[h1.2];exact hw) _ _) (h2.1.trans h1.1) (h2.2.trans h1.2)
theorem amendH_ok (hk:S.ok) (hw:who<S.L.n) (ho:o.ok):(amendH S who o).2.ok:=by
 unfold amendH
 simp only
 split
 ·exact hk
 ·rename_i ht
  have htm:=termsH_ok (S:=S) (who:=who) (o:=o) (by simpa using ht)
  have hg:=hk.g
  have hgd:=ho.good
  split
  ·exact hk
  ·split
   ·exact hk
   ·split
    ·exact hk
    ·refine setL_ok (setBk_ok hk (amendO_ok (hk.bk o.good.toNat (by omega)) _ _ _ _) (amendO_own (hk.own o.good.toNat (by omega)))) (inv_lockH (inv_holdH hk.led hw _) (by rw[(holdH_gn _ _ _).2];exact hw) _ _) ((lockH_gn _ _ _ _).1.trans (holdH_gn _ _ _).1) ((lockH_gn _ _ _ _).2.trans (holdH_gn _ _ _).2)
theorem cancelH_ok (hk:S.ok) (hw:who<S.L.n) (ho:o.ok):(cancelH S who o).2.ok:=by
 unfold cancelH
 simp only
 split
 ·exact hk
 ·have hg:=hk.g
  have hgd:=ho.good
  split
  ·exact hk
  ·have hb:=setBk_ok (i:=o.good.toNat) hk (cancelO_ok (hk.bk o.good.toNat (by omega)) (o.id*16+who) who) (cancelO_own (hk.own o.good.toNat (by omega)))
   split
   ·exact setL_ok hb (inv_holdH hk.led hw _) (holdH_gn _ _ _).1 (holdH_gn _ _ _).2
   ·exact setL_ok hb (inv_lockH hk.led hw _ _) (lockH_gn _ _ _ _).1 (lockH_gn _ _ _ _).2
theorem wantH_ok (hk:S.ok) (hw:who<S.L.n) (ho:o.ok):(wantH S who o).2.ok:=by
 unfold wantH
 split
 ·exact hk
 ·have hg:=hk.g
  have hgd:=ho.good
  split
  ·exact hk
  ·rename_i A w hau
   obtain⟨a1,a2,a3,a4,a5⟩:=hk.au o.good.toNat A w (by omega) hau
   simp only
   split
   ·exact hk
   ·split
    ·exact hk
    ·split
     ·exact hk
     ·have hb:=bidA_keep A who o.am
      exact setL_ok (setAu_ok hk ⟨bidA_ok a1 _ _,by rw[hb.1,a2],by rw[hb.2.2.1,a3],a4,a5⟩) (inv_holdH hk.led hw _) (holdH_gn _ _ _).1 (holdH_gn _ _ _).2
theorem offerH_ok (hk:S.ok) (hw:who<S.L.n) (ho:o.ok):(offerH S who o).2.ok:=by
 unfold offerH
 split
 ·exact hk
 ·split
  ·exact hk
  ·split
   ·exact hk
   ·rename_i hb
    have hb2:=Decidable.not_not.1 hb
    split
    ·exact hk
    ·split
     ·exact hk
     ·exact setL_ok (setAu_ok hk ⟨newAuc_ok hb2,rfl,by simp[newAuc],by omega,by omega⟩) (inv_lock hk.led hw) (lockL_gn _ _ _ _).1 (lockL_gn _ _ _ _).2
theorem actH_ok (hk:S.ok) (hw:who<S.L.n) (ho:o.ok):(actH S who o).S.ok:=by
 unfold actH
 repeat' split
 ·exact (tickH_ok hk).1
 ·exact setL_ok hk (inv_pay hk.led hw) (payL_gn _ _ _).1 (payL_gn _ _ _).2
 ·exact setL_ok hk (inv_take hk.led hw) (takeL_gn _ _ _).1 (takeL_gn _ _ _).2
 ·exact setL_ok hk (inv_store hk.led hw) (storeL_gn _ _ _ _).1 (storeL_gn _ _ _ _).2
 ·exact setL_ok hk (inv_fetch hk.led hw) (fetchL_gn _ _ _ _).1 (fetchL_gn _ _ _ _).2
 ·exact offerH_ok hk hw ho
 ·exact wantH_ok hk hw ho
 ·exact putH_ok hk hw ho
 ·exact amendH_ok hk hw ho
 ·exact cancelH_ok hk hw ho
 ·exact hk
theorem actH_gn (hk:S.ok):(actH S who o).S.L.goods=S.L.goods/\(actH S who o).S.L.n=S.L.n:=by
 unfold actH
 repeat' split
 ·exact⟨(tickH_ok hk).2.2.1,(tickH_ok hk).2.1⟩
 ·exact payL_gn _ _ _
 ·exact takeL_gn _ _ _
 ·exact storeL_gn _ _ _ _
 ·exact fetchL_gn _ _ _ _
 ·exact offerH_gn _ _ _
 ·exact wantH_gn _ _ _
 ·exact putH_gn _ _ _
 ·exact amendH_gn _ _ _
 ·exact cancelH_gn _ _ _
 ·exact⟨rfl,rfl⟩
theorem lockL_e (L:Led) (i:Nat) (g n:Int):(lockL L i g n).1=0\/(lockL L i g n).1=1\/(lockL L i g n).1=61:=by unfold lockL;(repeat' split) <;> simp
theorem putO_e (B:Bk) (o:Ord):0<=(putO B o).1/\(putO B o).1<=100:=by unfold putO;(repeat' split) <;> simp
theorem amendO_e (B:Bk) (a b c d:Int):0<=(amendO B a b c d).1/\(amendO B a b c d).1<=100:=by unfold amendO;(repeat' split) <;> simp
theorem termsH_e (S:Hs) (who:Nat) (o:OpV):0<=(termsH S who o).e/\(termsH S who o).e<=100:=by
 have:=ticksO_err o.price
 unfold termsH
 split
 ·simp
 ·simp only;omega
theorem actH_e (hk:S.ok):(0<=(actH S who o).e/\(actH S who o).e<=100)/\(0<=(actH S who o).n/\(actH S who o).n<=9007199254740992):=by
 have ht:=tickH_ok hk
 have h1:=ticksO_err o.price
 have h2:=termsH_e S who o
 have h3:=lockL_e S.L who o.good o.am
 unfold actH
 repeat' split
 ·simp only;omega
 ·unfold payL;(repeat' split) <;> simp
 ·unfold takeL;(repeat' split) <;> simp
 ·unfold storeL;(repeat' split) <;> simp
 ·unfold fetchL;(repeat' split) <;> simp
 ·unfold offerH;(repeat' split) <;> simp only <;> omega
 ·unfold wantH;simp only;(repeat' split) <;> first | (simp;done) | (simp only;(repeat' split) <;> simp)
 ·unfold putH
  simp only
  split
  ·simp only;omega
  ·split
   ·unfold coverE at *;split <;> simp
   ·split
    ·have:=putO_e (S.bk o.good.toNat) (ordOfOp (termsH S who o) who o);simp only;omega
    ·simp
 ·unfold amendH
  simp only
  split
  ·simp only;omega
  ·split
   ·simp
   ·split
    ·simp
    ·split
     ·refine⟨?_,by simp⟩;exact amendO_e _ _ _ _ _
     ·simp
 ·unfold cancelH;simp only;(repeat' split) <;> simp
 ·simp
end
end Go.Pw
set_option linter.unusedSimpArgs false
set_option linter.unusedVariables false
namespace Go.Pw
open Go Go.Proofs
structure Dn where
 t:ByteArray
 e:Int
 S:Hs
def repB (e n:Int):ByteArray:=⟨(encN e.toNat++encN n.toNat).toArray⟩
def didH (S:Hs) (who:Nat) (op:ByteArray):Did:=if (ofOpO op).2=0 then actH S who (ofOpO op).1 else ⟨0,90,S⟩
def markH (d:Did) (who:Nat) (stamp:Int):Hs:=d.S.setL (markL d.S.L who stamp (repB d.e d.n)).2
def doH (S:Hs) (who stamp:Int) (op:ByteArray):Dn:=
 if ¬(0<=who/\who<S.L.n)then ⟨⟨#[]⟩,60,S⟩else
 if stamp<1\/1099511627776<stamp then ⟨⟨#[]⟩,1,S⟩else
 if stamp<=S.L.f who.toNat 10 then ⟨⟨#[]⟩,91,S⟩else
 ⟨repB (didH S who.toNat op).e (didH S who.toNat op).n,0,markH (didH S who.toNat op) who.toNat stamp⟩
theorem markL_gn (L:Led) (i:Nat) (s:Int) (t:ByteArray):(markL L i s t).2.goods=L.goods/\(markL L i s t).2.n=L.n:=by unfold markL;(repeat' split) <;> exact⟨rfl,rfl⟩
section
variable {h g:PH} {R:AEnd->PH->Prop} {x:Nat} {nm:Nm} {S:Hs} {C:PH->Prop} {who:Nat} {o:OpV}
theorem h_kind {f:Nat} (hf:actF o.kind=some f) (H:HsN x nm S h) (hn:nm.ok S) (hk:S.ok) (hw:who<S.L.n) (ho:o.ok)
  (hR:∀g nm',HsN x nm' (actH S who o).S g->nm'.ok (actH S who o).S->R (.ret (.tuple #[.int .i64 (actH S who o).n,.int .i64 (actH S who o).e])) g):ACalls Tryz.prog f #[ptr x,.int .i64 who,o.v] h R:=by
 have hgn:=actH_gn (who:=who) (o:=o) hk
 unfold actF at hf
 unfold actH at hR hgn
 by_cases k1:o.kind=1
 ·rw[if_pos k1]at hf hR hgn;cases hf;exact h_tick H hn hk λg Hg=>hR g nm Hg (hn.to hgn.1)
 rw[if_neg k1]at hf hR hgn
 by_cases k2:o.kind=2
 ·rw[if_pos k2]at hf hR hgn;cases hf;exact h_pay H hk hw λg Hg=>hR g nm Hg (hn.to hgn.1)
 rw[if_neg k2]at hf hR hgn
 by_cases k3:o.kind=3
 ·rw[if_pos k3]at hf hR hgn;cases hf;exact h_take H hk hw λg Hg=>hR g nm Hg (hn.to hgn.1)
 rw[if_neg k3]at hf hR hgn
 by_cases k4:o.kind=4
 ·rw[if_pos k4]at hf hR hgn;cases hf;exact h_store H hk hw λg Hg=>hR g nm Hg (hn.to hgn.1)
 rw[if_neg k4]at hf hR hgn
 by_cases k5:o.kind=5
 ·rw[if_pos k5]at hf hR hgn;cases hf;exact h_fetch H hk hw λg Hg=>hR g nm Hg (hn.to hgn.1)
 rw[if_neg k5]at hf hR hgn
 by_cases k6:o.kind=6
 ·rw[if_pos k6]at hf hR hgn;cases hf;exact h_offer H hn hk hw ho λg nm' Hg hn'=>hR g nm' Hg hn'
 rw[if_neg k6]at hf hR hgn
 by_cases k7:o.kind=7
 ·rw[if_pos k7]at hf hR hgn;cases hf;exact h_want H hn hk hw ho λg Hg=>hR g nm Hg (hn.to hgn.1)
 rw[if_neg k7]at hf hR hgn
 by_cases k8:o.kind=8
 ·rw[if_pos k8]at hf hR hgn;cases hf;exact h_put H hn hk hw ho λg Hg=>hR g nm Hg (hn.to hgn.1)
 rw[if_neg k8]at hf hR hgn
 by_cases k9:o.kind=9
 ·rw[if_pos k9]at hf hR hgn;cases hf;exact h_amend H hn hk hw ho λg Hg=>hR g nm Hg (hn.to hgn.1)
 rw[if_neg k9]at hf hR hgn
 by_cases k10:o.kind=10
 ·rw[if_pos k10]at hf hR hgn;cases hf;exact h_cancel H hn hk hw ho λg Hg=>hR g nm Hg (hn.to hgn.1)
 rw[if_neg k10]at hf
 cases hf
theorem actF_none {o:OpV} (hf:actF o.kind=none):actH S who o=⟨0,90,S⟩:=by
 unfold actF at hf
 unfold actH
 by_cases k1:o.kind=1
 ·rw[if_pos k1]at hf;cases hf
 by_cases k2:o.kind=2
 ·rw[if_neg k1,if_pos k2]at hf;cases hf
 by_cases k3:o.kind=3
 ·rw[if_neg k1,if_neg k2,if_pos k3]at hf;cases hf
 by_cases k4:o.kind=4
 ·rw[if_neg k1,if_neg k2,if_neg k3,if_pos k4]at hf;cases hf
 by_cases k5:o.kind=5
 ·rw[if_neg k1,if_neg k2,if_neg k3,if_neg k4,if_pos k5]at hf;cases hf
 by_cases k6:o.kind=6
 ·rw[if_neg k1,if_neg k2,if_neg k3,if_neg k4,if_neg k5,if_pos k6]at hf;cases hf
 by_cases k7:o.kind=7
 ·rw[if_neg k1,if_neg k2,if_neg k3,if_neg k4,if_neg k5,if_neg k6,if_pos k7]at hf;cases hf
 by_cases k8:o.kind=8
 ·rw[if_neg k1,if_neg k2,if_neg k3,if_neg k4,if_neg k5,if_neg k6,if_neg k7,if_pos k8]at hf;cases hf
 by_cases k9:o.kind=9
 ·rw[if_neg k1,if_neg k2,if_neg k3,if_neg k4,if_neg k5,if_neg k6,if_neg k7,if_neg k8,if_pos k9]at hf;cases hf
 by_cases k10:o.kind=10
 ·rw[if_neg k1,if_neg k2,if_neg k3,if_neg k4,if_neg k5,if_neg k6,if_neg k7,if_neg k8,if_neg k9,if_pos k10]at hf;cases hf
 rw[if_neg k1,if_neg k2,if_neg k3,if_neg k4,if_neg k5,if_neg k6,if_neg k7,if_neg k8,if_neg k9,if_neg k10]
theorem didH_ok (hk:S.ok) (hw:who<S.L.n) (op:ByteArray):(didH S who op).S.ok/\(didH S who op).S.L.goods=S.L.goods/\(didH S who op).S.L.n=S.L.n/\(0<=(didH S who op).e/\(didH S who op).e<=100)/\(0<=(didH S who op).n/\(didH S who op).n<=9007199254740992):=by
 unfold didH
 split
 ·exact⟨actH_ok hk hw (ofOpO_ok op),(actH_gn hk).1,(actH_gn hk).2,(actH_e hk).1,(actH_e hk).2⟩
 ·exact⟨hk,rfl,rfl,by simp,by simp⟩
theorem markH_ok {d:Did} {stamp:Int} (hk:d.S.ok) (hw:who<d.S.L.n):(markH d who stamp).ok/\(markH d who stamp).L.goods=d.S.L.goods/\(markH d who stamp).L.n=d.S.L.n:=
 ⟨setL_ok hk (inv_mark hk.led hw) (markL_gn _ _ _ _).1 (markL_gn _ _ _ _).2,(markL_gn _ _ _ _).1,(markL_gn _ _ _ _).2⟩
theorem doH_ok (hk:S.ok) (who stamp:Int) (op:ByteArray):(doH S who stamp op).S.ok/\(doH S who stamp op).S.L.goods=S.L.goods/\(doH S who stamp op).S.L.n=S.L.n:=by
 unfold doH
 split
 ·exact⟨hk,rfl,rfl⟩
 ·split
  ·exact⟨hk,rfl,rfl⟩
  ·split
   ·exact⟨hk,rfl,rfl⟩
   ·obtain⟨d1,d2,d3,d4,d5⟩:=didH_ok (who:=who.toNat) hk (by omega) op
    obtain⟨m1,m2,m3⟩:=markH_ok (who:=who.toNat) (stamp:=stamp) d1 (by rw[d3];omega)
    exact⟨m1,m2.trans d2,m3.trans d3⟩
theorem str_cat {K:Value->Prop} (a b:List UInt8) (hs:a.length+b.length<=1000000):vBin Tryz.prog .add 9 (.string ⟨a.toArray⟩) (.string ⟨b.toArray⟩) K↔K (.string ⟨(a++b).toArray⟩):=by
 rw[vBin_sadd _ _ _ (by show a.toArray.size+b.toArray.size<=_;simp;omega)]
 have e:(⟨a.toArray⟩:ByteArray)++⟨b.toArray⟩=⟨(a++b).toArray⟩:=by
  apply ByteArray.ext
  rw[ByteArray.data_append]
  simp
 rw[e]
theorem h_reply {d:Did} {stamp:Int} {R':Value->PH->Prop} (H:HsN x nm d.S h) (hk:d.S.ok) (hw:who<d.S.L.n) (he:0<=d.e/\d.e<=100) (hnn:0<=d.n/\d.n<=9007199254740992) (hR:∀g,HsN x nm (markH d who stamp) g->R (.ret (.tuple #[.string (repB d.e d.n),.int .i64 0])) g) :
  vCall Tryz.prog 34 #[.int .i64 d.e] h (λt83 h_17=>
   vExt t83 0 λt84=>
   vExt t83 1 λt85=>
   vCall Tryz.prog 34 #[.int .i64 d.n] h_17 (λt88 h_18=>
   vExt t88 0 λt89=>
   vExt t88 1 λt90=>
   vLoad none (.pointer (some ⟨x,0,none⟩)) h_18 λt94=>
   vBin Tryz.prog .add 9 t84 t89 λt99=>
   vCall Tryz.prog 35 #[t94,.int .i64 who,.int .i64 stamp,t99] h_18 (λt100 h_19=>
   vBin Tryz.prog .add 9 t84 t89 λt103=>
   R (.ret (.tuple #[t103,(.int .i64 0)])) h_19)
   (λc h=>R (.pan c) h))
   (λc h=>R (.pan c) h))
   (λc h=>R (.pan c) h):=by
 obtain⟨e,he'⟩:∃e:Nat,d.e=e:=⟨d.e.toNat,by omega⟩
 obtain⟨n,hn'⟩:∃n:Nat,d.n=n:=⟨d.n.toNat,by omega⟩
 unfold markH repB at hR
 rw[he',hn',Int.toNat_natCast,Int.toNat_natCast]at hR
 rw[he',hn']
 have l1:=encN_10 (n:=e) (by omega)
 have l2:=encN_10 (n:=n) (by omega)
 refine putInt_ok (by omega) ?_
 simp only[AEnd.elim,vExt_20,vExt_21]
 refine putInt_ok (by omega) ?_
 simp only[AEnd.elim,vExt_20,vExt_21,H.f.lx.ld]
 rw[str_cat _ _ (by omega)]
 refine mark_ok H.f.hl hw ?_
 simp only[AEnd.elim]
 rw[str_cat _ _ (by omega)]
 have hgn:=markL_gn d.S.L who stamp ⟨(encN e++encN n).toArray⟩
 have H2:=HsN.led (L':=(markL d.S.L who stamp ⟨(encN e++encN n).toArray⟩).2) (sep_emp H) hgn.1 hgn.2
 exact hR _ (sep_l HsN.mono H2)
theorem h_do {who stamp:Int} {op:ByteArray} (H:HsN x nm S h) (hn:nm.ok S) (hk:S.ok) (hR:∀g nm',HsN x nm' (doH S who stamp op).S g->nm'.ok (doH S who stamp op).S->R (.ret (.tuple #[.string (doH S who stamp op).t,.int .i64 (doH S who stamp op).e])) g) :
  ACalls Tryz.prog 12 #[ptr x,.int .i64 who,.int .i64 stamp,.string op] h R:=by
 refine call12 ?_
 unfold sh12
 have F:=H.f
 rw[vBin_pnil Tryz.underlying28]
 simp only[boolOf_b,gq_b,true_implies,vNil_p,vFA_p,Nat.zero_add,F.lx.ld,ne_eq,not_true_eq_false,false_implies,and_true]
 rw[vBin_pnil Tryz.underlying81]
 simp only[vPick_b,cond_false,dIf_b]
 refine⟨λe=>absurd e (by simp),λ_=>?_⟩
 unfold doH at hR
 by_cases hw:0<=who/\who<S.L.n
 rotate_left
 ·rw[if_pos hw]at hR
  refine acct_bad F.hl (by omega) ?_
  simp only[AEnd.elim,vExt_20,vExt_21]
  refine vNew_i λc hc=>?_
  refine vStore_to (cs:=acct0) (ins_eq _ _ _) (by rfl) (by rfl) (by rfl) ?_
  rw[ins_ins]
  simp only[vUn_not,Bool.not_false,dIf_b]
  exact⟨λ_=>hR _ nm (HsN.mono _ _ (sub_ins _ hc) H) hn,λe=>absurd e (by simp)⟩
 rw[if_neg (λhnn=>hnn hw)]at hR
 obtain⟨i,rfl⟩:∃i:Nat,who=i:=⟨who.toNat,by omega⟩
 have hi:i<S.L.n:=by omega
 rw[Int.toNat_natCast]at hR
 refine acct_ok F.hl hi ?_
 simp only[AEnd.elim,vExt_20,vExt_21]
 refine vNew_i λc hc=>?_
 refine vStore_to (cs:=acctCells S.L i) (ins_eq _ _ _) (by rfl) (by rfl) (by rfl) ?_
 rw[ins_ins]
 have H1:HsN x nm S (ins h c (.cells (acctCells S.L i) 61 (0,0))):=HsN.mono _ _ (sub_ins _ hc) H
 revert H1
 generalize ins h c (.cells (acctCells S.L i) 61 (0,0))=G
 intro H1
 have F1:=H1.f
 simp only[vUn_not,Bool.not_true,dIf_b]
 refine⟨λe=>absurd e (by simp),λ_=>?_⟩
 simp only[vNil_p,vFA_p,Nat.zero_add,F1.lx.ld]
 refine last_ok F1.hl hi ?_
 simp only[AEnd.elim,vExt_20,vExt_21,vBin_lss]
 by_cases hs1:stamp<1
 ·rw[if_pos (.inl hs1)]at hR
  simp[hs1]
  exact hR _ nm H1 hn
 by_cases hs2:1099511627776<stamp
 ·rw[if_pos (.inr hs2)]at hR
  simp[hs1,hs2]
  exact hR _ nm H1 hn
 rw[if_neg (by omega)]at hR
 simp only[hs1,decide_false,boolOf_b,gq_b,true_implies,vBin_gtr,hs2,ne_eq,not_true_eq_false,false_implies,and_true,vPick_b,cond_false,dIf_b,Bool.false_eq_true,true_and,vBin_leq]
 by_cases hs3:stamp<=S.L.f i 10
 ·rw[if_pos hs3]at hR
  simp only[hs3,decide_true]
  exact⟨λ_=>hR _ nm H1 hn,λe=>absurd e (by simp)⟩
 rw[if_neg hs3]at hR
 simp only[hs3,decide_false]
 refine⟨λe=>absurd e (by simp),λ_=>?_⟩
 refine ofOp_ok ?_
 simp only[AEnd.elim,vExt_20,vExt_21]
 have ho:=ofOpO_ok op
 obtain⟨d1,d2,d3,d4,d5⟩:=didH_ok hk hi op
 have fin:∀{d:Did} {g nm'},didH S i op=d->HsN x nm' d.S g->nm'.ok d.S->_:=λ{d g nm'} hd Hg hn'=>h_reply (R:=R) (R':=λ_ _=>True) (d:=d) (stamp:=stamp) (who:=i) Hg (by rw[<-hd];exact d1) (by rw[<-hd,d3];exact hi) (by rw[<-hd];exact d4) (by rw[<-hd];exact d5) λg2 Hg2=>by
  rw[hd]at hR
  exact hR g2 nm' Hg2 (hn'.to (markL_gn _ _ _ _).1)
 unfold didH at fin
 refine vNew_i λq hq=>?_
 refine vStore_to (cs:=(ofOpO op).1.a) (ins_eq _ _ _) (by rfl) (by rfl) (by cases (ofOpO op).1;rfl) ?_
 rw[ins_ins]
 have H2:HsN x nm S (ins G q (.cells (ofOpO op).1.a 25 (0,0))):=HsN.mono _ _ (sub_ins _ hq) H1
 have hqq:ins G q (.cells (ofOpO op).1.a 25 (0,0)) q=some (.cells (ofOpO op).1.a 25 (0,0)):=ins_eq _ _ _
 revert H2 hqq
 generalize ins G q (.cells (ofOpO op).1.a 25 (0,0))=G2
 intro H2 hqq
 rw[vBin_eql,dIf_b]
 by_cases hf:(ofOpO op).2=0
 rotate_left
 ·rw[if_neg hf]at fin
  simp only[hf,decide_false]
  exact⟨λe=>absurd e (by simp),λ_=>fin (d:=⟨0,90,S⟩) rfl H2 hn⟩
 rw[if_pos hf]at fin
 simp only[hf,decide_true]
 refine⟨λ_=>?_,λe=>absurd e (by simp)⟩
 generalize (ofOpO op).1=o at *
 simp only[vFA_p,Nat.zero_add]
 rw[vLoad_1 hqq (show o.a[0]?=some (.int .i64 o.kind)from rfl)]
 refine h_acts ?_
 simp only[AEnd.elim]
 cases ha:actF o.kind with
 | none=>
  rw[actF_none ha]at fin
  unfold fnV
  rw[nofn_neq,dIf_b]
  exact⟨λe=>absurd e (by simp),λ_=>fin (d:=⟨0,90,S⟩) rfl H2 hn⟩
 | some f=>
  unfold fnV
  rw[fn_neq,dIf_b]
  refine⟨λ_=>?_,λe=>absurd e (by simp)⟩
  rw[vLoad_n hqq (off:=0) (n:=6) (by show 0+6<=6;omega),show o.a.extract 0 (0+6)=o.a from rfl]
  refine⟨f,#[],#[],rfl,?_⟩
  refine h_kind (who:=i) (o:=o) ha H2 hn hk hi ho λg nm' Hg hn'=>?_
  simp only[AEnd.elim,vExt_20,vExt_21]
  exact fin (d:=actH S i o) rfl Hg hn'
end
end Go.Pw
set_option linter.unusedSimpArgs false
set_option linter.unusedVariables false
namespace Go.Pw
open Go Go.Proofs
abbrev Rec:=ByteArray×ByteArray
def recC (l:List Rec):List Value:=l.flatMap λa=>[.string a.1,.string a.2]
theorem recC_app (l m:List Rec):recC (l++m)=recC l++recC m:=by simp[recC]
theorem recC_cells (L:Led) (n:Nat):recCells L n=recC (recsOf L n):=by
 unfold recCells recC recsOf
 rw[List.flatMap_map]
theorem recsOf_len (L:Led) (n:Nat):(recsOf L n).length=n:=by simp[recsOf]
theorem recC_get:∀(l:List Rec) (i:Nat) (a:Rec),l[i]?=some a->(recC l)[i*2]?=some (.string a.1)/\(recC l)[i*2+1]?=some (.string a.2)
 | [],i,a,h=>by simp at h
 | b::l,0,a,h=>by simp at h;subst h;exact⟨rfl,rfl⟩
 | b::l,i+1,a,h=>by
  have:=recC_get l i a (by simpa using h)
  have e:recC (b::l) = [.string b.1,.string b.2]++recC l:=by simp[recC]
  rw[e,List.getElem?_append_right (by simp;omega),List.getElem?_append_right (by simp;omega)]
  have e1:(i+1)*2 - [Value.string b.1,.string b.2].length=i*2:=by simp;omega
  have e2:(i+1)*2+1 - [Value.string b.1,.string b.2].length=i*2+1:=by simp;omega
  rw[e1,e2]
  exact this
theorem recs_of {h h0:PH} {l:List Rec} {s:Value} (hw:OB 42 2 h0 l.length (recC l) h s):RecsAt h s l:=by
 rcases Nat.eq_zero_or_pos l.length with hn | hn
 ·obtain⟨p,cap,e⟩:=ob_len hw
  have:=List.eq_nil_of_length_eq_zero hn
  subst this
  exact⟨p,cap,e,by simp,λi a ha=>by simp at ha⟩
 ·obtain⟨q,c,cap,hs,hq,hsz,hget⟩:=ob_get hw hn
  have hc:l.length<=cap:=by
   rcases hw.buf with⟨_,h1,_⟩ | ⟨g2,c2,cap2,h1,h2,h3,h4,h5,h6⟩
   ·omega
   ·rw[h1]at hs;cases hs;exact h5
  refine⟨_,cap,hs,hc,λi a ha=>?_⟩
  have hi:i<l.length:=(List.getElem?_eq_some_iff.1 ha).1
  obtain⟨g1,g2⟩:=recC_get l i a ha
  refine⟨q,0,c,_,_,rfl,hq,by omega,?_⟩
  apply Array.ext_getElem?
  intro j
  rw[Array.getElem?_extract]
  rcases Nat.lt_or_ge j 2 with hj | hj
  ·rw[if_pos (by omega),hget _ (by omega)]
   match j,hj with
   | 0,_=>simpa using g1
   | 1,_=>simpa using g2
  ·rw[if_neg (by omega),Array.getElem?_eq_none (by simpa using hj)]
def keyS (p:List UInt8) (i:Nat):ByteArray:=⟨(p ++ [UInt8.ofNat (48+i)]).toArray⟩
def bookK:List UInt8:=[98,111,111,107,47]
def clockK:List UInt8:=[99,108,111,99,107,47]
def bkR (S:Hs) (i:Nat):Rec:=(keyS bookK i,bkB (S.bk i))
def auR (S:Hs) (i:Nat):List Rec:=match S.au i with
 | some p=>[(keyS clockK i,⟨(encN p.2.toNat++(aucB p.1).data.toList).toArray⟩)]
 | none=>[]
def auRs (S:Hs):Nat->List Rec
 | 0=>[]
 | k+1=>auRs S k++auR S k
def nowR (S:Hs):Rec:=(⟨#[110,111,119]⟩,⟨(encN S.now.toNat).toArray⟩)
def hsRecs (S:Hs):List Rec:=recsOf S.L S.L.n++(List.range S.G).map (bkR S)++auRs S S.G ++ [nowR S]
theorem auRs_len (S:Hs):∀k,(auRs S k).length<=k
 | 0=>by simp[auRs]
 | k+1=>by
  have h1:=auRs_len S k
  have h2:(auR S k).length<=1:=by unfold auR;split <;> simp
  simp only[auRs,List.length_append]
  omega
section
variable {h g:PH} {R:AEnd->PH->Prop} {x:Nat} {nm:Nm} {S:Hs} {C:PH->Prop}
theorem fill_b (b:UInt8):Instr.fill (λi=>some (i*1,1)) (rep #[Value.int IntKind.u8 0] (1*1)) [(0,Value.int IntKind.u8 ↑b.toNat)]=some #[.int .u8 b.toNat]:=by
 have e:Array.range 1=#[0]:=by decide
 simp[Instr.fill,rep,Value.cells,e]
theorem hkey_ok {p:List UInt8} {i:Nat} (hi:i<10) (hp:p.length<=100) (hR:R (.ret (.string (keyS p i))) h):ACalls Tryz.prog 38 #[.string ⟨p.toArray⟩,.int .i64 i] h R:=by
 refine ACalls.drop (call38 ?_)
 unfold sh38
 rw[vBin_add,w64 (by omega) (by omega),vConvI_i,wrap_u8n (n:=48+i) (by omega) (by omega)]
 refine⟨by omega,_,fill_b _,λb hb=>?_⟩
 refine .inr ⟨b,0,1,1,_,_,_,[UInt8.ofNat (48+i)],rfl,ins_eq _ _ _,rfl,rfl,?_⟩
 refine (str_cat p [UInt8.ofNat (48+i)] (by simp;omega)).2 ?_
 exact⟨h,sub_ins _ hb,hR⟩
theorem app_rec {K:Value->PH->Prop} {h0:PH} {s:Value} {l:List Rec} {a b:ByteArray} (ob:OB 42 2 h0 l.length (recC l) h s) (hl:l.length<=1000000) (hk:∀g s',OB 42 2 h0 (l ++ [(a,b)]).length (recC (l ++ [(a,b)])) g s'->K s' g) :
  vBuild [(0,1),(1,1)] #[.string ⟨#[]⟩,.string ⟨#[]⟩] [(0,.string a),(1,.string b)] λt41=>
   (1*2<=2^24)/\vBuildS 42 2 1 #[.string ⟨#[]⟩,.string ⟨#[]⟩] [(0,t41)] h λt42 h_3=>
   (0<2)/\(0<32)/\(Array.size #[(.string ⟨#[]⟩:Value),(.string ⟨#[]⟩:Value)]=2)/\vAppend false 42 2 32 s t42 h_3 K:=by
 refine⟨#[.string a,.string b],by simp[Instr.fill,Value.cells],?_⟩
 refine⟨by omega,_,fill_rec a b,λd hd=>⟨by omega,by omega,rfl,?_⟩⟩
 have obd:=ob.up (sub_ins (.cells #[.string a,.string b] 42) hd)
 refine ob_app (m:=1) (news:=[.string a,.string b]) obd (by simp only[roomBytes];omega) (by omega) rfl
  (λK' hk'=>.inr (.inr ⟨rfl,d,0,1,1,_,_,_,rfl,ins_eq _ _ _,by show 0+1*2<=2;omega,?_,hk'⟩)) (λb' off l cc hx gg cap hs=>?_) λg5 s5 ob5=>?_
 ·intro v hv
  simp at hv
  rcases hv with rfl | rfl <;> rfl
 ·cases hx
  intro e
  rcases ob.buf with⟨h1',_⟩ | ⟨g3,c3,cap3,h1',h2',_⟩
  ·rw[h1']at hs;cases hs
  ·rw[h1']at hs;cases hs;rw[<-e,hd]at h2';cases h2'
 ·refine hk g5 s5 ?_
  rw[recC_app,List.length_append]
  exact ob5
theorem h_records (H:HsN x nm S h) (hn:nm.ok S) (hk:S.ok) (hR:∀g s,OB 42 2 h (hsRecs S).length (recC (hsRecs S)) g s->R (.ret s) g):ACalls Tryz.prog 14 #[ptr x] h R:=by
 refine call14 ?_
 unfold sh14
 have F:=H.f
 have hcl:=hk.cl
 have hg:=hk.g
 rw[vBin_pnil Tryz.underlying28]
 simp only[boolOf_b,gq_b,true_implies,vNil_p,vFA_p,Nat.zero_add,F.lx.ld,ne_eq,not_true_eq_false,false_implies,and_true]
 rw[vBin_pnil Tryz.underlying81]
 simp only[vPick_b,cond_false,dIf_b]
 refine⟨λe=>absurd e (by simp),λ_=>?_⟩
 refine records_ok F.hl hk.led λg1 s1 ob1=>?_
 simp only[AEnd.elim]
 have ob1':OB 42 2 h (recsOf S.L S.L.n).length (recC (recsOf S.L S.L.n)) g1 s1:=by
  rw[recsOf_len,<-recC_cells];exact ob1
 have hl0:(recsOf S.L S.L.n).length<=16:=by rw[recsOf_len];exact hcl
 unfold hsRecs at hR
 generalize recsOf S.L S.L.n=l0 at *
 rw[vLoad_1 (ob1.sub _ _ F.hx) (show (hsHd nm S)[4]?=some (.slice (some ⟨nm.bs,0,none⟩) S.G nm.bcap)from rfl),vLenS_s]
 refine lf_intro (λm s' g=>∃(i:Nat) (s:Value),s'=(s,.int .i64 i)/\m=S.G-i/\i<=S.G/\OB 42 2 h (l0++(List.range i).map (bkR S)).length (recC (l0++(List.range i).map (bkR S))) g s) S.G
  ⟨0,s1,rfl,rfl,by omega,by simpa using ob1'⟩ ?_
 rintro m s' g ⟨i,s,rfl,rfl,hi,ob⟩
 by_cases hin:i<S.G
 ·have key:∀(kn:(Value×Value×Value)->(Value×Value)->PH->Prop) x0,(∀g2 s2,OB 42 2 h (l0++(List.range (i+1)).map (bkR S)).length (recC (l0++(List.range (i+1)).map (bkR S))) g2 s2->kn (ptr x,.slice (some ⟨nm.bs,0,none⟩) S.G nm.bcap,.int .i64 S.G) (s2,.int .i64 ((i:Int)+1)) g2) ->
    b14_5 (λc h=>R (.pan c) h) x0 (ptr x,.slice (some ⟨nm.bs,0,none⟩) S.G nm.bcap,.int .i64 S.G) kn (s,.int .i64 i) g:=by
   intro kn x0 hkn
   unfold b14_5
   have hlt:(i:Int)<(S.G:Int):=by omega
   simp only[vBin_lss,hlt,decide_true,dIf_b,vIxS_p]
   refine⟨λ_=>⟨by omega,by omega,?_⟩,λe=>absurd e (by simp)⟩
   rw[vLoad_1 (ob.sub _ _ F.hb) (v:=ptr (nm.ba i)) (by simpa using hn.cb i hin)]
   refine hkey_ok (p:=bookK) (by omega) (by simp[bookK]) ?_
   simp only[AEnd.elim]
   refine bk_bytes (BkP.mono _ _ ob.sub (F.bk i hin)) (hk.bk i hin) ?_
   simp only[AEnd.elim]
   refine app_rec ob (by simp;omega) λg2 s2 ob2=>?_
   simp only[vBin_add]
   rw[w64 (by omega) (by omega)]
   refine hkn g2 s2 ?_
   rw[List.range_succ,List.map_append,<-List.append_assoc]
   exact ob2
  exact key _ _ λg2 s2 ob2=>⟨rfl,S.G-(i+1),by omega,i+1,s2,rfl,rfl,by omega,ob2⟩
 ·have e:i=S.G:=by omega
  subst e
  unfold b14_5
  simp only[vBin_lss,dIf_b]
  refine⟨λe=>absurd e (by simp),λ_=>?_⟩
  intro r hr
  simp only[Prod.mk.injEq]at hr
  obtain⟨r0,r3⟩:=hr
  simp only[r0,r3,vNil_p,vFA_p,Nat.zero_add]
  rw[vLoad_1 (ob.sub _ _ F.hx) (show (hsHd nm S)[5]?=some (.slice (some ⟨nm.ss,0,none⟩) S.G S.G)from rfl),vLenS_s]
  have hl1:(l0++(List.range S.G).map (bkR S)).length<=20:=by simp;omega
  generalize l0++(List.range S.G).map (bkR S)=l1 at *
  refine lf_intro (λm s' g=>∃(i:Nat) (s:Value),s'=(s,.int .i64 i)/\m=S.G-i/\i<=S.G/\OB 42 2 h (l1++auRs S i).length (recC (l1++auRs S i)) g s) S.G
   ⟨0,s,rfl,rfl,by omega,by simpa [auRs]using ob⟩ ?_
  clear ob
  rintro m s' g ⟨i,s,rfl,rfl,hi,ob⟩
  have hla:=auRs_len S i
  by_cases hin:i<S.G
  ·have key:∀(kn:(Value×Value×Value)->(Value×Value)->PH->Prop) x2,(∀g2 s2,OB 42 2 h (l1++auRs S (i+1)).length (recC (l1++auRs S (i+1))) g2 s2->kn (ptr x,.slice (some ⟨nm.ss,0,none⟩) S.G S.G,.int .i64 S.G) (s2,.int .i64 ((i:Int)+1)) g2) ->
     b14_10 (λc h=>R (.pan c) h) x2 (ptr x,.slice (some ⟨nm.ss,0,none⟩) S.G S.G,.int .i64 S.G) kn (s,.int .i64 i) g:=by
    intro kn x2 hkn
    unfold b14_10
    have hlt:(i:Int)<(S.G:Int):=by omega
    simp only[vBin_lss,hlt,decide_true,dIf_b,vIxS_p]
    refine⟨λ_=>⟨by omega,by omega,?_⟩,λe=>absurd e (by simp)⟩
    rw[show 0+(i:Int).toNat*2=i*2 by omega,vLoad_n (ob.sub _ _ F.hs) (by rw[saleC_size];omega),saleC_ext hin]
    refine vNew_i λd hd=>?_
    refine vStore_to (cs:=#[saleP nm S i,.int .i64 (saleW S i)]) (ins_eq _ _ _) (by rfl) (by rfl) (by unfold saleP;cases S.au i <;> rfl) ?_
    rw[ins_ins]
    have obd:=ob.up (sub_ins (.cells #[saleP nm S i,.int .i64 (saleW S i)] 98 (0,0)) hd)
    have hdd:ins g d (.cells #[saleP nm S i,.int .i64 (saleW S i)] 98 (0,0)) d=some (.cells #[saleP nm S i,.int .i64 (saleW S i)] 98 (0,0)):=ins_eq _ _ _
    revert obd hdd
    generalize ins g d (.cells #[saleP nm S i,.int .i64 (saleW S i)] 98 (0,0))=G
    intro obd hdd
    simp only[vFA_p,Nat.zero_add]
    rw[vLoad_1 hdd (v:=saleP nm S i) rfl]
    cases hau:S.au i with
    | none=>
     have hP:saleP nm S i = .pointer none:=by unfold saleP;rw[hau]
     rw[hP,vBin_nilneq Tryz.underlying96,dIf_b]
     refine⟨λe=>absurd e (by simp),λ_=>?_⟩
     rw[vBin_add,w64 (by omega) (by omega)]
     refine hkn G s ?_
     have:auRs S (i+1)=auRs S i:=by simp[auRs,auR,hau]
     rw[this]
     exact obd
    | some q=>
     obtain⟨A,w⟩:=q
     obtain⟨hAk,hA0,hAn,hw0,hwn⟩:=hk.au i A w hin hau
     have hP:saleP nm S i=ptr (nm.aa i):=by unfold saleP;rw[hau]
     have hW:saleW S i=w:=by unfold saleW;rw[hau]
     rw[hP,hW]at hdd
     rw[hP,vBin_pneq Tryz.underlying96,dIf_b]
     refine⟨λ_=>?_,λe=>absurd e (by simp)⟩
     rw[vLoad_1 hdd (v:=.int .i64 w) rfl]
     obtain⟨wn,rfl⟩:∃wn:Nat,w=wn:=⟨w.toNat,by omega⟩
     refine putInt_ok (by omega) ?_
     simp only[AEnd.elim,vExt_20,vExt_21,vFA_p,Nat.zero_add]
     rw[vLoad_1 hdd (v:=ptr (nm.aa i)) rfl]
     refine hkey_ok (p:=clockK) (by omega) (by simp[clockK]) ?_
     simp only[AEnd.elim]
     rw[vLoad_1 hdd (v:=ptr (nm.aa i)) rfl]
     refine⟨rfl,?_⟩
     refine clock_bytes ((F.au i (A,(wn:Int)) hin hau).sub obd.sub) hAk ?_
     simp only[AEnd.elim]
     have l1':=encN_10 (n:=wn) (by omega)
     have l2':(encL (aucNums A A.n)).length<=1000:=by
      have h1:=encL_len2 (aucNums_bd hAk A.n (Nat.le_refl _))
      have h2:=aucNums_len A A.n
      have h3:=hAk.n
      omega
     have eB:(aucB A).data.toList=encL (aucNums A A.n):=by simp[aucB]
     have eB2:aucB A=⟨(aucB A).data.toList.toArray⟩:=by simp[aucB]
     rw[eB2,str_cat _ _ (by rw[eB];omega)]
     refine app_rec obd (by simp;omega) λg2 s2 ob2=>?_
     simp only[vBin_add]
     rw[w64 (by omega) (by omega)]
     refine hkn g2 s2 ?_
     have:auRs S (i+1)=auRs S i ++ [(keyS clockK i,⟨(encN wn++(aucB A).data.toList).toArray⟩)]:=by simp[auRs,auR,hau]
     rw[this,<-List.append_assoc]
     exact ob2
   exact key _ _ λg2 s2 ob2=>⟨rfl,S.G-(i+1),by omega,i+1,s2,rfl,rfl,by omega,ob2⟩
  ·have e:i=S.G:=by omega
   subst e
   unfold b14_10
   simp only[vBin_lss,dIf_b]
   refine⟨λe=>absurd e (by simp),λ_=>?_⟩
   intro r hr
   simp only[Prod.mk.injEq]at hr
   obtain⟨r0,r3⟩:=hr
   simp only[r0,r3,vNil_p,vFA_p,Nat.zero_add]
   have hnow:=hk.now
   rw[vLoad_1 (ob.sub _ _ F.hx) (show (hsHd nm S)[3]?=some (.int .i64 S.now)from rfl)]
   obtain⟨nw,hnw⟩:∃nw:Nat,S.now=nw:=⟨S.now.toNat,by omega⟩
   unfold nowR at hR
   rw[hnw,Int.toNat_natCast]at hR
   rw[hnw]
   refine putInt_ok (by omega) ?_
   simp only[AEnd.elim,vExt_20,vExt_21]
   exact app_rec ob (by simp;omega) λg2 s2 ob2=>hR g2 s2 ob2
end
end Go.Pw
set_option linter.unusedSimpArgs false
set_option linter.unusedVariables false
namespace Go.Pw
open Go Go.Proofs
def newHs (c g:Int):Hs:={L:=newLed c g,now:=0,bk:=λ_=>{next:=1,l:=[]},au:=λ_=>none}
theorem bk0_ok:({next:=1,l:=[]}:Bk).ok where
 right o h:=by simp at h
 ids:=List.Pairwise.nil
 pls:=List.Pairwise.nil
 pl o h:=by simp at h
 len:=by simp
 nx:=by simp
theorem newHs_ok {c g:Int} (hc1:1<=c) (hc2:c<=16) (hg1:1<=g) (hg2:g<=4):(newHs c g).ok:=
 ⟨inv_new hc2 hg2 hg1,by show 1<=c.toNat;omega,λi _=>bk0_ok,λi _ o h=>(by simp[newHs]at h),λi A w _ h=>(by simp[newHs]at h),by simp[newHs]⟩
theorem saleC_new {nm:Nm} {S:Hs} (h:∀i,S.au i=none):rep #[.pointer none,.int .i64 0] (S.G*2)=saleC nm S:=by
 apply Array.ext_getElem?
 intro k
 rcases Nat.lt_or_ge k (S.G*2)with hk | hk
 ·have e1:(saleC nm S)[k]?=some (if k%2=0 then .pointer none else .int .i64 0):=by
   unfold saleC
   rw[Array.getElem?_ofFn,dif_pos hk]
   simp only
   unfold saleP saleW
   rw[h]
  rw[e1]
  unfold rep
  simp only[Array.getElem?_map,Array.getElem?_range,hk,if_true,Option.map_some]
  congr 1
  have hm:k%2<2:=by omega
  simp only[List.size_toArray,List.length_cons,List.length_nil]
  match hk:k%2,hm with
  | 0,_=>rfl
  | 1,_=>rfl
 ·rw[Array.getElem?_eq_none (by simp[rep];omega),Array.getElem?_eq_none (by rw[saleC_size];exact hk)]
theorem stars_emp {A:Nat->PH->Prop}:∀(n:Nat),(∀k,k<n->A k=emp)->stars A n=emp
 | 0,_=>rfl
 | n+1,h=>by unfold stars;rw[stars_emp n λk hk=>h k (by omega),h n (by omega),sep_emp_eq mono_emp]
section
variable {h g:PH} {R:AEnd->PH->Prop} {x:Nat} {nm:Nm} {S:Hs} {C:PH->Prop}
theorem led_of {b:Nat} {L:Led} (H:(pt x (.cells #[.int .i64 L.goods,.slice (some ⟨b,0,none⟩) L.n L.n] 149 (0,0))•pt b (.cells (ledCells L) 132 (0,0))•C) h):(LedP x b L•C) h:=by
 rw[<-sep_assoc]at H
 refine sep_mono H (λg hg=>?_) λ_ h=>h
 have h1:=pt_get hg
 have h2:=pt_get (sep_c hg)
 refine⟨h1,h2,λe=>?_⟩
 rw[e,h2]at h1
 injection h1 with h3
 injection h3 with _ h4
 exact absurd h4 (by decide)
theorem os_pt {e:TypeId} {esz n:Nat} {l:List Value} {s:Value} (H:(OS e esz s n l•C) h) (hn:0<n):∃g c cap,s = .slice (some ⟨g,0,none⟩) n cap/\n<=cap/\(∀j,j<n*esz->c[j]?=l[j]?)/\(pt g (.cells c e (0,0))•C) h:=by
 obtain⟨h0,hc,ob⟩:=os_ob H
 rcases ob.buf with⟨_,e0,_⟩ | ⟨g,c,cap,rfl,hg,hg0,hcs,hle,htk⟩
 ·omega
 ·refine⟨g,c,cap,rfl,hle,λj hj=>by rw[<-htk,List.getElem?_take,if_pos hj,Array.getElem?_toList],?_⟩
  refine⟨one g (.cells c e (0,0)),h0,λb hb=>?_,one_sub hg,ob.sub,ins_eq _ _ _,hc⟩
  by_cases e:b=g
  ·subst e;exact hg0
  ·exact absurd (by unfold one;rw[ins_ne _ _ e]) hb
def ptrsL (ba:Nat->Nat) (n:Nat):List Value:=(List.range n).map λk=>ptr (ba k)
theorem fill_p (v:Value) (hv:v.cells=#[v]):Instr.fill (λi=>some (i*1,1)) (rep #[Value.pointer none] (1*1)) [(0,v)]=some #[v]:=by
 have e:Array.range 1=#[0]:=by decide
 simp[Instr.fill,rep,hv,e]
def hc0 (l c g:Value) (s:Value) (ss G:Nat):Array Value:=#[l,c,g,.int .i64 0,s,.slice (some ⟨ss,0,none⟩) G G]
theorem build_house (l c g v:Value) (hl:l.cells=#[l]) (hc:c.cells=#[c]) (hg:g.cells=#[g]) (hv:v.cells=#[v]) :
  Instr.fill (λi=>[(0,1),(1,1),(2,1),(3,1),(4,1),(5,1)][i]?) #[Value.pointer none,.int .i64 0,.int .i64 0,.int .i64 0,.slice none 0 0,.slice none 0 0] [(0,l),(1,c),(2,g),(5,v)]=some #[l,c,g,.int .i64 0,.slice none 0 0,v]:=by
 simp[Instr.fill,hl,hc,hg,hv]
theorem h_new {c g:Int} (hc1:1<=c) (hc2:c<=16) (hg1:1<=g) (hg2:g<=4) (hR:∀G x nm,(∀C:PH->Prop,C h->(HsN x nm (newHs c g)•C) G)->nm.ok (newHs c g)->R (.ret (.tuple #[ptr x,.int .i64 0])) G) :
  ACalls Tryz.prog 19 #[.int .i64 c,.int .i64 g] h R:=by
 refine call19 ?_
 unfold sh19
 refine new_ok hc1 hc2 hg1 hg2 λl lb hlb hl hne=>?_
 obtain⟨C0,hC0,h0⟩:∃C0:PH->Prop,(∀g',C0 g'->g'=h)/\C0 h:=⟨λg'=>g'=h,λ_ e=>e,rfl⟩
 have H1:(LedP l lb (newLed c g)•C0) (ins (ins h lb (.cells (ledCells (newLed c g)) 132 (0,0))) l (.cells #[.int .i64 g,.slice (some ⟨lb,0,none⟩) c.toNat c.toNat] 149 (0,0))):=
  led_of (L:=newLed c g) (pt_new (by rw[ins_ne _ _ hne];exact hl) (pt_new hlb h0))
 revert H1
 generalize ins (ins h lb (.cells (ledCells (newLed c g)) 132 (0,0))) l (.cells #[.int .i64 g,.slice (some ⟨lb,0,none⟩) c.toNat c.toNat] 149 (0,0))=G1
 intro H1
 simp only[AEnd.elim,vExt_20,vExt_21,vBin_neq,decide_true,Bool.not_true,dIf_b]
 refine⟨λe=>absurd e (by simp),λ_=>?_⟩
 refine⟨_,_,_,_,rfl,rfl,by omega,by omega,by omega,by omega,λss hss=>?_⟩
 obtain⟨G,hG⟩:∃G:Nat,g=G:=⟨g.toNat,by omega⟩
 subst hG
 simp only[Int.toNat_natCast]
 refine⟨_,build_house _ _ _ _ rfl rfl rfl rfl,?_⟩
 have H2:(pt ss (.cells (rep #[.pointer none,.int .i64 0] (G*2)) 98 (0,0))•LedP l lb (newLed c G)•C0) (ins G1 ss (.cells (rep #[.pointer none,.int .i64 0] (G*2)) 98 (0,0))):=pt_new hss H1
 revert H2
 generalize ins G1 ss (.cells (rep #[.pointer none,.int .i64 0] (G*2)) 98 (0,0))=G2
 intro H2
 refine vNew_i λx hx=>?_
 rw[show (Value.agg #[ptr l,.int .i64 c,.int .i64 G,.int .i64 0,.slice none 0 0,.slice (some ⟨ss,0,none⟩) G G]).cells=hc0 (ptr l) (.int .i64 c) (.int .i64 G) (.slice none 0 0) ss G from rfl]
 have H3:(pt x (.cells (hc0 (ptr l) (.int .i64 c) (.int .i64 G) (.slice none 0 0) ss G) 85 (0,0))•pt ss (.cells (rep #[.pointer none,.int .i64 0] (G*2)) 98 (0,0))•LedP l lb (newLed c G)•C0) (ins G2 x (.cells (hc0 (ptr l) (.int .i64 c) (.int .i64 G) (.slice none 0 0) ss G) 85 (0,0))):=pt_new hx H2
 revert H3
 generalize ins G2 x (.cells (hc0 (ptr l) (.int .i64 c) (.int .i64 G) (.slice none 0 0) ss G) 85 (0,0))=G3
 intro H3
 generalize hD:(pt ss (.cells (rep #[.pointer none,.int .i64 0] (G*2)) 98 (0,0))•LedP l lb (newLed c G)•C0)=D at H3
 refine lf_intro (λm s' g'=>∃(i:Nat) (s:Value) (ba:Nat->Nat),s' = .int .i64 i/\m=G-i/\i<=G /\
   (pt x (.cells (hc0 (ptr l) (.int .i64 c) (.int .i64 G) s ss G) 85 (0,0))•OS 93 1 s i (ptrsL ba i)•stars (λk=>BkP (ba k) {next:=1,l:=[]}) i•D) g') G
  ⟨0,.slice none 0 0,λ_=>0,rfl,rfl,by omega,?_⟩ ?_
 ·refine sep_mono H3 (λ_ h=>h) λg' hg'=>?_
  refine ob_os (h0:=g') ?_ ⟨Sub.refl _,rfl,.inl ⟨rfl,rfl,rfl⟩⟩
  show (emp•D) g'
  exact sep_c (sep_emp hg')
 rintro m s' g' ⟨i,s,ba,rfl,rfl,hi,H⟩
 by_cases hin:i<G
 ·have key:∀(kn:(Value×Value)->Value->PH->Prop) x0,(∀g2 s2 ba2,(pt x (.cells (hc0 (ptr l) (.int .i64 c) (.int .i64 G) s2 ss G) 85 (0,0))•OS 93 1 s2 (i+1) (ptrsL ba2 (i+1))•stars (λk=>BkP (ba2 k) {next:=1,l:=[]}) (i+1)•D) g2->kn (ptr x,.int .i64 G) (.int .i64 ((i:Int)+1)) g2) ->
    b19_6 (λc h=>R (.pan c) h) x0 (ptr x,.int .i64 G) kn (.int .i64 i) g':=by
   intro kn x0 hkn
   unfold b19_6
   have hlt:(i:Int)<(G:Int):=by omega
   simp only[vBin_lss,hlt,decide_true,dIf_b,vNil_p,vFA_p,Nat.zero_add]
   refine⟨λ_=>?_,λe=>absurd e (by simp)⟩
   have hxx:=pt_get H
   rw[vLoad_1 hxx (v:=s) rfl]
   refine bk_new λg2 b hb hs hC=>?_
   have H4:=hC _ H
   have hxx2:=hs _ _ hxx
   simp only[AEnd.elim]
   rw[vLoad_1 hxx2 (v:=s) rfl]
   refine⟨rfl,by omega,_,fill_p (ptr b) rfl,λd hd=>⟨by omega,by omega,rfl,?_⟩⟩
   have H5:(pt d (.cells #[ptr b] 93 (0,0))•BkP b {next:=1,l:=[]}•pt x (.cells (hc0 (ptr l) (.int .i64 c) (.int .i64 G) s ss G) 85 (0,0))•OS 93 1 s i (ptrsL ba i)•stars (λk=>BkP (ba k) {next:=1,l:=[]}) i•D) (ins g2 d (.cells #[ptr b] 93 (0,0))):=pt_new hd H4
   revert H5
   generalize ins g2 d (.cells #[ptr b] 93 (0,0))=g3
   intro H5
   have hdd:=pt_get H5
   have e5:pt d (.cells #[ptr b] 93 (0,0))•BkP b {next:=1,l:=[]}•pt x (.cells (hc0 (ptr l) (.int .i64 c) (.int .i64 G) s ss G) 85 (0,0))•OS 93 1 s i (ptrsL ba i)•stars (λk=>BkP (ba k) {next:=1,l:=[]}) i•D =
     OS 93 1 s i (ptrsL ba i)•(pt d (.cells #[ptr b] 93 (0,0))•BkP b {next:=1,l:=[]}•pt x (.cells (hc0 (ptr l) (.int .i64 c) (.int .i64 G) s ss G) 85 (0,0))•stars (λk=>BkP (ba k) {next:=1,l:=[]}) i•D):=by ac_rfl
   rw[e5]at H5
   obtain⟨h6,hc6,ob6⟩:=os_ob H5
   have hd6:=pt_get hc6
   refine ob_app (m:=1) (news:=[ptr b]) ob6 (by simp only[roomBytes];omega) (by omega) rfl
    (λK' hk'=>.inr (.inr ⟨rfl,d,0,1,1,_,_,_,rfl,hdd,by show 0+1*1<=1;omega,(by intro v hv;simp at hv;subst hv;rfl),hk'⟩)) (λb' off l' cc hx' gg cap hs'=>?_) λg7 s7 ob7=>?_
   ·cases hx'
    intro e
    rcases ob6.buf with⟨h1',_⟩ | ⟨g3,c3,cap3,h1',h2',h3',_⟩
    ·rw[h1']at hs';cases hs'
    ·rw[h1']at hs';cases hs';rw[<-e,hd6]at h3';cases h3'
   have H7:=ob_os hc6 ob7
   have e7:OS 93 1 s7 (i+1) (ptrsL ba i ++ [ptr b])•(pt d (.cells #[ptr b] 93 (0,0))•BkP b {next:=1,l:=[]}•pt x (.cells (hc0 (ptr l) (.int .i64 c) (.int .i64 G) s ss G) 85 (0,0))•stars (λk=>BkP (ba k) {next:=1,l:=[]}) i•D) =
     pt x (.cells (hc0 (ptr l) (.int .i64 c) (.int .i64 G) s ss G) 85 (0,0))•(OS 93 1 s7 (i+1) (ptrsL ba i ++ [ptr b])•(stars (λk=>BkP (ba k) {next:=1,l:=[]}) i•BkP b {next:=1,l:=[]})•(D•pt d (.cells #[ptr b] 93 (0,0)))):=by ac_rfl
   rw[e7]at H7
   have hxx7:=pt_get H7
   rw[vStore_1 hxx7 (by show 4<6;omega) (by rcases ob7.buf with⟨e,_⟩ | ⟨_,_,_,e,_⟩ <;> rw[e] <;> rfl)]
   simp only[vBin_add]
   rw[w64 (by omega) (by omega)]
   have H8:=pt_put (p:=.cells (hc0 (ptr l) (.int .i64 c) (.int .i64 G) s7 ss G) 85 (0,0)) H7
   refine hkn _ s7 (λk=>if k=i then b else ba k) ?_
   refine sep_mono H8 (λ_ h=>h) λ_ h=>sep_mono h (λ_ h=>?_) λ_ h=>sep_mono h (λ_ h=>?_) λ_ h=>sep_l ?_ h
   ·have e8:ptrsL (λk=>if k=i then b else ba k) (i+1)=ptrsL ba i ++ [ptr b]:=by
     unfold ptrsL
     rw[List.range_succ,List.map_append]
     congr 1
     ·refine List.map_congr_left λk hk=>?_
      have:=List.mem_range.1 hk
      show ptr (if k=i then b else ba k)=ptr (ba k)
      rw[if_neg (by omega)]
     ·simp
    rw[e8];exact h
   ·unfold stars
    have e9:stars (λk=>BkP (if k=i then b else ba k) {next:=1,l:=[]}) i=stars (λk=>BkP (ba k) {next:=1,l:=[]}) i:=stars_congr _ λk hk=>by
     show BkP (if k=i then b else ba k) _=BkP (ba k) _
     rw[if_neg (by omega)]
    have e10:BkP ((λk=>if k=i then b else ba k) i) {next:=1,l:=[]} = BkP b {next:=1,l:=[]}:=by simp
    show (stars (λk=>BkP (if k=i then b else ba k) {next:=1,l:=[]}) i•BkP ((λk=>if k=i then b else ba k) i) {next:=1,l:=[]}) _
    rw[e9,e10]
    exact h
   ·rw[<-hD];exact mono_sep _ _
  exact key _ _ λg2 s2 ba2 H2=>⟨rfl,G-(i+1),by omega,i+1,s2,ba2,rfl,rfl,by omega,H2⟩
 ·have e:i=G:=by omega
  subst e
  unfold b19_6
  simp only[vBin_lss,dIf_b]
  refine⟨λe=>absurd e (by simp),λ_=>?_⟩
  intro r hr
  simp only[hr]
  rw[<-hD]at H
  have e9:pt x (.cells (hc0 (ptr l) (.int .i64 c) (.int .i64 i) s ss i) 85 (0,0))•OS 93 1 s i (ptrsL ba i)•stars (λk=>BkP (ba k) {next:=1,l:=[]}) i•(pt ss (.cells (rep #[.pointer none,.int .i64 0] (i*2)) 98 (0,0))•LedP l lb (newLed c i)•C0) =
    OS 93 1 s i (ptrsL ba i)•(pt x (.cells (hc0 (ptr l) (.int .i64 c) (.int .i64 i) s ss i) 85 (0,0))•stars (λk=>BkP (ba k) {next:=1,l:=[]}) i•(pt ss (.cells (rep #[.pointer none,.int .i64 0] (i*2)) 98 (0,0))•LedP l lb (newLed c i)•C0)):=by ac_rfl
  rw[e9]at H
  obtain⟨bs,cb,bcap,rfl,hcap,hcb,H⟩:=os_pt H (by omega)
  have eG:(newHs c i).G=i:=by unfold Hs.G newHs newLed;simp
  refine hR g' x {l:=l,lb:=lb,bs:=bs,bcap:=bcap,cb:=cb,ss:=ss,ba:=ba,aa:=λ_=>0,ab:=λ_=>0} (λC hC=>?_) ⟨λk hk=>?_,by rw[eG];exact hcap⟩
  ·unfold HsN
   have e1:hsO {l:=l,lb:=lb,bs:=bs,bcap:=bcap,cb:=cb,ss:=ss,ba:=ba,aa:=λ_=>0,ab:=λ_=>0} (newHs c i) = .cells (hc0 (ptr l) (.int .i64 c) (.int .i64 i) (.slice (some ⟨bs,0,none⟩) i bcap) ss i) 85 (0,0):=by
    unfold hsO hsHd hc0
    rw[eG]
    have:((newHs c i).L.n:Int)=c:=by show ((c.toNat:Nat):Int)=c;omega
    rw[this];rfl
   have e2:saO {l:=l,lb:=lb,bs:=bs,bcap:=bcap,cb:=cb,ss:=ss,ba:=ba,aa:=λ_=>0,ab:=λ_=>0} (newHs c i) = .cells (rep #[.pointer none,.int .i64 0] (i*2)) 98 (0,0):=by
    unfold saO
    rw[<-saleC_new (S:=newHs c i) (λ_=>rfl),eG]
   rw[e1,e2,eG]
   have e3:stars (auP {l:=l,lb:=lb,bs:=bs,bcap:=bcap,cb:=cb,ss:=ss,ba:=ba,aa:=λ_=>0,ab:=λ_=>0} (newHs c i)) i=emp:=stars_emp i λk _=>rfl
   rw[e3,sep_emp_eq (mono_stars _ _)]
   have e4:(pt x (.cells (hc0 (ptr l) (.int .i64 c) (.int .i64 i) (.slice (some ⟨bs,0,none⟩) i bcap) ss i) 85 (0,0))•LedP l lb (newHs c i).L•pt bs (boO {l:=l,lb:=lb,bs:=bs,bcap:=bcap,cb:=cb,ss:=ss,ba:=ba,aa:=λ_=>0,ab:=λ_=>0})•pt ss (.cells (rep #[.pointer none,.int .i64 0] (i*2)) 98 (0,0))•stars (bkP {l:=l,lb:=lb,bs:=bs,bcap:=bcap,cb:=cb,ss:=ss,ba:=ba,aa:=λ_=>0,ab:=λ_=>0} (newHs c i)) i)•C =
     pt bs (boO {l:=l,lb:=lb,bs:=bs,bcap:=bcap,cb:=cb,ss:=ss,ba:=ba,aa:=λ_=>0,ab:=λ_=>0})•(pt x (.cells (hc0 (ptr l) (.int .i64 c) (.int .i64 i) (.slice (some ⟨bs,0,none⟩) i bcap) ss i) 85 (0,0))•stars (bkP {l:=l,lb:=lb,bs:=bs,bcap:=bcap,cb:=cb,ss:=ss,ba:=ba,aa:=λ_=>0,ab:=λ_=>0} (newHs c i)) i•(pt ss (.cells (rep #[.pointer none,.int .i64 0] (i*2)) 98 (0,0))•LedP l lb (newHs c i).L•C)):=by ac_rfl
   rw[e4]
   refine sep_mono H (λ_ h=>h) λ_ h=>sep_mono h (λ_ h=>h) λ_ h=>sep_mono h (λ_ h=>h) λ_ h=>sep_mono h (λ_ h=>h) λ_ h=>sep_mono h (λ_ h=>h) λg2 h=>?_
   rw[hC0 _ h];exact hC
  ·rw[eG]at hk
   have:=hcb k (by omega)
   rw[this]
   unfold ptrsL
   rw[List.getElem?_map,List.getElem?_range hk]
   rfl
end
end Go.Pw
set_option linter.unusedSimpArgs false
set_option linter.unusedVariables false
namespace Go.Pw
open Go Go.Proofs
structure Ask where
 who:Int
 stamp:Int
 op:OpV
 raw:Bool
 t:ByteArray
def Ask.a (a:Ask):Array Value:=#[.int .i64 a.who,.int .i64 a.stamp,.int .i64 a.op.kind,.int .i64 a.op.good,.int .i64 a.op.am,.int .i64 a.op.side,.int .i64 a.op.id,.float .f64 a.op.price,.bool a.raw,.string a.t]
abbrev Ask.v (a:Ask):Value:=.agg a.a
def Ask.text (a:Ask):ByteArray:=if a.raw then a.t else opB a.op
def Ask.ok (a:Ask):Prop:=a.op.price<18446744073709551616
def AsksAt (h:PH) (v:Value) (l:List Ask):Prop:=
 ∃p cap,v = .slice p l.length cap/\l.length<=cap/\∀i a,l[i]?=some a->∃b off c e fr,p=some ⟨b,off,none⟩/\h b=some (.cells c e fr)/\off+i*10+10<=c.size/\c.extract (off+i*10) (off+i*10+10)=a.a
abbrev Own (h:PH):PH->Prop:=λg=>Sub h g
theorem Own.mono {h:PH}:Mono (Own h):=λa b hs H=>H.trans hs
def runH (S:Hs) (l:List Ask):Hs:=l.foldl (λS a=>(doH S a.who a.stamp a.text).S) S
theorem runH_ok:∀(l:List Ask) {S:Hs},S.ok->(runH S l).ok/\(runH S l).L.goods=S.L.goods/\(runH S l).L.n=S.L.n
 | [],S,h=>⟨h,rfl,rfl⟩
 | a::l,S,h=>by
  obtain⟨d1,d2,d3⟩:=doH_ok h a.who a.stamp a.text
  obtain⟨r1,r2,r3⟩:=runH_ok l d1
  exact⟨r1,r2.trans d2,r3.trans d3⟩
theorem runH_take {S:Hs} {l:List Ask} {i:Nat} {a:Ask} (ha:l[i]?=some a):runH S (l.take (i+1))=(doH (runH S (l.take i)) a.who a.stamp a.text).S:=by
 unfold runH
 rw[List.take_add_one,ha,List.foldl_append];rfl
section
variable {h g:PH} {R:AEnd->PH->Prop} {x:Nat} {nm:Nm} {S:Hs} {C:PH->Prop}
theorem text_ok2 {a:Ask} (ha:a.ok) (hR:R (.ret (.string a.text)) h):ACalls Tryz.prog 13 #[a.v] h R:=by
 refine ACalls.drop (call13 ?_)
 unfold sh13
 rw[show Value.cells a.v=a.a from rfl]
 refine vNew_gen λc G hc hs hcc=>?_
 simp only[vFA_p,Nat.zero_add]
 rw[vLoad_1 hcc (v:=.bool a.raw) rfl,dIf_b]
 unfold Ask.text at hR
 refine⟨λhr=>?_,λhr=>?_⟩
 ·rw[if_pos hr]at hR
  rw[vLoad_1 hcc (v:=.string a.t) rfl]
  exact⟨h,hs,hR⟩
 ·rw[if_neg (by simp[hr])]at hR
  rw[vLoad_n hcc (off:=2) (n:=6) (by show 2+6<=10;omega),show a.a.extract 2 (2+6)=a.op.a from rfl]
  refine opText_ok ha ?_
  simp only[AEnd.elim,vExt_20,vExt_21]
  exact⟨h,hs,hR⟩
theorem h_doC {who stamp:Int} {op:ByteArray} (H:(HsN x nm S•C) h) (hn:nm.ok S) (hk:S.ok)
  (hR:∀g nm',(HsN x nm' (doH S who stamp op).S•C) g->nm'.ok (doH S who stamp op).S->R (.ret (.tuple #[.string (doH S who stamp op).t,.int .i64 (doH S who stamp op).e])) g) :
  ACalls Tryz.prog 12 #[ptr x,.int .i64 who,.int .i64 stamp,.string op] h R:=by
 refine ACalls.sep (Q:=λe g=>e = .ret (.tuple #[.string (doH S who stamp op).t,.int .i64 (doH S who stamp op).e])/\∃nm',nm'.ok (doH S who stamp op).S/\HsN x nm' (doH S who stamp op).S g) H (λg Hg=>h_do Hg hn hk λg' nm' Hg' hn'=>⟨rfl,nm',hn',Hg'⟩) λe g Hq=>?_
 obtain⟨he,Hq2⟩:=sep_and.1 Hq
 obtain⟨nm',Hq3⟩:=sep_ex.1 Hq2
 obtain⟨hn',Hq4⟩:=sep_and.1 Hq3
 rw[he]
 exact hR g nm' Hq4 hn'
theorem h_recordsC (H:(HsN x nm S•C) h) (hn:nm.ok S) (hk:S.ok) (hR:∀g s,(HsN x nm S•OS 42 2 s (hsRecs S).length (recC (hsRecs S))•C) g->R (.ret s) g):ACalls Tryz.prog 14 #[ptr x] h R:=by
 refine ACalls.sep (Q:=λe g=>∃s,e = .ret s/\(OS 42 2 s (hsRecs S).length (recC (hsRecs S))•HsN x nm S) g) H (λg Hg=>h_records Hg hn hk λg' s ob=>⟨s,rfl,ob_os Hg ob⟩) λe g Hq=>?_
 obtain⟨s,Hq2⟩:=sep_ex.1 Hq
 obtain⟨he,Hq⟩:=sep_and.1 Hq2
 rw[he]
 refine hR g s ?_
 have e:(OS 42 2 s (hsRecs S).length (recC (hsRecs S))•HsN x nm S)•C=HsN x nm S•OS 42 2 s (hsRecs S).length (recC (hsRecs S))•C:=by ac_rfl
 rw[e]at Hq
 exact Hq
theorem recs_os {l:List Rec} {s:Value} (H:OS 42 2 s l.length (recC l) h):RecsAt h s l:=by
 obtain⟨h0,_,ob⟩:=os_ob (C:=emp) (sep_emp H)
 exact recs_of ob
set_option maxRecDepth 10000 in
theorem hbegun_ok {v:Value} {l:List Ask} (hv:AsksAt h v l) (hl:∀a∈l,a.ok)
  (hR:∀g x nm,(HsN x nm (runH (newHs 3 2) (l.take 60))•Own h) g->nm.ok (runH (newHs 3 2) (l.take 60))->R (.ret (ptr x)) g):ACalls Tryz.prog 11 #[v] h R:=by
 refine call11 ?_
 unfold sh11
 obtain⟨p,cap,rfl,_,hel⟩:=hv
 refine h_new (c:=3) (g:=2) (by omega) (by omega) (by omega) (by omega) λg x nm H0 hn0=>?_
 have H:=H0 (Own h) (Sub.refl h)
 simp only[AEnd.elim,vExt_20,vExt_21]
 rw[vBin_pnil Tryz.underlying28,dIf_b]
 refine⟨λe=>absurd e (by simp),λ_=>?_⟩
 have hk0:(newHs 3 2).ok:=newHs_ok (by omega) (by omega) (by omega) (by omega)
 generalize newHs 3 2=S0 at *
 refine lf_intro (λm s' g'=>∃(i:Nat) (nm:Nm),s' = .int .i64 i/\m=l.length-i/\i<=l.length/\i<=60/\(HsN x nm (runH S0 (l.take i))•Own h) g'/\nm.ok (runH S0 (l.take i))) l.length ⟨0,nm,rfl,rfl,by omega,by omega,H,hn0⟩ ?_
 rintro m s' g' ⟨i,nm,rfl,rfl,hi,hi60,H,hn⟩
 by_cases hil:i<l.length/\i<60
 ·obtain⟨hil,h60⟩:=hil
  obtain⟨a,ha⟩:∃a,l[i]?=some a:=⟨_,List.getElem?_eq_getElem hil⟩
  obtain⟨b',off,c,e,fr,rfl,hc,hsz,hex⟩:=hel i a ha
  have hao:=hl a (List.mem_of_getElem? ha)
  have hstep:=runH_take (S:=S0) ha
  have hk:=(runH_ok (l.take i) hk0).1
  generalize runH S0 (l.take i)=S at *
  have key:∀(kn:(Value×Value)->Value->PH->Prop) (x0:Value->PH->Prop),(∀g2 nm2,(HsN x nm2 (doH S a.who a.stamp a.text).S•Own h) g2->nm2.ok (doH S a.who a.stamp a.text).S->kn (.slice (some ⟨b',off,none⟩) l.length cap,ptr x) (.int .i64 ((i:Int)+1)) g2) ->
    b11_5 (λc h=>R (.pan c) h) x0 (.slice (some ⟨b',off,none⟩) l.length cap,ptr x) kn (.int .i64 i) g':=by
   intro kn x0 hkn
   unfold b11_5
   have hlt:(i:Int)<(l.length:Int):=by omega
   have hlt60:(i:Int)<60:=by omega
   have hcg:g' b'=some (.cells c e fr):=(sep_r Own.mono H) _ _ hc
   have ex:∀j,j<10->c[off+i*10+j]?=a.a[j]?:=λj hj=>by
    rw[<-hex,Array.getElem?_extract,if_pos (by omega)]
   simp only[vLenS_s,vBin_lss,hlt,decide_true,boolOf_b,gq_b,true_implies,ne_eq,not_true_eq_false,false_implies,and_true,hlt60,vPick_b,cond_true,dIf_b,vIxS_p,vFA_p]
   refine⟨⟨by omega,trivial,?_⟩,λe=>absurd e (by simp)⟩
   have e0:off+(i:Int).toNat*10=off+i*10:=by omega
   rw[e0,Nat.add_zero]
   have l0:∀K,vLoad none (.pointer (some ⟨b',off+i*10,none⟩)) g' K↔K (.int .i64 a.who):=λK=>vLoad_1 hcg ((ex 0 (by omega)).trans rfl)
   have l1:∀K,vLoad none (.pointer (some ⟨b',off+i*10+1,none⟩)) g' K↔K (.int .i64 a.stamp):=λK=>vLoad_1 hcg ((ex 1 (by omega)).trans rfl)
   rw[l0]
   refine⟨by omega,trivial,?_⟩
   rw[l1]
   refine⟨by omega,trivial,?_⟩
   rw[vLoad_n hcg (by omega),hex]
   refine text_ok2 hao ?_
   simp only[AEnd.elim]
   rw[l0,l1]
   refine⟨rfl,rfl,?_⟩
   refine h_doC H hn hk λg2 nm2 H2 hn2=>?_
   simp only[AEnd.elim,vBin_add]
   rw[w64 (by omega) (by omega)]
   exact hkn g2 nm2 H2 hn2
  exact key _ _ λg2 nm2 H2 hn2=>⟨rfl,l.length-(i+1),by omega,i+1,nm2,rfl,rfl,by omega,by omega,by rw[hstep];exact H2,by rw[hstep];exact hn2⟩
 ·have out:∀(kn:(Value×Value)->Value->PH->Prop) (x0:Value->PH->Prop),x0 (ptr x) g'->b11_5 (λc h=>R (.pan c) h) x0 (.slice p l.length cap,ptr x) kn (.int .i64 i) g':=by
   intro kn x0 hx0
   unfold b11_5
   by_cases hil2:i<l.length
   ·have h60:¬(i:Int)<60:=by omega
    simp[hil2,h60]
    exact hx0
   ·simp[hil2]
    exact hx0
  refine out _ _ ?_
  intro r hr
  rw[show r 3=_ from hr]
  have e:l.take i=l.take 60:=by
   rcases Nat.lt_or_ge i 60 with h1 | h1
   ·rw[List.take_of_length_le (by omega),List.take_of_length_le (by omega)]
   ·have:i=60:=by omega
    rw[this]
  rw[e]at H hn
  exact hR _ _ _ H hn
end
end Go.Pw
set_option linter.unusedSimpArgs false
set_option linter.unusedVariables false
namespace Go.Pw
open Go Go.Proofs
section
variable {h g:PH} {R:AEnd->PH->Prop} {x:Nat} {nm:Nm} {S:Hs} {C:PH->Prop} {i:Nat}
theorem h_account (H:HsN x nm S h) (hi:i<S.L.n) (hR:R (.ret (.tuple #[.agg (acctCells S.L i),.bool true])) h):ACalls Tryz.prog 23 #[ptr x,.int .i64 i] h R:=by
 refine ACalls.drop (call23 ?_)
 unfold sh23
 refine vNew_i λc hc=>?_
 have H1:=HsN.mono _ _ (sub_ins (.cells #[.int .i64 0,.int .i64 0,.int .i64 0,.int .i64 0,.int .i64 0,.int .i64 0,.int .i64 0,.int .i64 0,.int .i64 0,.int .i64 0] 61 (0,0)) hc) H
 rw[vBin_pnil Tryz.underlying28,dIf_b]
 refine⟨λe=>absurd e (by simp),λ_=>?_⟩
 simp only[vNil_p,vFA_p,Nat.zero_add,H1.f.lx.ld]
 refine acct_ok H1.f.hl hi ?_
 simp only[AEnd.elim,vExt_20,vExt_21]
 refine vStore_to (cs:=acctCells S.L i) (ins_eq _ _ _) (by rfl) (by rfl) (by rfl) ?_
 rw[ins_ins,vLoad_n (ins_eq _ _ _) (by show 0+10<=10;omega)]
 rw[show (acctCells S.L i).extract 0 (0+10)=acctCells S.L i from rfl]
 exact⟨h,sub_ins _ hc,hR⟩
theorem h_now (H:HsN x nm S h) (hR:R (.ret (.int .i64 S.now)) h):ACalls Tryz.prog 26 #[ptr x] h R:=by
 refine call26 ?_
 unfold sh26
 rw[vBin_pnil Tryz.underlying28,dIf_b]
 refine⟨λe=>absurd e (by simp),λ_=>?_⟩
 simp only[vNil_p,vFA_p,Nat.zero_add]
 rw[vLoad_1 H.f.hx (show (hsHd nm S)[3]?=some (.int .i64 S.now)from rfl)]
 exact hR
theorem h_market (H:HsN x nm S h) (hn:nm.ok S) (hk:S.ok) (hi:i<S.G) (hR:∀g s,OB 78 6 h (S.bk i).l.length (ordsC (S.bk i).l) g s->R (.ret s) g):ACalls Tryz.prog 27 #[ptr x,.int .i64 i] h R:=by
 refine call27 ?_
 unfold sh27
 have hg:=hk.g
 rw[vBin_pnil Tryz.underlying28]
 have h1:¬(i:Int)<0:=by omega
 have h2:¬S.L.goods<=(i:Int):=by omega
 simp only[boolOf_b,gq_b,true_implies,vNil_p,vFA_p,Nat.zero_add,ne_eq,not_true_eq_false,false_implies,and_true,vBin_lss,h1,decide_false,vPick_b,cond_false]
 rw[vLoad_1 H.f.hx (show (hsHd nm S)[2]?=some (.int .i64 S.L.goods)from rfl)]
 simp only[vBin_geq,h2,decide_false,vPick_b,cond_false,dIf_b]
 refine⟨λe=>absurd e (by simp),λ_=>?_⟩
 refine H.f.book hn hi ?_
 refine bk_orders (H.f.bk i hi) (hk.bk i hi).len λg s ob=>?_
 simp only[AEnd.elim]
 exact hR g s ob
theorem h_market_bad (H:HsN x nm S h) (hk:S.ok) {good:Int} (hb:good<0\/(S.G:Int)<=good) (hR:R (.ret (.slice none 0 0)) h):ACalls Tryz.prog 27 #[ptr x,.int .i64 good] h R:=by
 refine call27 ?_
 unfold sh27
 have hg:=hk.g
 rw[vBin_pnil Tryz.underlying28]
 have lx:=λK=>vLoad_1 (K:=K) H.f.hx (show (hsHd nm S)[2]?=some (.int .i64 S.L.goods)from rfl)
 by_cases h1:good<0
 ·simp[h1]
  exact hR
 ·have h2:S.L.goods<=good:=by omega
  simp[h1,lx,h2]
  exact hR
end
end Go.Pw
set_option linter.unusedSimpArgs false
set_option linter.unusedVariables false
namespace Go.Pw
open Go Go.Proofs
def awOp (k g m d i:Int) (p:Nat):OpV:={kind:=k,good:=g,am:=m,side:=d,id:=i,price:=p}
def aw0H:Hs:=newHs 2 1
def q1:OpV:=awOp 2 0 6400 0 0 0
def q2:OpV:=awOp 4 0 5 0 0 0
def q3:OpV:=awOp 8 0 5 0 1 4611686018427387904
def q4:OpV:=awOp 8 0 3 1 1 4609434218613702656
def q5:OpV:=awOp 1 0 0 0 0 0
theorem enc_6400:encN 6400 = [128,50]:=by rw[encN_big (by omega),encN_small (by omega)];rfl
theorem enc0:encN 0 = [0]:=encN_small (by omega)
theorem enc1:encN 1 = [1]:=encN_small (by omega)
theorem ob1:opB q1=⟨#[2,0,128,50,0,0,0,0,0,0,0,0,0,0]⟩:=by
 have:¬∃n∈q1.nums,n<0\/9007199254740992<n:=by decide
 unfold opB
 rw[if_neg this]
 have e:encL q1.nums = [2,0,128,50,0,0]:=by
  show encN 2++(encN 0++(encN 6400++(encN 0++(encN 0 ++ []))))=_
  rw[enc_6400,enc0,encN_small (by omega)];rfl
 rw[e];rfl
theorem of1:ofOpO (opB q1)=(q1,0):=by rw[ob1];kernel_rfl
def aw1H:Hs:=(actH aw0H 0 q1).S.setL (markL (actH aw0H 0 q1).S.L 0 1 ⟨#[0,0]⟩).2
def aw2H:Hs:=(actH aw1H 1 q2).S.setL (markL (actH aw1H 1 q2).S.L 1 2 ⟨#[0,0]⟩).2
def aw3H:Hs:=(actH aw2H 0 q3).S.setL (markL (actH aw2H 0 q3).S.L 0 3 ⟨#[0,0]⟩).2
def aw4H:Hs:=(actH aw3H 1 q4).S.setL (markL (actH aw3H 1 q4).S.L 1 4 ⟨#[0,0]⟩).2
def aw5H:Hs:=(actH aw4H 0 q5).S.setL (markL (actH aw4H 0 q5).S.L 0 5 ⟨#[0,1]⟩).2
theorem ae1:(actH aw0H 0 q1).e=0:=by kernel_rfl
theorem ae2:(actH aw1H 1 q2).e=0:=by kernel_rfl
theorem ae3:(actH aw2H 0 q3).e=0:=by kernel_rfl
theorem ae4:(actH aw3H 1 q4).e=0:=by kernel_rfl
theorem ae5:(actH aw4H 0 q5).e=0:=by kernel_rfl
theorem an5:(actH aw4H 0 q5).n=1:=by kernel_rfl
theorem an1:(actH aw0H 0 q1).n=0:=by kernel_rfl
theorem an2:(actH aw1H 1 q2).n=0:=by kernel_rfl
theorem an3:(actH aw2H 0 q3).n=0:=by kernel_rfl
theorem an4:(actH aw3H 1 q4).n=0:=by kernel_rfl
theorem as0:aw0H.L.f 0 10=0:=by kernel_rfl
theorem as1:aw1H.L.f 1 10=0:=by kernel_rfl
theorem as2:aw2H.L.f 0 10=1:=by kernel_rfl
theorem as3:aw3H.L.f 1 10=2:=by kernel_rfl
theorem as4:aw4H.L.f 0 10=3:=by kernel_rfl
theorem av1:aw5H.now=1:=by kernel_rfl
theorem av2:aw5H.L.f 0 2=3:=by kernel_rfl
theorem av3:aw5H.L.f 0 0=6112:=by kernel_rfl
theorem av4:aw5H.L.f 0 1=256:=by kernel_rfl
theorem av5:aw5H.L.f 1 0=288:=by kernel_rfl
theorem av6:aw5H.L.f 1 6=0:=by kernel_rfl
end Go.Pw
set_option linter.unusedSimpArgs false
set_option linter.unusedVariables false
namespace Go.Pw
open Go Go.Proofs
theorem encL_small:∀{l:List Int},(∀n∈l,0<=n/\n<128)->encL l=l.map λn=>UInt8.ofNat n.toNat
 | [],_=>rfl
 | n::l,h=>by
  have h1:=h n (by simp)
  have h2:=encL_small (l:=l) λx hx=>h x (by simp[hx])
  show encN n.toNat++encL l=_
  rw[h2,encN_small (by omega)];rfl
theorem opB_small {o:OpV} (h:∀n∈o.nums,0<=n/\n<128):opB o=⟨(o.nums.map (λn=>UInt8.ofNat n.toNat)++le8 o.price 8).toArray⟩:=by
 unfold opB
 rw[if_neg (by rintro⟨n,hn,h1⟩;have:=h n hn;omega),encL_small h]
theorem of2:ofOpO (opB q2)=(q2,0):=by rw[opB_small (by decide)];kernel_rfl
theorem of3:ofOpO (opB q3)=(q3,0):=by rw[opB_small (by decide)];kernel_rfl
theorem of4:ofOpO (opB q4)=(q4,0):=by rw[opB_small (by decide)];kernel_rfl
theorem of5:ofOpO (opB q5)=(q5,0):=by rw[opB_small (by decide)];kernel_rfl
def ask (w:Int) (q:OpV):Ask:={who:=w,stamp:=0,op:=q,raw:=false,t:=⟨#[]⟩}
def awL:List Ask:=[ask 0 q1,ask 1 q2,ask 0 q3,ask 1 q4,ask 0 q5]
def awS:Nat->Hs
 | 0=>aw0H
 | 1=>aw1H
 | 2=>aw2H
 | 3=>aw3H
 | 4=>aw4H
 | _=>aw5H
def awT:Nat->ByteArray
 | 4=>⟨#[0,1]⟩
 | _=>⟨#[0,0]⟩
theorem do_step {S:Hs} {w:Nat} {stamp:Int} {op:ByteArray} {o:OpV} {n:Nat} {c:UInt8} (hw:w<S.L.n) (hs:1<=stamp/\stamp<=1099511627776) (hl:S.L.f w 10<stamp) (ho:ofOpO op=(o,0)) (he:(actH S w o).e=0) (hn:(actH S w o).n=n) (hc:encN n = [c]) :
  doH S w stamp op=⟨⟨#[0,c]⟩,0,(actH S w o).S.setL (markL (actH S w o).S.L w stamp ⟨#[0,c]⟩).2⟩:=by
 unfold doH
 rw[if_neg (by omega),if_neg (by omega),if_neg (by rw[Int.toNat_natCast];omega)]
 simp only[Int.toNat_natCast]
 have hd:didH S w op=actH S w o:=by unfold didH;rw[ho];simp
 rw[hd]
 have hr:repB (actH S w o).e (actH S w o).n=⟨#[0,c]⟩:=by
  unfold repB
  rw[he,hn,Int.toNat_natCast,hc,show (0:Int).toNat=0 from rfl,enc0]
  rfl
 unfold markH
 rw[hr]
theorem aw_do {i:Nat} {a:Ask} (ha:awL[i]?=some a):doH (awS i) a.who ((i:Int)+1) a.text=⟨awT i,0,awS (i+1)⟩/\a.ok:=by
 have tx:∀w q,(ask w q).text=opB q:=λw q=>by simp[Ask.text,ask]
 match i,ha with
 | 0,ha=>cases ha;rw[tx];exact⟨do_step (w:=0) (n:=0) (by decide) (by decide) (by rw[show (awS 0).L.f 0 10=0 from as0];decide) of1 ae1 an1 enc0,by unfold Ask.ok;decide⟩
 | 1,ha=>cases ha;rw[tx];exact⟨do_step (w:=1) (n:=0) (by decide) (by decide) (by rw[show (awS 1).L.f 1 10=0 from as1];decide) of2 ae2 an2 enc0,by unfold Ask.ok;decide⟩
 | 2,ha=>cases ha;rw[tx];exact⟨do_step (w:=0) (n:=0) (by decide) (by decide) (by rw[show (awS 2).L.f 0 10=1 from as2];decide) of3 ae3 an3 enc0,by unfold Ask.ok;decide⟩
 | 3,ha=>cases ha;rw[tx];exact⟨do_step (w:=1) (n:=0) (by decide) (by decide) (by rw[show (awS 3).L.f 1 10=2 from as3];decide) of4 ae4 an4 enc0,by unfold Ask.ok;decide⟩
 | 4,ha=>cases ha;rw[tx];exact⟨do_step (w:=0) (n:=1) (by decide) (by decide) (by rw[show (awS 4).L.f 0 10=3 from as4];decide) of5 ae5 an5 enc1,by unfold Ask.ok;decide⟩
 | i+5,ha=>simp[awL]at ha
def z10:Array Value:=#[.int .i64 0,.int .i64 0,.int .i64 0,.int .i64 0,.int .i64 0,.int .i64 0,.int .i64 0,.float .f64 0,.bool false,.string ⟨#[]⟩]
def awC:Array Value:=(awL.flatMap λa=>a.a.toList).toArray
theorem fill_ask (w:Int) (q:OpV):Instr.fill (λi=>[(0,1),(1,1),(2,6),(8,1),(9,1)][i]?) z10 [(0,.int .i64 w),(2,.agg q.a)]=some (ask w q).a:=by kernel_rfl
theorem fill_awL:Instr.fill (λi=>some (i*10,10)) (rep z10 (5*10)) [(0,.agg (ask 0 q1).a),(1,.agg (ask 1 q2).a),(2,.agg (ask 0 q3).a),(3,.agg (ask 1 q4).a),(4,.agg (ask 0 q5).a)]=some awC:=by kernel_rfl
theorem aex0:awC.extract (0*10) (0*10+10)=(ask 0 q1).a:=by kernel_rfl
theorem aex1:awC.extract (1*10) (1*10+10)=(ask 1 q2).a:=by kernel_rfl
theorem aex2:awC.extract (2*10) (2*10+10)=(ask 0 q3).a:=by kernel_rfl
theorem aex3:awC.extract (3*10) (3*10+10)=(ask 1 q4).a:=by kernel_rfl
theorem aex4:awC.extract (4*10) (4*10+10)=(ask 0 q5).a:=by kernel_rfl
theorem awC_ext {i:Nat} {a:Ask} (ha:awL[i]?=some a):awC.extract (i*10) (i*10+10)=a.a:=by
 match i,ha with
 | 0,ha=>cases ha;exact aex0
 | 1,ha=>cases ha;exact aex1
 | 2,ha=>cases ha;exact aex2
 | 3,ha=>cases ha;exact aex3
 | 4,ha=>cases ha;exact aex4
 | i+5,ha=>simp[awL]at ha
section
variable {h g:PH} {R:AEnd->PH->Prop}
set_option maxRecDepth 10000 in
theorem hawake_ok (hR:R (.ret (.bool true)) h):ACalls Tryz.prog 16 #[] h R:=by
 refine ACalls.drop (call16 ?_)
 unfold sh16
 refine h_new (c:=2) (g:=1) (by omega) (by omega) (by omega) (by omega) λg x nm H0 hn0=>?_
 have H:=H0 (Own h) (Sub.refl h)
 clear H0
 simp only[AEnd.elim,vExt_20,vExt_21,vBin_neq,decide_true,Bool.not_true,boolOf_b,gq_b,true_implies,ne_eq,not_true_eq_false,false_implies,and_true]
 rw[vBin_pnil Tryz.underlying28]
 simp only[vPick_b,cond_false,dIf_b]
 refine⟨λe=>absurd e (by simp),λ_=>?_⟩
 refine⟨q1.a,by rfl,(ask 0 q1).a,fill_ask 0 q1,q2.a,by rfl,(ask 1 q2).a,fill_ask 1 q2,q3.a,by rfl,(ask 0 q3).a,fill_ask 0 q3,q4.a,by rfl,(ask 1 q4).a,fill_ask 1 q4,q5.a,by rfl,(ask 0 q5).a,fill_ask 0 q5,?_⟩
 refine⟨by omega,awC,fill_awL,λd hd=>?_⟩
 have H1:(pt d (.cells awC 27 (0,0))•HsN x nm (awS 0)•Own h) (ins g d (.cells awC 27 (0,0))):=pt_new hd H
 have H2:(HsN x nm (awS 0)•pt d (.cells awC 27 (0,0))•Own h) (ins g d (.cells awC 27 (0,0))):=by rw[sep_lc];exact H1
 clear H1
 revert H2
 generalize ins g d (.cells awC 27 (0,0))=g1
 intro H2
 have hk0:∀i,(awS i).ok:=by
  have k0:(awS 0).ok:=newHs_ok (by omega) (by omega) (by omega) (by omega)
  have st:∀i,i<5->(awS i).ok->(awS (i+1)).ok:=λi hi hk=>by
   have hl:i<awL.length:=hi
   have:=(aw_do (List.getElem?_eq_getElem hl)).1
   have h1:=(doH_ok hk (awL[i]'hl).who ((i:Int)+1) (awL[i]'hl).text).1
   rw[this]at h1
   exact h1
  have k1:=st 0 (by omega) k0
  have k2:=st 1 (by omega) k1
  have k3:=st 2 (by omega) k2
  have k4:=st 3 (by omega) k3
  have k5:=st 4 (by omega) k4
  intro i
  match i with
  | 0=>exact k0
  | 1=>exact k1
  | 2=>exact k2
  | 3=>exact k3
  | 4=>exact k4
  | i+5=>exact k5
 refine lf_intro (λm s' g'=>∃(i:Nat) (nm:Nm),s'=(.bool false,.int .i64 i)/\m=5-i/\i<=5/\(HsN x nm (awS i)•pt d (.cells awC 27 (0,0))•Own h) g'/\nm.ok (awS i)) 5 ⟨0,nm,rfl,rfl,by omega,H2,hn0⟩ ?_
 clear H2 hn0 H hd
 rintro m s' g' ⟨i,nm,rfl,rfl,hi,H,hn⟩
 by_cases hil:i<5
 ·have hl:i<awL.length:=hil
  have ha:awL[i]?=some awL[i]:=List.getElem?_eq_getElem hl
  generalize awL[i]=a at ha
  obtain⟨hdo,hao⟩:=aw_do ha
  have hex:=awC_ext ha
  have hcc:=pt_get (sep_r (mono_sep _ _) H)
  have hsz:awC.size=50:=by kernel_rfl
  have ex:∀j,j<10->awC[i*10+j]?=a.a[j]?:=λj hj=>by
   rw[<-hex,Array.getElem?_extract,if_pos (by omega)]
  have hk:=hk0 i
  have key:∀(kn:(Value×Value)->(Value×Value)->PH->Prop) x0 xr,(∀g2 nm2,(HsN x nm2 (awS (i+1))•pt d (.cells awC 27 (0,0))•Own h) g2->nm2.ok (awS (i+1))->kn (ptr x,.slice (some ⟨d,0,none⟩) 5 5) (.bool false,.int .i64 ((i:Int)+1)) g2) ->
    b16_6 (λc h'=>∃g,Sub g h'/\R (.pan c) g) x0 xr (ptr x,.slice (some ⟨d,0,none⟩) 5 5) kn (.bool false,.int .i64 i) g':=by
   intro kn x0 xr hkn
   unfold b16_6
   have hlt:(i:Int)<((5:Nat):Int):=by omega
   simp only[vLenS_s,vBin_lss,hlt,decide_true,dIf_b,vIxS_p,vFA_p]
   refine⟨λ_=>⟨by omega,by omega,?_⟩,λe=>absurd e (by simp)⟩
   have e0:0+(i:Int).toNat*10=i*10:=by omega
   rw[e0,Nat.add_zero]
   have l0:∀K,vLoad none (.pointer (some ⟨d,i*10,none⟩)) g' K↔K (.int .i64 a.who):=λK=>vLoad_1 hcc ((ex 0 (by omega)).trans rfl)
   rw[l0,vBin_add,w64 (by omega) (by omega)]
   refine⟨by omega,by omega,?_⟩
   rw[vLoad_n hcc (by omega),hex]
   refine text_ok2 hao ?_
   simp only[AEnd.elim]
   rw[l0]
   refine⟨rfl,?_⟩
   refine h_doC H hn hk ?_
   rw[hdo]
   intro g2 nm2 H2 hn2
   have hT:awT i=⟨#[0,0]⟩\/awT i=⟨#[0,1]⟩:=by
    match i with
    | 0=>exact .inl rfl
    | 1=>exact .inl rfl
    | 2=>exact .inl rfl
    | 3=>exact .inl rfl
    | 4=>exact .inr rfl
    | i+5=>exact .inl rfl
   obtain⟨c,hc⟩:∃c:UInt8,awT i=⟨#[0,c]⟩:=by rcases hT with h | h <;> exact⟨_,h⟩
   simp only[AEnd.elim,vExt_20,vExt_21,vBin_neq,decide_true,Bool.not_true,boolOf_b,gq_b,true_implies,ne_eq,not_true_eq_false,false_implies,and_true,vLenStr_s,vPick_b,cond_false]
   rw[hc]
   have hsz2:((ByteArray.size ⟨#[0,c]⟩:Nat):Int)=2:=rfl
   rw[hsz2]
   simp only[decide_true,Bool.not_true,boolOf_b,gq_b,true_implies,ne_eq,not_true_eq_false,false_implies,and_true,vPick_b,cond_false]
   refine⟨⟨#[0,c]⟩,_,_,0,rfl,rfl,by omega,rfl,?_⟩
   refine (vBin_neq 5 .u8 0 0).2 ?_
   simp only[decide_true,Bool.not_true,vPick_b,cond_false,dIf_b,vBin_add]
   refine⟨λe=>absurd e (by simp),λ_=>?_⟩
   rw[w64 (by omega) (by omega)]
   exact hkn g2 nm2 H2 hn2
  exact key _ _ _ λg2 nm2 H2 hn2=>⟨rfl,5-(i+1),by omega,i+1,nm2,rfl,rfl,by omega,H2,hn2⟩
 ·have e:i=5:=by omega
  subst e
  unfold b16_6
  simp only[vLenS_s,vBin_lss,dIf_b]
  refine⟨λe=>absurd e (by simp),λ_=>?_⟩
  intro r hr
  simp only[Prod.mk.injEq]at hr
  obtain⟨r0,r1⟩:=hr
  simp only[r0,r1]
  have hsub:Sub h g':=sep_r Own.mono (sep_r (mono_sep _ _) H)
  have HN:HsN x nm aw5H g':=sep_l HsN.mono H
  clear H
  have hn5:aw5H.L.n=2:=by kernel_rfl
  refine h_account (i:=0) HN (by omega) ?_
  simp only[AEnd.elim,vExt_20,vExt_21]
  refine vNew_i λc1 hc1=>?_
  refine vStore_to (cs:=acctCells aw5H.L 0) (ins_eq _ _ _) (by rfl) (by rfl) (by rfl) ?_
  rw[ins_ins]
  have s1:Sub g' (ins g' c1 (.cells (acctCells aw5H.L 0) 61 (0,0))):=sub_ins _ hc1
  have q1':ins g' c1 (.cells (acctCells aw5H.L 0) 61 (0,0)) c1=some (.cells (acctCells aw5H.L 0) 61 (0,0)):=ins_eq _ _ _
  revert s1 q1'
  generalize ins g' c1 (.cells (acctCells aw5H.L 0) 61 (0,0))=G1
  intro s1 k1
  have HN1:=HsN.mono _ _ s1 HN
  refine h_account (i:=1) HN1 (by omega) ?_
  simp only[AEnd.elim,vExt_20,vExt_21]
  refine vNew_i λc2 hc2=>?_
  refine vStore_to (cs:=acctCells aw5H.L 1) (ins_eq _ _ _) (by rfl) (by rfl) (by rfl) ?_
  rw[ins_ins]
  have s2:Sub G1 (ins G1 c2 (.cells (acctCells aw5H.L 1) 61 (0,0))):=sub_ins _ hc2
  have k2:ins G1 c2 (.cells (acctCells aw5H.L 1) 61 (0,0)) c2=some (.cells (acctCells aw5H.L 1) 61 (0,0)):=ins_eq _ _ _
  revert s2 k2
  generalize ins G1 c2 (.cells (acctCells aw5H.L 1) 61 (0,0))=G2
  intro s2 k2
  have k1':=s2 _ _ k1
  refine h_now (HsN.mono _ _ s2 HN1) ?_
  have ld:=λ{j:Nat} {v:Value} (hv:(acctCells aw5H.L 0)[j]?=some v) (K:Value->Prop)=>vLoad_1 (K:=K) k1' hv
  have ld2:=λ{j:Nat} {v:Value} (hv:(acctCells aw5H.L 1)[j]?=some v) (K:Value->Prop)=>vLoad_1 (K:=K) k2 hv
  have a0:=ld (j:=0) (v:=.int .i64 6112) (by show some (Value.int .i64 (aw5H.L.f 0 0))=_;rw[av3])
  have a1:=ld (j:=1) (v:=.int .i64 256) (by show some (Value.int .i64 (aw5H.L.f 0 1))=_;rw[av4])
  have a2:=ld (j:=2) (v:=.int .i64 3) (by show some (Value.int .i64 (aw5H.L.f 0 2))=_;rw[av2])
  have b0:=ld2 (j:=0) (v:=.int .i64 288) (by show some (Value.int .i64 (aw5H.L.f 1 0))=_;rw[av5])
  have b6:=ld2 (j:=6) (v:=.int .i64 0) (by show some (Value.int .i64 (aw5H.L.f 1 6))=_;rw[av6])
  rw[av1]
  simp[AEnd.elim,a0,a1,a2,b0,b6]
  exact⟨h,(hsub.trans s1).trans s2,hR⟩
end
end Go.Pw
set_option linter.unusedSimpArgs false
set_option linter.unusedVariables false
namespace Go.Pw
open Go Go.Proofs
def sameR (L M:Led):Prop:=(∀i,M.f i 10=L.f i 10)/\M.r=L.r
theorem sameR_refl (L:Led):sameR L L:=⟨λ_=>rfl,rfl⟩
theorem sameR_trans {A B C:Led} (h:sameR A B) (k:sameR B C):sameR A C:=⟨λi=>(k.1 i).trans (h.1 i),k.2.trans h.2⟩
theorem sameR_set {L M:Led} (h:sameR L M) {k c:Nat} {v:Int} (hc:c≠10):sameR L (M.set k c v):=
 ⟨λi=>by rw[set_ne (by omega)];exact h.1 i,h.2⟩
theorem partE_g {L:Led} {g n:Int} (hg:L.goods<=4) (h:¬partE L g n≠0):g.toNat<4:=by
 have:=partE_n (Decidable.not_not.1 h)
 omega
section
variable {L:Led} {i j:Nat} {g n p:Int}
theorem pay_R:sameR L (payL L i n).2:=by unfold payL;(repeat' split) <;> first | exact sameR_refl L | exact sameR_set (sameR_refl L) (by omega)
theorem take_R:sameR L (takeL L i n).2:=by unfold takeL;(repeat' split) <;> first | exact sameR_refl L | exact sameR_set (sameR_refl L) (by omega)
theorem hold_R0:sameR L (holdL L i n).2:=by unfold holdL;(repeat' split) <;> first | exact sameR_refl L | exact sameR_set (sameR_refl L) (by omega)
theorem free_R0:sameR L (freeL L i n).2:=by unfold freeL;(repeat' split) <;> first | exact sameR_refl L | exact sameR_set (sameR_refl L) (by omega)
theorem store_R (hg:L.goods<=4):sameR L (storeL L i g n).2:=by
 unfold storeL
 split
 ·exact sameR_refl L
 ·rename_i h;have:=partE_g hg h
  split
  ·exact sameR_refl L
  ·exact sameR_set (sameR_refl L) (by omega)
theorem fetch_R (hg:L.goods<=4):sameR L (fetchL L i g n).2:=by
 unfold fetchL
 split
 ·exact sameR_refl L
 ·rename_i h;have:=partE_g hg h
  split
  ·exact sameR_refl L
  ·exact sameR_set (sameR_refl L) (by omega)
theorem lock_R0 (hg:L.goods<=4):sameR L (lockL L i g n).2:=by
 unfold lockL
 split
 ·exact sameR_refl L
 ·rename_i h;have:=partE_g hg h
  split
  ·exact sameR_refl L
  ·exact sameR_set (sameR_refl L) (by omega)
theorem unlock_R0 (hg:L.goods<=4):sameR L (unlockL L i g n).2:=by
 unfold unlockL
 split
 ·exact sameR_refl L
 ·rename_i h;have:=partE_g hg h
  split
  ·exact sameR_refl L
  ·exact sameR_set (sameR_refl L) (by omega)
theorem move_R:sameR L (moveL L i j n).2:=by
 unfold moveL moveTo
 (repeat' split) <;> first | exact sameR_refl L | exact sameR_set (sameR_set (sameR_set (sameR_refl L) (by omega)) (by omega)) (by omega)
theorem hand_R (hg:L.goods<=4):sameR L (handL L i j g n).2:=by
 unfold handL
 split
 ·exact sameR_refl L
 ·rename_i h;have:=partE_g hg h
  split
  ·exact sameR_refl L
  ·unfold handTo
   exact sameR_set (sameR_set (sameR_set (sameR_refl L) (by omega)) (by omega)) (by omega)
theorem hold_R:sameR L (holdH L i n):=by
 unfold holdH
 repeat' split
 ·exact hold_R0
 ·exact free_R0
 ·exact sameR_refl L
theorem lock_R (hg:L.goods<=4):sameR L (lockH L i g n):=by
 unfold lockH
 repeat' split
 ·exact lock_R0 hg
 ·exact unlock_R0 hg
 ·exact sameR_refl L
theorem trade_R (hg:L.goods<=4):sameR L (tradeH L i j g p n):=by
 unfold tradeH
 repeat' split
 ·exact sameR_trans (hand_R hg) move_R
 ·exact hand_R hg
 ·exact sameR_refl L
end
theorem rdRun_R (held:Nat->Int) (t:Led×Auc):∀k,sameR t.1 (rdRun held t k).1
 | 0=>sameR_refl _
 | k+1=>sameR_trans (rdRun_R held t k) hold_R
theorem slRun_gn (gd:Int) (w:Nat) (p:Int) (held got:Nat->Int) (t:Led×Int):∀k,(slRun gd w p held got t k).1.goods=t.1.goods
 | 0=>rfl
 | k+1=>by
  show (holdH (tradeH (slRun gd w p held got t k).1 w k gd p (got k)) k _).goods=_
  rw[(holdH_gn _ _ _).1,(tradeH_gn _ _ _ _ _ _).1,slRun_gn gd w p held got t k]
theorem slRun_R {gd:Int} {w:Nat} {p:Int} {held got:Nat->Int} {t:Led×Int} (hg:t.1.goods<=4):∀k,sameR t.1 (slRun gd w p held got t k).1
 | 0=>sameR_refl _
 | k+1=>by
  refine sameR_trans (slRun_R (gd:=gd) (w:=w) (p:=p) (held:=held) (got:=got) hg k) ?_
  show sameR _ (holdH (tradeH (slRun gd w p held got t k).1 w k gd p (got k)) k _)
  exact sameR_trans (trade_R (by rw[slRun_gn];exact hg)) hold_R
theorem matchF_R {gd p:Int}:∀(k:Nat) (L:Led) (bu se:List Fil),L.goods<=4->sameR L (matchF gd p k L bu se)
 | 0,L,bu,se,h=>by cases bu <;> cases se <;> exact sameR_refl L
 | k+1,L,[],se,h=>by rw[matchF_nil];exact sameR_refl L
 | k+1,L,b::bs,[],h=>by rw[matchF_nil2];exact sameR_refl L
 | k+1,L,b::bs,s::ss,h=>by
  show sameR L (matchF gd p k _ _ _)
  exact sameR_trans (trade_R h) (matchF_R k _ _ _ (by rw[(tradeH_gn _ _ _ _ _ _).1];exact h))
theorem inF_R (p:Int) (f:Fil) (t:Spl) (o:Ord):sameR t.L (inF p f t o).L:=by
 unfold inF
 repeat' split
 ·exact sameR_refl _
 ·exact hold_R
 ·exact sameR_refl _
theorem outF_R (p:Int) (f:Fil):∀(was:List Ord) (t:Spl),sameR t.L (was.foldl (inF p f) t).L
 | [],t=>sameR_refl _
 | o::was,t=>sameR_trans (inF_R p f t o) (outF_R p f was _)
theorem fills_R (p:Int) (was:List Ord):∀(fs:List Fil) (t:Spl),sameR t.L (fs.foldl (outF p was) t).L
 | [],t=>sameR_refl _
 | f::fs,t=>sameR_trans (outF_R p f was t) (fills_R p was fs _)
theorem clearH_R {S:Hs} (hk:S.ok) {gd:Nat} (hgG:gd<S.G):sameR S.L (clearH S gd).L:=by
 have h1:=fills_R (clearO (S.bk gd)).p (S.bk gd).l (clearO (S.bk gd)).fs ⟨S.L,[],[]⟩
 have h2:=splH_inv hk hgG
 have hg:=hk.g
 exact sameR_trans h1 (matchF_R _ _ _ _ (by have:=h2.1.2.2;show (splH S gd).L.goods<=4;omega))
theorem roundH_R {S:Hs} (hk:S.ok) {gd:Nat} (hgG:gd<S.G):sameR S.L (roundH S gd).L:=by
 have hg:=hk.g
 unfold roundH
 cases hau:S.au gd with
 | none=>exact sameR_refl _
 | some q=>
  obtain⟨A,w⟩:=q
  simp only
  split
  ·exact rdRun_R _ (S.L,(nextA A).2.2) _
  ·have h1:=slRun_R (gd:=gd) (w:=w.toNat) (p:=(saleA (nextA A).2.2).1) (held:=λi:Nat=>needA A i) (got:=(saleA (nextA A).2.2).2) (t:=(S.L,A.sup)) (by show S.L.goods<=4;omega) S.L.n
   refine sameR_trans h1 (lock_R ?_)
   rw[slRun_gn]
   show S.L.goods<=4
   omega
theorem tickRun_R {S:Hs} (hk:S.ok):∀k,k<=S.G->sameR S.L (tickRun S k).L
 | 0,_=>sameR_refl _
 | k+1,hle=>by
  obtain⟨h1,h2,h3,h4⟩:=tickRun_ok hk k (by omega)
  have eG:(tickRun S k).G=S.G:=by unfold Hs.G;rw[h3]
  obtain⟨c1,c2,c3⟩:=clearH_gn h1 (gd:=k) (by rw[eG];omega)
  have eG2:(clearH (tickRun S k) k).G=S.G:=by unfold Hs.G;rw[c3,h3]
  exact sameR_trans (tickRun_R hk k (by omega)) (sameR_trans (clearH_R h1 (by rw[eG];omega)) (roundH_R (clearH_ok h1 (by rw[eG];omega)) (by rw[eG2];omega)))
theorem tickH_R {S:Hs} (hk:S.ok):sameR S.L (tickH S).2.2.L:=by
 unfold tickH
 have hn:=hk.now
 split
 ·exact sameR_refl _
 ·exact tickRun_R (S:=S.setNow (S.now+1)) (setNow_ok hk (by omega)) S.G (Nat.le_refl _)
section
variable {S:Hs} {who:Nat} {o:OpV}
theorem putH_R (hk:S.ok):sameR S.L (putH S who o).2.L:=by
 have hg:=hk.g
 unfold putH
 simp only
 repeat' split
 all_goals first | exact sameR_refl _ | exact sameR_trans hold_R (lock_R (by rw[(holdH_gn _ _ _).1];omega))
theorem amendH_R (hk:S.ok):sameR S.L (amendH S who o).2.L:=by
 have hg:=hk.g
 unfold amendH
 simp only
 repeat' split
 all_goals first | exact sameR_refl _ | exact sameR_trans hold_R (lock_R (by rw[(holdH_gn _ _ _).1];omega))
theorem cancelH_R (hk:S.ok):sameR S.L (cancelH S who o).2.L:=by
 have hg:=hk.g
 unfold cancelH
 simp only
 repeat' split
 all_goals first | exact sameR_refl _ | exact hold_R | exact lock_R (by omega)
theorem wantH_R (hk:S.ok):sameR S.L (wantH S who o).2.L:=by
 unfold wantH
 split
 ·exact sameR_refl _
 ·split
  ·exact sameR_refl _
  ·simp only
   repeat' split
   all_goals first | exact sameR_refl _ | exact hold_R
theorem offerH_R (hk:S.ok):sameR S.L (offerH S who o).2.L:=by
 have hg:=hk.g
 unfold offerH
 repeat' split
 all_goals first | exact sameR_refl _ | exact lock_R0 (by omega)
theorem actH_R (hk:S.ok):sameR S.L (actH S who o).S.L:=by
 have hg:=hk.g
 unfold actH
 repeat' split
 ·exact tickH_R hk
 ·exact pay_R
 ·exact take_R
 ·exact store_R (by omega)
 ·exact fetch_R (by omega)
 ·exact offerH_R hk
 ·exact wantH_R hk
 ·exact putH_R hk
 ·exact amendH_R hk
 ·exact cancelH_R hk
 ·exact sameR_refl _
end
section
variable {S:Hs} {who:Nat} {o:OpV} {i:Nat}
end
end Go.Pw
set_option linter.unusedSimpArgs false
set_option linter.unusedVariables false
namespace Go.Pw
open Go Go.Proofs
def buyW (i:Nat) (o:Ord):Int:=if o.own=i/\o.buys=true then o.pr*o.am else 0
def sellW (i:Nat) (o:Ord):Int:=if o.own=i/\o.buys=false then o.am else 0
def auW (S:Hs) (i g:Nat):Int:=match S.au g with | some p=>needA p.1 i | none=>0
def auK (S:Hs) (i g:Nat):Int:=match S.au g with | some p=>if p.2=i then p.1.sup else 0 | none=>0
def heldG (S:Hs) (i g:Nat):Int:=sumO (buyW i) (S.bk g).l+auW S i g
def lockG (S:Hs) (i g:Nat):Int:=sumO (sellW i) (S.bk g).l+auK S i g
def heldW (S:Hs) (i:Nat):Int:=sumN (heldG S i) S.G
structure Snd (S:Hs):Prop where
 held:∀i,i<S.L.n->S.L.f i 1=heldW S i
 lock:∀i g,i<S.L.n->g<4->S.L.f i (6+g)=if g<S.G then lockG S i g else 0
 ids:∀g,g<S.G->∀o∈(S.bk g).l,o.id%16=o.own/\o.id/16<=1048576
 sel:∀g A w,g<S.G->S.au g=some (A,w)->wantsA A w=(0,0)
theorem sumN_one {f:Nat->Int} {k n:Nat} (hk:k<n):sumN f n=sumN (λj=>if j=k then 0 else f j) n+f k:=by
 have:=sumN_put (g:=f) (a:=k) (v:=0) n hk
 omega
theorem sumN_change {f f':Nat->Int} {k n:Nat} (hk:k<n) (h:∀j,j<n->j≠k->f' j=f j):sumN f' n=sumN f n+f' k-f k:=by
 rw[sumN_one hk,sumN_one (f:=f) hk]
 have:sumN (λj=>if j=k then 0 else f' j) n=sumN (λj=>if j=k then 0 else f j) n:=sumN_congr n λj hj=>by
  by_cases e:j=k
  ·simp[e]
  ·simp[e,h j hj e]
 omega
theorem buyW_nn {i:Nat} {o:Ord} (h:rightO o=true):0<=buyW i o:=by
 have:=rightO_iff.1 h
 unfold buyW
 split
 ·exact Int.mul_nonneg (by omega) (by omega)
 ·omega
theorem sellW_nn {i:Nat} {o:Ord} (h:rightO o=true):0<=sellW i o:=by
 have:=rightO_iff.1 h
 unfold sellW
 split <;> omega
theorem sumO_nn {f:Ord->Int}:∀{l:List Ord},(∀o∈l,0<=f o)->0<=sumO f l
 | [],_=>by simp[sumO]
 | o::l,h=>by
  have h1:=sumO_nn (f:=f) (l:=l) λx hx=>h x (by simp[hx])
  have h2:=h o (by simp)
  simp only[sumO];omega
theorem sumO_mem {f:Ord->Int}:∀{l:List Ord},(∀o∈l,0<=f o)->∀o∈l,f o<=sumO f l
 | [],_,o,ho=>by cases ho
 | x::l,h,o,ho=>by
  have h1:=sumO_nn (f:=f) (l:=l) λx hx=>h x (by simp[hx])
  have h2:=h x (by simp)
  rcases List.mem_cons.1 ho with rfl | ho
  ·simp only[sumO];omega
  ·have h3:=sumO_mem (f:=f) (l:=l) (λy hy=>h y (by simp[hy])) o ho
   simp only[sumO];omega
theorem sumN_nn {f:Nat->Int}:∀(n:Nat),(∀i,i<n->0<=f i)->0<=sumN f n
 | 0,_=>by simp[sumN]
 | n+1,h=>by
  have h1:=sumN_nn n λi hi=>h i (by omega)
  have h2:=h n (by omega)
  simp only[sumN];omega
section
variable {S S':Hs} {i g:Nat}
theorem auW_nn (hk:S.ok) (hg:g<S.G):0<=auW S i g:=by
 unfold auW
 cases h:S.au g with
 | none=>simp
 | some p=>
  obtain⟨A,w⟩:=p
  exact (needA_bd (hk.au g A w hg h).1 i).1
theorem heldG_nn (hk:S.ok) (hg:g<S.G):0<=heldG S i g:=by
 have h1:=sumO_nn (f:=buyW i) (l:=(S.bk g).l) λo ho=>buyW_nn ((hk.bk g hg).right o ho)
 have h2:=auW_nn (i:=i) hk hg
 unfold heldG;omega
theorem auK_nn (hk:S.ok) (hg:g<S.G):0<=auK S i g:=by
 unfold auK
 cases h:S.au g with
 | none=>simp
 | some p=>
  obtain⟨A,w⟩:=p
  have:=(hk.au g A w hg h).1.sup
  simp only
  split <;> omega
theorem heldG_le (hk:S.ok) (hs:Snd S) (hi:i<S.L.n) (hg:g<S.G):heldG S i g<=S.L.f i 1:=by
 rw[hs.held i hi]
 exact sumN_ge S.G (λj hj=>heldG_nn hk hj) g hg
theorem Snd.change (hs:Snd S) {gd:Nat} (hgd:gd<S.G) (hn:S'.L.n=S.L.n) (hG:S'.L.goods=S.L.goods) (hb:∀g,g≠gd->S'.bk g=S.bk g) (ha:∀g,g≠gd->S'.au g=S.au g)
  (hh:∀i,i<S.L.n->S'.L.f i 1=S.L.f i 1+heldG S' i gd-heldG S i gd)
  (hl:∀i g,i<S.L.n->g<4->S'.L.f i (6+g)=if g=gd then S.L.f i (6+g)+lockG S' i gd-lockG S i gd else S.L.f i (6+g))
  (hi:∀o∈(S'.bk gd).l,o.id%16=o.own/\o.id/16<=1048576) (hw:∀A w,S'.au gd=some (A,w)->wantsA A w=(0,0)):Snd S':=by
 have eG:S'.G=S.G:=by unfold Hs.G;rw[hG]
 have same:∀i g,g≠gd->heldG S' i g=heldG S i g/\lockG S' i g=lockG S i g:=λi g e=>by
  unfold heldG lockG auW auK
  rw[hb g e,ha g e];exact⟨rfl,rfl⟩
 refine⟨λi hin=>?_,λi g hin hg4=>?_,λg hg o ho=>?_,λg A w hg h=>?_⟩
 ·rw[hn]at hin
  rw[hh i hin,hs.held i hin]
  unfold heldW
  rw[eG,sumN_change (f:=heldG S i) hgd λj hj e=>(same i j e).1]
 ·rw[hn]at hin
  rw[hl i g hin hg4,eG,hs.lock i g hin hg4]
  by_cases e:g=gd
  ·subst e;rw[if_pos rfl,if_pos hgd,if_pos hgd];omega
  ·rw[if_neg e,(same i g e).2]
 ·rw[eG]at hg
  by_cases e:g=gd
  ·subst e;exact hi o ho
  ·rw[hb g e]at ho;exact hs.ids g hg o ho
 ·rw[eG]at hg
  by_cases e:g=gd
  ·subst e;exact hw A w h
  ·rw[ha g e]at h;exact hs.sel g A w hg h
theorem Snd.plain (hs:Snd S) (hn:S'.L.n=S.L.n) (hG:S'.L.goods=S.L.goods) (hb:S'.bk=S.bk) (ha:S'.au=S.au)
  (hh:∀i,i<S.L.n->S'.L.f i 1=S.L.f i 1) (hl:∀i g,i<S.L.n->g<4->S'.L.f i (6+g)=S.L.f i (6+g)):Snd S':=by
 have eG:S'.G=S.G:=by unfold Hs.G;rw[hG]
 have same:∀i g,heldG S' i g=heldG S i g/\lockG S' i g=lockG S i g:=λi g=>by
  unfold heldG lockG auW auK
  rw[hb,ha];exact⟨rfl,rfl⟩
 refine⟨λi hin=>?_,λi g hin hg4=>?_,λg hg o ho=>?_,λg A w hg h=>?_⟩
 ·rw[hn]at hin
  rw[hh i hin,hs.held i hin]
  unfold heldW
  rw[eG]
  exact sumN_congr _ λj hj=>((same i j).1).symm
 ·rw[hn]at hin
  rw[hl i g hin hg4,eG,hs.lock i g hin hg4,(same i g).2]
 ·rw[eG]at hg;rw[hb]at ho;exact hs.ids g hg o ho
 ·rw[eG]at hg;rw[ha]at h;exact hs.sel g A w hg h
end
section
variable {L:Led} {i j g:Nat} {n p:Int}
theorem hold_exact (hv:Inv L) (hi:i<L.n) (h1:-(L.f i 1)<=n) (h2:n<=L.f i 0-L.f i 1):holdH L i n=if n=0 then L else L.set i 1 (L.f i 1+n):=by
 have b0:=hv.small.num i 0 hi (by omega)
 have b1:=hv.small.num i 1 hi (by omega)
 have hg:=hv.g0
 unfold holdH
 by_cases c1:0<n
 ·rw[if_pos c1,if_neg (by omega)]
  unfold holdL
  have:partE L 0 n=0:=by unfold partE;rw[if_pos (by omega)]
  rw[if_neg (by simp[this]),if_neg (by omega)]
 ·rw[if_neg c1]
  by_cases c2:n<0
  ·rw[if_pos c2,if_neg (by omega)]
   unfold freeL
   have:partE L 0 (-n)=0:=by unfold partE;rw[if_pos (by omega)]
   rw[if_neg (by simp[this]),if_neg (by omega)]
   simp only
   rw[show L.f i 1 - -n=L.f i 1+n by omega]
  ·rw[if_neg c2,if_pos (by omega)]
theorem set_f (L:Led) (i j:Nat) (v:Int) (a c:Nat):(L.set i j v).f a c=if a=i/\c=j then v else L.f a c:=rfl
theorem hold_f (hv:Inv L) (hi:i<L.n) (h1:-(L.f i 1)<=n) (h2:n<=L.f i 0-L.f i 1) (a c:Nat):(holdH L i n).f a c=if a=i/\c=1 then L.f i 1+n else L.f a c:=by
 rw[hold_exact hv hi h1 h2]
 split
 ·rename_i h;subst h
  split
  ·rename_i h;rw[h.1,h.2];omega
  ·rfl
 ·rw[set_f]
theorem lock_f (hv:Inv L) (hi:i<L.n) (hg:(g:Int)<L.goods) (h1:-(L.f i (6+g))<=n) (h2:n<=L.f i (2+g)-L.f i (6+g)) (a c:Nat):(lockH L i g n).f a c=if a=i/\c=6+g then L.f i (6+g)+n else L.f a c:=by
 have hg4:=hv.gd
 have b0:=hv.small.num i (2+g) hi (by omega)
 have b1:=hv.small.num i (6+g) hi (by omega)
 unfold lockH
 by_cases c1:0<n
 ·rw[if_pos c1]
  unfold lockL
  have:partE L g n=0:=by unfold partE;rw[if_pos (by omega)]
  rw[if_neg (by simp[this]),Int.toNat_natCast,if_neg (by omega),set_f]
 ·rw[if_neg c1]
  by_cases c2:n<0
  ·rw[if_pos c2]
   unfold unlockL
   have:partE L g (-n)=0:=by unfold partE;rw[if_pos (by omega)]
   rw[if_neg (by simp[this]),Int.toNat_natCast,if_neg (by omega),set_f]
   rw[show L.f i (6+g) - -n=L.f i (6+g)+n by omega]
  ·rw[if_neg c2]
   have:n=0:=by omega
   subst this
   split
   ·rename_i h;rw[h.1,h.2];omega
   ·rfl
theorem trade_f (hv:Inv L) (hi:i<L.n) (hj:j<L.n) (hg:(g:Int)<L.goods) (hn:0<=n) (hp:0<=p) (h1:n<=L.f i (6+g)) (h2:p*n<=L.f j 1) :
  (∀a,(tradeH L i j g p n).f a 1=if a=j then L.f j 1-p*n else L.f a 1)/\∀a k,k<4->(tradeH L i j g p n).f a (6+k)=if a=i/\k=g then L.f i (6+g)-n else L.f a (6+k):=by
 have hg4:=hv.gd
 have b1:=hv.small.num i (6+g) hi (by omega)
 have b2:=hv.small.num j 1 hj (by omega)
 have g0:=hv.g0
 unfold tradeH
 by_cases c1:0<n
 ·rw[if_pos c1]
  have e1:handL L i j g n=(0,handTo L i j g n):=by
   unfold handL
   have:partE L g n=0:=by unfold partE;rw[if_pos (by omega)]
   rw[if_neg (by simp[this]),Int.toNat_natCast,if_neg (by omega)]
  rw[e1]
  simp only
  have f1:∀a,(handTo L i j g n).f a 1=L.f a 1:=λa=>by
   unfold handTo
   simp only[set_f]
   rw[if_neg (by omega),if_neg (by omega),if_neg (by omega)]
  have f6:∀a k,k<4->(handTo L i j g n).f a (6+k)=if a=i/\k=g then L.f i (6+g)-n else L.f a (6+k):=λa k hk=>by
   unfold handTo
   simp only[set_f]
   rw[if_neg (by omega),if_neg (by omega)]
   by_cases e:a=i/\k=g
   ·rw[if_pos e,if_pos ⟨e.1,by omega⟩]
   ·rw[if_neg e,if_neg (by omega)]
  by_cases c2:0<p
  ·rw[if_pos c2]
   have hpn:1<=p*n:=by
    have:=Int.mul_le_mul (a:=1) (b:=1) (c:=p) (d:=n) (by omega) (by omega) (by omega) (by omega)
    omega
   have e2:moveL (handTo L i j g n) j i (p*n)=(0,moveTo (handTo L i j g n) j i (p*n)):=by
    unfold moveL
    have:partE (handTo L i j g n) 0 (p*n)=0:=by
     unfold partE
     rw[if_pos ⟨by omega,by show (0:Int)<L.goods;omega,hpn,by omega⟩]
    rw[if_neg (by simp[this]),f1,if_neg (by omega)]
   rw[e2]
   simp only
   refine⟨λa=>?_,λa k hk=>?_⟩
   ·unfold moveTo
    simp only[set_f,f1]
    rw[if_neg (by omega),if_neg (by omega)]
    by_cases e:a=j
    ·simp[e]
    ·simp[e]
   ·unfold moveTo
    simp only[set_f]
    rw[if_neg (by omega),if_neg (by omega),if_neg (by omega),f6 a k hk]
  ·rw[if_neg c2]
   have:p=0:=by omega
   subst this
   refine⟨λa=>?_,f6⟩
   rw[f1]
   split
   ·rename_i h;rw[h];omega
   ·rfl
 ·rw[if_neg c1]
  have:n=0:=by omega
  subst this
  refine⟨λa=>?_,λa k _=>?_⟩
  ·split
   ·rename_i h;rw[h];omega
   ·rfl
  ·split
   ·rename_i h;rw[h.1,h.2];omega
   ·rfl
end
end Go.Pw
set_option linter.unusedSimpArgs false
set_option linter.unusedVariables false
namespace Go.Pw
open Go Go.Proofs
theorem sumO_set (f:Ord->Int):∀{l:List Ord} {k:Nat} {o o':Ord},l[k]?=some o->sumO f (l.set k o')=sumO f l+f o'-f o
 | [],k,o,o',h=>by simp at h
 | a::l,0,o,o',h=>by simp at h;subst h;simp only[List.set_cons_zero,sumO];omega
 | a::l,k+1,o,o',h=>by
  have:=sumO_set f (l:=l) (k:=k) (o:=o) (o':=o') (by simpa using h)
  simp only[List.set_cons_succ,sumO];omega
theorem sumO_erase (f:Ord->Int):∀{l:List Ord} {k:Nat} {o:Ord},l[k]?=some o->sumO f (l.eraseIdx k)=sumO f l-f o
 | [],k,o,h=>by simp at h
 | a::l,0,o,h=>by simp at h;subst h;simp only[List.eraseIdx_zero,List.tail_cons,sumO];omega
 | a::l,k+1,o,h=>by
  have:=sumO_erase f (l:=l) (k:=k) (o:=o) (by simpa using h)
  simp only[List.eraseIdx_cons_succ,sumO];omega
theorem putO_0 {B:Bk} {o:Ord} (h:(putO B o).1=0):(putO B o).2.l=B.l ++ [{o with pl:=B.next}]:=by
 unfold putO at h ⊢
 split
 ·rename_i c;rw[if_pos c]at h;cases h
 ·rename_i c;rw[if_neg c]at h
  split
  ·rename_i c;rw[if_pos c]at h;cases h
  ·rename_i c;rw[if_neg c]at h
   split
   ·rename_i c;rw[if_pos c]at h;cases h
   ·rfl
theorem both_f {L:Led} (hv:Inv L) {w g:Nat} {c d:Int} (hw:w<L.n) (hg:(g:Int)<L.goods) (h1:-(L.f w 1)<=c) (h2:c<=L.f w 0-L.f w 1) (h3:-(L.f w (6+g))<=d) (h4:d<=L.f w (2+g)-L.f w (6+g)) :
  (∀a,(lockH (holdH L w c) w g d).f a 1=if a=w then L.f w 1+c else L.f a 1)/\∀a k,k<4->(lockH (holdH L w c) w g d).f a (6+k)=if a=w/\k=g then L.f w (6+g)+d else L.f a (6+k):=by
 have hgn:=holdH_gn L w c
 have hf:=hold_f hv hw h1 h2
 have hg4:=hv.gd
 have e6:(holdH L w c).f w (6+g)=L.f w (6+g):=by rw[hf,if_neg (by omega)]
 have e2:(holdH L w c).f w (2+g)=L.f w (2+g):=by rw[hf,if_neg (by omega)]
 have hl:=lock_f (n:=d) (inv_holdH hv hw c) (i:=w) (g:=g) (by rw[hgn.2];exact hw) (by rw[hgn.1];exact hg) (by rw[e6];exact h3) (by rw[e2,e6];exact h4)
 refine⟨λa=>?_,λa k hk=>?_⟩
 ·rw[hl,if_neg (by omega),hf]
  by_cases e:a=w
  ·rw[if_pos ⟨e,rfl⟩,if_pos e]
  ·rw[if_neg (λh=>e h.1),if_neg e]
 ·rw[hl,e6]
  by_cases e:a=w/\k=g
  ·rw[if_pos ⟨e.1,by omega⟩,if_pos e]
  ·rw[if_neg (by omega),if_neg e,hf,if_neg (by omega)]
section
variable {S:Hs} {who:Nat} {o:OpV}
theorem heldG_bk {L:Led} (S:Hs) (i g:Nat) (B:Bk):heldG ((S.setBk g B).setL L) i g=sumO (buyW i) B.l+auW S i g/\lockG ((S.setBk g B).setL L) i g=sumO (sellW i) B.l+auK S i g:=by
 have e:((S.setBk g B).setL L).bk g=B:=by simp[Hs.setBk,Hs.setL]
 unfold heldG lockG
 rw[e]
 exact⟨rfl,rfl⟩
theorem setBk_ne {L:Led} (S:Hs) {g k:Nat} (B:Bk) (h:k≠g):((S.setBk g B).setL L).bk k=S.bk k:=by simp[Hs.setBk,Hs.setL,h]
theorem setAu_ne {L:Led} (S:Hs) {g k:Nat} (A:Option (Auc×Int)) (h:k≠g):((S.setAu g A).setL L).au k=S.au k:=by simp[Hs.setAu,Hs.setL,h]
theorem putH_snd (hk:S.ok) (hs:Snd S) (hw:who<S.L.n) (ho:o.ok):Snd (putH S who o).2:=by
 have hg:=hk.g
 have hcl:=hk.cl
 unfold putH
 simp only
 split
 ·exact hs
 ·rename_i ht
  obtain⟨m1,m2,m3,m4,m5,m6,m7,m8⟩:=termsH_ok (S:=S) (who:=who) (o:=o) (by simpa using ht)
  generalize termsH S who o=t at *
  have hgd0:=ho.good
  obtain⟨gd,hgd⟩:∃gd:Nat,o.good=gd:=⟨o.good.toNat,by omega⟩
  rw[hgd,Int.toNat_natCast]
  split
  ·exact hs
  ·rename_i hc
   split
   ·exact hs
   ·rename_i hp
    have hp0:=putO_0 (Decidable.not_not.1 hp)
    have hgG:gd<S.G:=by omega
    have hcv:¬(S.L.f who 0-S.L.f who 1<coverC (decide (o.side=0)) t.p o.am\/S.L.f who (2+gd)-S.L.f who (6+gd)<coverG (decide (o.side=0)) t.p o.am):=by
     intro h
     apply hc
     unfold coverE
     rw[Int.toNat_natCast,if_pos h];decide
    have hpa:0<=t.p*o.am:=Int.mul_nonneg m6 (by omega)
    have hcC:0<=coverC (decide (o.side=0)) t.p o.am:=by unfold coverC;split <;> omega
    have hcG:0<=coverG (decide (o.side=0)) t.p o.am:=by unfold coverG;split <;> omega
    have p1:=hk.led.pos who 1 hw (by omega)
    have p6:=hk.led.pos who (6+gd) hw (by omega)
    obtain⟨f1,f6⟩:=both_f hk.led (c:=coverC (decide (o.side=0)) t.p o.am) (d:=coverG (decide (o.side=0)) t.p o.am) hw (g:=gd) (by omega) (by omega) (by omega) (by omega) (by omega)
    have hgn1:=holdH_gn S.L who (coverC (decide (o.side=0)) t.p o.am)
    have hgn2:=lockH_gn (holdH S.L who (coverC (decide (o.side=0)) t.p o.am)) who gd (coverG (decide (o.side=0)) t.p o.am)
    refine hs.change hgG (hgn2.2.trans hgn1.2) (hgn2.1.trans hgn1.1) (λg e=>setBk_ne S _ e) (λg e=>rfl) (λi hi=>?_) (λi g hi hg4=>?_) (λx hx=>?_) (λA w h=>hs.sel gd A w hgG h)
    ·rw[(heldG_bk S i gd _).1,hp0,sumO_app]
     show (lockH (holdH S.L who _) who gd _).f i 1=S.L.f i 1+_-(sumO (buyW i) (S.bk gd).l+auW S i gd)
     rw[f1]
     simp only[sumO,buyW,ordOfOp,decide_eq_true_eq]
     unfold coverC
     by_cases e:i=who
     ·subst e
      by_cases hb:o.side=0
      ·simp[hb] <;> omega
      ·simp[hb] <;> omega
     ·rw[if_neg e,if_neg (by omega)];omega
    ·rw[(heldG_bk S i gd _).2,hp0,sumO_app]
     show (lockH (holdH S.L who _) who gd _).f i (6+g)=_
     rw[f6 i g hg4]
     simp only[sumO,sellW,ordOfOp,decide_eq_false_iff_not]
     unfold coverG
     by_cases e:g=gd
     ·subst e
      rw[if_pos rfl]
      show _=S.L.f i (6+g)+_-(sumO (sellW i) (S.bk g).l+auK S i g)
      by_cases e2:i=who
      ·subst e2
       by_cases hb:o.side=0
       ·simp[hb] <;> omega
       ·simp[hb] <;> omega
      ·rw[if_neg (λh=>e2 h.1),if_neg (by omega)];omega
     ·rw[if_neg (λh=>e h.2),if_neg e]
    ·have hx2:x∈(putO (S.bk gd) (ordOfOp t who o)).2.l:=by
      have:((S.setBk gd (putO (S.bk gd) (ordOfOp t who o)).2).setL (lockH (holdH S.L who (coverC (decide (o.side=0)) t.p o.am)) who gd (coverG (decide (o.side=0)) t.p o.am))).bk gd=(putO (S.bk gd) (ordOfOp t who o)).2:=by simp[Hs.setBk,Hs.setL]
      rw[this]at hx;exact hx
     rw[hp0]at hx2
     rcases List.mem_append.1 hx2 with hx3 | hx3
     ·exact hs.ids gd hgG x hx3
     ·simp at hx3
      subst hx3
      simp only[ordOfOp]
      rw[m8]
      have:=ho.id
      omega
theorem getO_at {l:List Ord} {id:Int} (h:¬(getO l id).2=false):∃k:Nat,idx l id=some k/\l[k]?=some (getO l id).1/\(getO l id).1.id=id:=by
 unfold getO at h ⊢
 cases hi:idx l id with
 | none=>rw[hi]at h;exact absurd rfl h
 | some k=>
  rw[hi]at h
  simp only at h ⊢
  cases hl:l[k]? with
  | none=>rw[hl]at h;exact absurd rfl h
  | some o=>
   obtain⟨_,⟨o2,ho2,hid⟩,_⟩:=idx_some hi
   rw[hl]at ho2;cases ho2
   exact⟨k,rfl,hl,hid⟩
theorem amendO_0 {B:Bk} {id own p m:Int} {k:Nat} {o:Ord} (hi:idx B.l id=some k) (hl:B.l[k]?=some o) (h:(amendO B id own p m).1=0) (f:Ord->Int) (hf:∀pl,f {o with pr:=p,am:=m,pl:=pl} = f {o with pr:=p,am:=m}) :
  o.own=own/\sumO f (amendO B id own p m).2.l=sumO f B.l+f {o with pr:=p,am:=m} - f o/\∀x∈(amendO B id own p m).2.l,x∈B.l\/x.id=o.id/\x.own=o.own:=by
 unfold amendO at h ⊢
 rw[hi]at h ⊢
 simp only[hl]at h ⊢
 split
 ·rename_i c;rw[if_pos c]at h;cases h
 ·rename_i c;rw[if_neg c]at h
  split
  ·rename_i c;rw[if_pos c]at h;cases h
  ·rename_i c2;rw[if_neg c2]at h
   split
   ·refine⟨Decidable.not_not.1 c,sumO_set f hl,λx hx=>?_⟩
    rcases List.mem_or_eq_of_mem_set hx with hx | rfl
    ·exact .inl hx
    ·exact .inr ⟨rfl,rfl⟩
   ·rename_i c3;rw[if_neg c3]at h
    split
    ·rename_i c;rw[if_pos c]at h;cases h
    ·refine⟨Decidable.not_not.1 c,?_,λx hx=>?_⟩
     ·rw[sumO_app,sumO_erase f hl]
      simp only[sumO]
      rw[hf];omega
     ·rcases List.mem_append.1 hx with hx | hx
      ·exact .inl ((List.eraseIdx_sublist _ _).subset hx)
      ·simp at hx;subst hx;exact .inr ⟨rfl,rfl⟩
theorem amendH_snd (hk:S.ok) (hs:Snd S) (hw:who<S.L.n) (ho:o.ok):Snd (amendH S who o).2:=by
 have hg:=hk.g
 have hcl:=hk.cl
 unfold amendH
 simp only
 split
 ·exact hs
 ·rename_i ht
  obtain⟨m1,m2,m3,m4,m5,m6,m7,m8⟩:=termsH_ok (S:=S) (who:=who) (o:=o) (by simpa using ht)
  generalize termsH S who o=t at *
  have hgd0:=ho.good
  have hid0:=ho.id
  obtain⟨gd,hgd⟩:∃gd:Nat,o.good=gd:=⟨o.good.toNat,by omega⟩
  rw[hgd,Int.toNat_natCast]
  have hgG:gd<S.G:=by omega
  split
  ·exact hs
  ·rename_i hgot
   obtain⟨k,hix,hat,hid⟩:=getO_at hgot
   generalize (getO (S.bk gd).l t.id).1=old at *
   have hmem:=List.mem_of_getElem? hat
   have hro:=rightO_iff.1 ((hk.bk gd hgG).right old hmem)
   have hio:=hs.ids gd hgG old hmem
   have hown:old.own=who:=by omega
   split
   ·exact hs
   ·rename_i hcv
    split
    ·exact hs
    ·rename_i ha
     have ha0:=Decidable.not_not.1 ha
     have fb:=λi=>amendO_0 hix hat ha0 (buyW i) (λpl=>rfl)
     have fs:=λi=>amendO_0 hix hat ha0 (sellW i) (λpl=>rfl)
     have hpa:0<=t.p*o.am:=Int.mul_nonneg m6 (by omega)
     have hpo:0<=old.pr*old.am:=Int.mul_nonneg (by omega) (by omega)
     have p1:=hk.led.pos who 1 hw (by omega)
     have p6:=hk.led.pos who (6+gd) hw (by omega)
     have q1:buyW who old<=S.L.f who 1:=by
      have h1:=sumO_mem (f:=buyW who) (λx hx=>buyW_nn ((hk.bk gd hgG).right x hx)) old hmem
      have h2:=heldG_le hk hs hw hgG
      have h3:=auW_nn (i:=who) hk hgG
      unfold heldG at h2;omega
     have q6:sellW who old<=S.L.f who (6+gd):=by
      have h1:=sumO_mem (f:=sellW who) (λx hx=>sellW_nn ((hk.bk gd hgG).right x hx)) old hmem
      have h2:=hs.lock who gd hw (by omega)
      rw[if_pos hgG]at h2
      have h3:=auK_nn (i:=who) hk hgG
      unfold lockG at h2;omega
     unfold buyW at q1
     unfold sellW at q6
     have hc1:-(S.L.f who 1)<=amCash old t.p o.am:=by
      unfold amCash
      split
      ·rename_i hb;rw[if_pos ⟨hown,hb⟩]at q1;omega
      ·omega
     have hc2:-(S.L.f who (6+gd))<=amGood old o.am:=by
      unfold amGood
      split
      ·omega
      ·rename_i hb;rw[if_pos ⟨hown,by simpa using hb⟩]at q6;omega
     obtain⟨f1,f6⟩:=both_f hk.led (c:=amCash old t.p o.am) (d:=amGood old o.am) hw (g:=gd) (by omega) hc1 (by omega) hc2 (by omega)
     have hgn1:=holdH_gn S.L who (amCash old t.p o.am)
     have hgn2:=lockH_gn (holdH S.L who (amCash old t.p o.am)) who gd (amGood old o.am)
     refine hs.change hgG (hgn2.2.trans hgn1.2) (hgn2.1.trans hgn1.1) (λg e=>setBk_ne S _ e) (λg e=>rfl) (λi hi=>?_) (λi g hi hg4=>?_) (λx hx=>?_) (λA w h=>hs.sel gd A w hgG h)
     ·rw[(heldG_bk S i gd _).1,(fb i).2.1]
      show (lockH (holdH S.L who _) who gd _).f i 1=S.L.f i 1+_-(sumO (buyW i) (S.bk gd).l+auW S i gd)
      rw[f1]
      simp only[buyW,hown]
      unfold amCash
      by_cases e:i=who
      ·subst e
       cases hb:old.buys with
       | true=>simp <;> omega
       | false=>simp <;> omega
      ·rw[if_neg e,if_neg (by omega),if_neg (by omega)];omega
     ·rw[(heldG_bk S i gd _).2,(fs i).2.1]
      show (lockH (holdH S.L who _) who gd _).f i (6+g)=_
      rw[f6 i g hg4]
      simp only[sellW,hown]
      unfold amGood
      by_cases e:g=gd
      ·subst e
       rw[if_pos rfl]
       show _=S.L.f i (6+g)+_-(sumO (sellW i) (S.bk g).l+auK S i g)
       by_cases e2:i=who
       ·subst e2
        cases hb:old.buys with
        | true=>simp <;> omega
        | false=>simp <;> omega
       ·rw[if_neg (λh=>e2 h.1),if_neg (by omega),if_neg (by omega)];omega
      ·rw[if_neg (λh=>e h.2),if_neg e]
     ·have hx2:x∈(amendO (S.bk gd) t.id who t.p o.am).2.l:=by
       have:((S.setBk gd (amendO (S.bk gd) t.id who t.p o.am).2).setL (lockH (holdH S.L who (amCash old t.p o.am)) who gd (amGood old o.am))).bk gd=(amendO (S.bk gd) t.id who t.p o.am).2:=by simp[Hs.setBk,Hs.setL]
       rw[this]at hx;exact hx
      rcases (fb who).2.2 x hx2 with hx3 | ⟨hx3,hx4⟩
      ·exact hs.ids gd hgG x hx3
      ·rw[hx3,hx4];exact hio
theorem cancelH_snd (hk:S.ok) (hs:Snd S) (hw:who<S.L.n) (ho:o.ok):Snd (cancelH S who o).2:=by
 have hg:=hk.g
 have hcl:=hk.cl
 unfold cancelH
 simp only
 split
 ·exact hs
 ·rename_i hc
  have hgd0:=ho.good
  have hid0:=ho.id
  obtain⟨gd,hgd⟩:∃gd:Nat,o.good=gd:=⟨o.good.toNat,by omega⟩
  rw[hgd,Int.toNat_natCast]
  have hgG:gd<S.G:=by omega
  split
  ·exact hs
  ·rename_i hgot
   obtain⟨k,hix,hat,hid⟩:=getO_at hgot
   generalize (getO (S.bk gd).l (o.id*16+who)).1=old at *
   have hmem:=List.mem_of_getElem? hat
   have hro:=rightO_iff.1 ((hk.bk gd hgG).right old hmem)
   have hio:=hs.ids gd hgG old hmem
   have hown:old.own=who:=by omega
   have hcl2:(cancelO (S.bk gd) (o.id*16+who) who).2.l=(S.bk gd).l.eraseIdx k:=by
    unfold cancelO
    rw[hix]
    simp only[hat]
    rw[if_neg (by simp[hown])]
   have hpo:0<=old.pr*old.am:=Int.mul_nonneg (by omega) (by omega)
   have p1:=hk.led.pos who 1 hw (by omega)
   have hh01:=hk.led.held who hw
   have hl01:=hk.led.lock who gd hw (by omega)
   have p6:=hk.led.pos who (6+gd) hw (by omega)
   have q1:buyW who old<=S.L.f who 1:=by
    have h1:=sumO_mem (f:=buyW who) (λx hx=>buyW_nn ((hk.bk gd hgG).right x hx)) old hmem
    have h2:=heldG_le hk hs hw hgG
    have h3:=auW_nn (i:=who) hk hgG
    unfold heldG at h2;omega
   have q6:sellW who old<=S.L.f who (6+gd):=by
    have h1:=sumO_mem (f:=sellW who) (λx hx=>sellW_nn ((hk.bk gd hgG).right x hx)) old hmem
    have h2:=hs.lock who gd hw (by omega)
    rw[if_pos hgG]at h2
    have h3:=auK_nn (i:=who) hk hgG
    unfold lockG at h2;omega
   unfold buyW at q1
   unfold sellW at q6
   have ids':∀{L:Led},∀x∈(((S.setBk gd (cancelO (S.bk gd) (o.id*16+who) who).2).setL L).bk gd).l,x.id%16=x.own/\x.id/16<=1048576:=λ{L} x hx=>by
    have:((S.setBk gd (cancelO (S.bk gd) (o.id*16+who) who).2).setL L).bk gd=(cancelO (S.bk gd) (o.id*16+who) who).2:=by simp[Hs.setBk,Hs.setL]
    rw[this,hcl2]at hx
    exact hs.ids gd hgG x ((List.eraseIdx_sublist _ _).subset hx)
   have hneg:-old.pr*old.am = -(old.pr*old.am):=Int.neg_mul _ _
   cases hb:old.buys with
   | true=>
    simp only[if_true]
    rw[if_pos ⟨hown,hb⟩]at q1
    have hf:=hold_f (n:=-old.pr*old.am) hk.led hw (by omega) (by omega)
    have hgn:=holdH_gn S.L who (-old.pr*old.am)
    refine hs.change hgG hgn.2 hgn.1 (λg e=>setBk_ne S _ e) (λg e=>rfl) (λi hi=>?_) (λi g hi hg4=>?_) ids' (λA w h=>hs.sel gd A w hgG h)
    ·rw[(heldG_bk S i gd _).1,hcl2,sumO_erase _ hat]
     show (holdH S.L who _).f i 1=S.L.f i 1+_-(sumO (buyW i) (S.bk gd).l+auW S i gd)
     rw[hf]
     simp only[buyW,hown,hb]
     by_cases e:i=who
     ·subst e;simp <;> omega
     ·rw[if_neg (by omega),if_neg (by omega)];omega
    ·rw[(heldG_bk S i gd _).2,hcl2,sumO_erase _ hat]
     show (holdH S.L who _).f i (6+g)=_
     rw[hf,if_neg (by omega)]
     simp only[sellW,hb]
     by_cases e:g=gd
     ·subst e
      rw[if_pos rfl]
      show _=S.L.f i (6+g)+_-(sumO (sellW i) (S.bk g).l+auK S i g)
      simp <;> omega
     ·rw[if_neg e]
   | false=>
    simp only[Bool.false_eq_true,if_false]
    rw[if_pos ⟨hown,hb⟩]at q6
    have hf:=lock_f (n:=-old.am) hk.led hw (g:=gd) (by omega) (by omega) (by omega)
    have hgn:=lockH_gn S.L who gd (-old.am)
    refine hs.change hgG hgn.2 hgn.1 (λg e=>setBk_ne S _ e) (λg e=>rfl) (λi hi=>?_) (λi g hi hg4=>?_) ids' (λA w h=>hs.sel gd A w hgG h)
    ·rw[(heldG_bk S i gd _).1,hcl2,sumO_erase _ hat]
     show (lockH S.L who gd _).f i 1=S.L.f i 1+_-(sumO (buyW i) (S.bk gd).l+auW S i gd)
     rw[hf,if_neg (by omega)]
     simp only[buyW,hb]
     simp <;> omega
    ·rw[(heldG_bk S i gd _).2,hcl2,sumO_erase _ hat]
     show (lockH S.L who gd _).f i (6+g)=_
     rw[hf]
     simp only[sellW,hown,hb]
     by_cases e:g=gd
     ·subst e
      rw[if_pos rfl]
      show _=S.L.f i (6+g)+_-(sumO (sellW i) (S.bk g).l+auK S i g)
      by_cases e2:i=who
      ·subst e2;simp <;> omega
      ·rw[if_neg (by omega),if_neg (by omega)];omega
     ·rw[if_neg (by omega),if_neg e]
end
end Go.Pw
set_option linter.unusedSimpArgs false
set_option linter.unusedVariables false
namespace Go.Pw
open Go Go.Proofs
theorem heldG_au {L:Led} (S:Hs) (i g:Nat) (A:Auc) (w:Int):heldG ((S.setAu g (some (A,w))).setL L) i g=sumO (buyW i) (S.bk g).l+needA A i/\lockG ((S.setAu g (some (A,w))).setL L) i g=sumO (sellW i) (S.bk g).l+(if w=i then A.sup else 0):=by
 have e:((S.setAu g (some (A,w))).setL L).au g=some (A,w):=by simp[Hs.setAu,Hs.setL]
 unfold heldG lockG auW auK
 rw[e]
 exact⟨rfl,rfl⟩
theorem heldG_none {L:Led} (S:Hs) (i g:Nat):heldG ((S.setAu g none).setL L) i g=sumO (buyW i) (S.bk g).l/\lockG ((S.setAu g none).setL L) i g=sumO (sellW i) (S.bk g).l:=by
 have e:((S.setAu g none).setL L).au g=none:=by simp[Hs.setAu,Hs.setL]
 unfold heldG lockG auW auK
 rw[e]
 exact⟨Int.add_zero _,Int.add_zero _⟩
theorem needA_new (s t p n:Int) (i:Int):needA (newAuc s t p n) i=0/\wantsA (newAuc s t p n) i=(0,0):=by
 have h:wantsA (newAuc s t p n) i=(0,0):=by unfold wantsA;split <;> rfl
 refine⟨?_,h⟩
 unfold needA
 rw[h]
 simp
section
variable {S:Hs} {who:Nat} {o:OpV}
theorem offerH_snd (hk:S.ok) (hs:Snd S) (hw:who<S.L.n) (ho:o.ok):Snd (offerH S who o).2:=by
 have hg:=hk.g
 have hcl:=hk.cl
 unfold offerH
 split
 ·exact hs
 ·split
  ·exact hs
  ·split
   ·exact hs
   ·split
    ·exact hs
    ·rename_i hau
     split
     ·exact hs
     ·rename_i hl
      have hgd0:=ho.good
      obtain⟨gd,hgd⟩:∃gd:Nat,o.good=gd:=⟨o.good.toNat,by omega⟩
      rw[hgd,Int.toNat_natCast]at hau ⊢
      rw[hgd]at hl
      have hgG:gd<S.G:=by omega
      have hau2:S.au gd=none:=by
       cases h:S.au gd with
       | none=>rfl
       | some p=>rw[h]at hau;exact absurd rfl hau
      have hl0:=Decidable.not_not.1 hl
      have hset:(lockL S.L who gd o.am).2=S.L.set who (6+gd) (S.L.f who (6+gd)+o.am):=by
       unfold lockL at hl0 ⊢
       split
       ·rename_i c;rw[if_pos c]at hl0;cases hl0
       ·rename_i c;rw[if_neg c]at hl0
        split
        ·rename_i c;rw[if_pos c]at hl0;cases hl0
        ·rw[Int.toNat_natCast]
      rw[hset]
      refine hs.change hgG rfl rfl (λg e=>rfl) (λg e=>setAu_ne S _ e) (λi hi=>?_) (λi g hi hg4=>?_) (λx hx=>hs.ids gd hgG x hx) (λA w h=>?_)
      ·rw[(heldG_au S i gd _ _).1,(needA_new _ _ _ _ _).1]
       show (S.L.set who (6+gd) _).f i 1=_
       rw[set_f,if_neg (by omega)]
       unfold heldG auW
       rw[hau2];simp only;omega
      ·rw[(heldG_au S i gd _ _).2]
       show (S.L.set who (6+gd) _).f i (6+g)=_
       rw[set_f]
       have e0:lockG S i gd=sumO (sellW i) (S.bk gd).l:=by unfold lockG auK;rw[hau2];simp
       by_cases e:g=gd
       ·subst e
        rw[if_pos rfl,e0]
        by_cases e2:i=who
        ·subst e2
         rw[if_pos ⟨rfl,rfl⟩,if_pos rfl]
         show _=S.L.f i (6+g)+(_+o.am)-_
         omega
        ·rw[if_neg (λh=>e2 h.1),if_neg (by omega)];omega
       ·rw[if_neg (by omega),if_neg e]
      ·have:((S.setAu gd (some (newAuc o.am (ticksO o.price).1 o.side S.L.n,(who:Int)))).setL (S.L.set who (6+gd) (S.L.f who (6+gd)+o.am))).au gd=some (newAuc o.am (ticksO o.price).1 o.side S.L.n,(who:Int)):=by simp[Hs.setAu,Hs.setL]
       rw[this]at h
       cases h
       exact (needA_new _ _ _ _ _).2
theorem wantsA_bid {A:Auc} {who:Nat} {n:Int} {i:Int} (hw:who<A.n):wantsA (A.setNow who n) i=if i=who then ((wantsA A i).1,n)else wantsA A i:=by
 unfold wantsA
 have e:(A.setNow who n).n=A.n:=rfl
 rw[e]
 by_cases h:i<0\/(A.n:Int)<=i
 ·rw[if_pos h,if_pos h,if_neg (by omega)]
 ·rw[if_neg h,if_neg h]
  unfold Auc.setNow
  simp only
  by_cases e:i=who
  ·subst e;simp
  ·have:¬i.toNat=who:=by omega
   rw[if_neg e,if_neg this]
theorem needA_bid {A:Auc} {who:Nat} {n:Int} {i:Int} (hw:who<A.n):needA (A.setNow who n) i=if i=who then max ((wantsA A who).1*A.last) (n*A.price)else needA A i:=by
 have e1:(A.setNow who n).price=A.price:=rfl
 have e2:(A.setNow who n).last=A.last:=rfl
 unfold needA
 rw[wantsA_bid hw,e1,e2]
 by_cases e:i=who
 ·subst e;simp
 ·rw[if_neg e,if_neg e]
theorem bidA_set {A:Auc} {who:Nat} {n:Int} (h0:A.ste=0) (hw:who<A.n) (hn:0<=n/\n<=1048576) (hr:¬(1<A.rnd/\(wantsA A who).1<n)):(bidA A who n).2=A.setNow who n:=by
 have e:(wantsA A who).1=A.was who:=by unfold wantsA;rw[if_neg (by omega)];simp
 rw[e]at hr
 unfold bidA
 rw[if_neg (by simp[h0]),if_neg (by omega),if_neg (by rw[Int.toNat_natCast];exact hr)]
 rfl
theorem wantH_snd (hk:S.ok) (hs:Snd S) (hw:who<S.L.n) (ho:o.ok):Snd (wantH S who o).2:=by
 have hg:=hk.g
 have hcl:=hk.cl
 unfold wantH
 split
 ·exact hs
 ·rename_i hc
  have hgd0:=ho.good
  have ham0:=ho.am
  obtain⟨gd,hgd⟩:∃gd:Nat,o.good=gd:=⟨o.good.toNat,by omega⟩
  rw[hgd,Int.toNat_natCast]
  have hgG:gd<S.G:=by omega
  split
  ·exact hs
  ·rename_i A w hau
   obtain⟨a1,a2,a3,a4,a5⟩:=hk.au gd A w hgG hau
   simp only
   split
   ·exact hs
   ·rename_i hne
    split
    ·exact hs
    ·rename_i hr
     split
     ·exact hs
     ·rename_i hpoor
      rw[bidA_set a2 (by rw[a3];exact hw) ⟨ham0.1,by omega⟩ hr]
      have hmore:=needA_bd a1 who
      have hneed:needA A who<=S.L.f who 1:=by
       have h1:=heldG_le hk hs hw hgG
       have h2:=sumO_nn (f:=buyW who) (l:=(S.bk gd).l) λx hx=>buyW_nn ((hk.bk gd hgG).right x hx)
       unfold heldG auW at h1
       rw[hau]at h1
       simp only at h1
       omega
      have hmax:0<=max ((wantsA A who).1*A.last) (o.am*A.price):=by
       have hp:=a1.priceB
       have:0<=o.am*A.price:=Int.mul_nonneg ham0.1 hp.1
       omega
      generalize hm:max ((wantsA A who).1*A.last) (o.am*A.price)-needA A who=more at *
      have hf:=hold_f (n:=more) hk.led hw (by omega) (by omega)
      have hgn:=holdH_gn S.L who more
      have ew:∀i:Nat,needA (A.setNow who o.am) i=if i=who then needA A who+more else needA A i:=λi=>by
       rw[needA_bid (by rw[a3];exact hw)]
       by_cases e:i=who
       ·subst e;rw[if_pos rfl,if_pos rfl];omega
       ·rw[if_neg (by omega),if_neg e]
      refine hs.change hgG hgn.2 hgn.1 (λg e=>rfl) (λg e=>setAu_ne S _ e) (λi hi=>?_) (λi g hi hg4=>?_) (λx hx=>hs.ids gd hgG x hx) (λA' w' h=>?_)
      ·rw[(heldG_au S i gd _ _).1,ew]
       show (holdH S.L who more).f i 1=_
       rw[hf]
       unfold heldG auW
       rw[hau]
       simp only
       by_cases e:i=who
       ·subst e;simp <;> omega
       ·rw[if_neg (by omega),if_neg e];omega
      ·rw[(heldG_au S i gd _ _).2]
       show (holdH S.L who more).f i (6+g)=_
       rw[hf,if_neg (by omega)]
       unfold lockG auK
       rw[hau]
       simp only
       by_cases e:g=gd
       ·subst e
        rw[if_pos rfl]
        show _=S.L.f i (6+g)+(_+if w=(i:Int)then A.sup else 0)-_
        omega
       ·rw[if_neg e]
      ·have:((S.setAu gd (some (A.setNow who o.am,w))).setL (holdH S.L who more)).au gd=some (A.setNow who o.am,w):=by simp[Hs.setAu,Hs.setL]
       rw[this]at h
       cases h
       rw[wantsA_bid (by rw[a3];exact hw),if_neg hne]
       exact hs.sel gd A w hgG hau
theorem set_snd {S:Hs} (hs:Snd S) {i c:Nat} {v:Int} (h1:c≠1) (h6:c<6\/9<c):Snd (S.setL (S.L.set i c v)):=
 hs.plain rfl rfl rfl rfl (λk _=>by show (S.L.set i c v).f k 1=_;rw[set_f,if_neg (by omega)]) λk g _ hg=>by
  show (S.L.set i c v).f k (6+g)=_
  rw[set_f,if_neg (by omega)]
theorem pay_snd (hs:Snd S) {n:Int}:Snd (S.setL (payL S.L who n).2):=by
 unfold payL;(repeat' split) <;> first | exact hs | exact set_snd hs (by omega) (by omega)
theorem take_snd (hs:Snd S) {n:Int}:Snd (S.setL (takeL S.L who n).2):=by
 unfold takeL;(repeat' split) <;> first | exact hs | exact set_snd hs (by omega) (by omega)
theorem store_snd (hk:S.ok) (hs:Snd S) {g n:Int}:Snd (S.setL (storeL S.L who g n).2):=by
 have hg:=hk.g
 unfold storeL
 split
 ·exact hs
 ·rename_i h
  have:=partE_g (by omega) h
  split
  ·exact hs
  ·exact set_snd hs (by omega) (by omega)
theorem fetch_snd (hk:S.ok) (hs:Snd S) {g n:Int}:Snd (S.setL (fetchL S.L who g n).2):=by
 have hg:=hk.g
 unfold fetchL
 split
 ·exact hs
 ·rename_i h
  have:=partE_g (by omega) h
  split
  ·exact hs
  ·exact set_snd hs (by omega) (by omega)
theorem mark_snd (hs:Snd S) {s:Int} {t:ByteArray}:Snd (S.setL (markL S.L who s t).2):=by
 unfold markL
 split
 ·exact hs
 ·split
  ·exact hs
  ·exact hs.plain rfl rfl rfl rfl (λk _=>by show (S.L.set who 10 s).f k 1=_;rw[set_f,if_neg (by omega)]) λk g _ hg=>by
    show (S.L.set who 10 s).f k (6+g)=_
    rw[set_f,if_neg (by omega)]
end
end Go.Pw
set_option linter.unusedSimpArgs false
set_option linter.unusedVariables false
namespace Go.Pw
open Go Go.Proofs
def amO (o:Ord):Int:=o.am
def totF:List Fil->Int
 | []=>0
 | f::fs=>f.am+totF fs
def amF (i:Nat):List Fil->Int
 | []=>0
 | f::fs=>(if f.own=i then f.am else 0)+amF i fs
theorem totF_app:∀(a b:List Fil),totF (a++b)=totF a+totF b
 | [],b=>by simp[totF]
 | f::a,b=>by simp only[List.cons_append,totF,totF_app a b];omega
theorem amF_nn {i:Nat}:∀{fs:List Fil},(∀f∈fs,0<=f.am)->0<=amF i fs
 | [],_=>by simp[amF]
 | f::fs,h=>by
  have h1:=amF_nn (i:=i) λx hx=>h x (List.mem_cons_of_mem f hx)
  have h2:=h f (by simp)
  simp only[amF]
  split <;> omega
theorem stF_pos {s:Int×List Fil} {o:Ord} (hs:0<=s.1) (ho:1<=o.am):(stF s o).1=s.1-min s.1 o.am/\totF (stF s o).2=totF s.2+min s.1 o.am:=by
 unfold stF
 split
 ·exact⟨rfl,by simp[totF_app,totF]⟩
 ·omega
theorem foldF_tot:∀(l:List Ord) (s:Int×List Fil),0<=s.1->(∀o∈l,1<=o.am)->(l.foldl stF s).1=s.1-min s.1 (sumO amO l)/\totF (l.foldl stF s).2=totF s.2+min s.1 (sumO amO l)
 | [],s,hs,_=>by simp only[List.foldl_nil,sumO];omega
 | o::l,s,hs,h=>by
  have ho:=h o (by simp)
  obtain⟨h1,h2⟩:=stF_pos hs ho
  have hn:=sumO_nn (f:=amO) (l:=l) λx hx=>by have:=h x (by simp[hx]);show 0<=x.am;omega
  obtain⟨h3,h4⟩:=foldF_tot l (stF s o) (by omega) λx hx=>h x (by simp[hx])
  rw[List.foldl_cons,h3,h4,h1,h2]
  have e:sumO amO (o::l)=o.am+sumO amO l:=rfl
  rw[e]
  omega
theorem foldF_app:∀(l:List Ord) (m:Int) (out:List Fil),(l.foldl stF (m,out)).2=out++(l.foldl stF (m,[])).2/\(l.foldl stF (m,out)).1=(l.foldl stF (m,[])).1
 | [],m,out=>by simp
 | o::l,m,out=>by
  simp only[List.foldl_cons]
  by_cases c:0<min m o.am
  ·have e:∀out,stF (m,out) o=(m-min m o.am,out ++ [⟨o.id,o.own,min m o.am⟩]):=λout=>if_pos c
   rw[e,e]
   obtain⟨h1,h2⟩:=foldF_app l (m-min m o.am) (out ++ [⟨o.id,o.own,min m o.am⟩])
   obtain⟨h3,h4⟩:=foldF_app l (m-min m o.am) ([] ++ [⟨o.id,o.own,min m o.am⟩])
   constructor
   ·rw[h1,h3];simp
   ·rw[h2,h4]
  ·have e:∀out,stF (m,out) o=(m,out):=λout=>if_neg c
   rw[e,e]
   exact foldF_app l m out
theorem runF_app (l:List Ord) (n:Int) (out:List Fil):runF l n out=out++runF l n []:=(foldF_app l n out).1
theorem sumO_perm {f:Ord->Int} {l m:List Ord} (h:l.Perm m):sumO f l=sumO f m:=by
 induction h with
 | nil=>rfl
 | cons a _ ih=>simp only[sumO,ih]
 | swap a b l=>simp only[sumO];omega
 | trans _ _ ih1 ih2=>rw[ih1,ih2]
theorem rightsO_all {l:List Ord} (h:∀o∈l,rightO o=true):rightsO l=l:=List.filter_eq_self.2 h
theorem side_buy {p:Int}:∀(l:List Ord),sumO amO (l.filter (onSide true p))=sumO (fBuy p) l
 | []=>rfl
 | o::l=>by
  have ih:=side_buy (p:=p) l
  have e:onSide true p o=decide (o.buys=true/\p<=o.pr):=by unfold onSide;simp
  rw[List.filter_cons,e]
  by_cases c:o.buys=true/\p<=o.pr
  ·simp only[c,and_self,decide_true,if_true,sumO,ih,fBuy];rfl
  ·have:decide (o.buys=true/\p<=o.pr)=false:=by simp[c]
   rw[this]
   have e2:fBuy p o=0:=if_neg c
   simp only[Bool.false_eq_true,if_false,sumO,e2]
   rw[ih];omega
theorem side_sell {p:Int}:∀(l:List Ord),sumO amO (l.filter (onSide false p))=sumO (fSell p) l
 | []=>rfl
 | o::l=>by
  have ih:=side_sell (p:=p) l
  have e:onSide false p o=decide (o.buys=false/\o.pr<=p):=by unfold onSide;simp
  rw[List.filter_cons,e]
  by_cases c:o.buys=false/\o.pr<=p
  ·simp only[c,and_self,decide_true,if_true,sumO,ih,fSell];rfl
  ·have:decide (o.buys=false/\o.pr<=p)=false:=by simp[c]
   rw[this]
   have e2:fSell p o=0:=if_neg c
   simp only[Bool.false_eq_true,if_false,sumO,e2]
   rw[ih];omega
theorem cross_le {r:List Ord} (hr:∀o∈r,rightO o=true):(crossO r).2<=sumO (fBuy (crossO r).1) r/\(crossO r).2<=sumO (fSell (crossO r).1) r:=by
 have go:∀(m:List Ord) (pa:Int×Int),(pa.2<=sumO (fBuy pa.1) r/\pa.2<=sumO (fSell pa.1) r)->((m.foldl (crossStep r) pa).2<=sumO (fBuy (m.foldl (crossStep r) pa).1) r/\(m.foldl (crossStep r) pa).2<=sumO (fSell (m.foldl (crossStep r) pa).1) r):=λm=>by
  induction m with
  | nil=>intro pa h;exact h
  | cons o m ih=>
   intro pa h
   refine ih _ ?_
   unfold crossStep
   simp only
   split
   ·simp only;omega
   ·exact h
 refine go r (0,0) ⟨?_,?_⟩
 ·refine sumO_nn λo ho=>?_
  have:=rightO_iff.1 (hr o ho)
  unfold fBuy;split <;> omega
 ·refine sumO_nn λo ho=>?_
  have:=rightO_iff.1 (hr o ho)
  unfold fSell;split <;> omega
def FillOf (l:List Ord) (b:Bool) (p:Int) (f:Fil):Prop:=∃o∈l,o.buys=b/\(b=true->p<=o.pr)/\f.id=o.id/\f.own=o.own/\0<f.am/\f.am<=o.am
theorem runF_of {l:List Ord} {b:Bool} {p n:Int}:∀f∈runF (isort (sideO l b p)) n [],FillOf l b p f:=λf hf=>by
 unfold runF at hf
 rcases foldF_mem _ _ _ hf with h | ⟨o,ho,h⟩
 ·cases h
 ·have hs:=sideI_mem ho
  refine⟨o,hs.1,hs.2.2,λhb=>?_,h⟩
  have h1:=(isort_perm _).mem_iff.1 ho
  have h2:=(List.mem_filter.1 h1).2
  unfold onSide at h2
  simp only[decide_eq_true_eq]at h2
  rw[hb]at h2
  rcases h2.2 with h3 | h3
  ·exact h3.2
  ·cases h3.1
def cutB (l:List Ord) (i:Nat) (fs:List Fil):Int:=sumO (λo=>if o.own=i/\o.buys=true then o.pr*filled fs o.id else 0) l
def cutS (l:List Ord) (i:Nat) (fs:List Fil):Int:=sumO (λo=>if o.own=i/\o.buys=false then filled fs o.id else 0) l
theorem sumO_add (f g h:Ord->Int):∀(l:List Ord),(∀o∈l,f o=g o+h o)->sumO f l=sumO g l+sumO h l
 | [],_=>by simp[sumO]
 | o::l,H=>by
  have h1:=sumO_add f g h l λx hx=>H x (by simp[hx])
  have h2:=H o (by simp)
  simp only[sumO];omega
theorem sumO_congr {f g:Ord->Int}:∀{l:List Ord},(∀o∈l,f o=g o)->sumO f l=sumO g l
 | [],_=>rfl
 | o::l,H=>by
  have h1:=sumO_congr (f:=f) (g:=g) (l:=l) λx hx=>H x (by simp[hx])
  have h2:=H o (by simp)
  simp only[sumO];omega
theorem sumO_zero {f:Ord->Int} {l:List Ord} (h:∀o∈l,f o=0):sumO f l=0:=by
 rw[sumO_congr (g:=λ_=>0) h]
 induction l with
 | nil=>rfl
 | cons a l ih=>simp only[sumO];rw[ih λo ho=>h o (by simp[ho])];rfl
theorem cutB_cons (l:List Ord) (i:Nat) (f:Fil) (fs:List Fil):cutB l i (f::fs)=cutB l i [f]+cutB l i fs:=by
 refine sumO_add _ _ _ l λo _=>?_
 simp only[filled]
 split
 ·rw[Int.add_zero,Int.mul_add]
 ·rfl
theorem cutS_cons (l:List Ord) (i:Nat) (f:Fil) (fs:List Fil):cutS l i (f::fs)=cutS l i [f]+cutS l i fs:=by
 refine sumO_add _ _ _ l λo _=>?_
 simp only[filled]
 split <;> omega
theorem cutB_app (l:List Ord) (i:Nat) (a b:List Fil):cutB l i (a++b)=cutB l i a+cutB l i b:=by
 refine sumO_add _ _ _ l λo _=>?_
 rw[filled_app]
 split
 ·rw[Int.mul_add]
 ·rfl
theorem cutS_app (l:List Ord) (i:Nat) (a b:List Fil):cutS l i (a++b)=cutS l i a+cutS l i b:=by
 refine sumO_add _ _ _ l λo _=>?_
 rw[filled_app]
 split <;> omega
theorem sum_unique {g:Ord->Int}:∀{l:List Ord} {o:Ord},Ids l->o∈l->sumO (λx=>if o.id=x.id then g x else 0) l=g o
 | [],o,_,h=>by cases h
 | x::l,o,hI,h=>by
  have hp:=List.pairwise_cons.1 hI
  simp only[sumO]
  rcases List.mem_cons.1 h with rfl | h
  ·rw[if_pos rfl,sumO_zero λy hy=>if_neg (hp.1 y hy)];omega
  ·rw[if_neg (λe=>hp.1 o h e.symm),sum_unique hp.2 h];omega
theorem cut_one {l:List Ord} (hI:Ids l) {b:Bool} {p:Int} {f:Fil} (hf:FillOf l b p f) (i:Nat):∃o∈l,o.buys=b/\(b=true->p<=o.pr)/\f.id=o.id/\f.own=o.own/\0<f.am/\f.am<=o.am /\
  cutB l i [f]=(if b=true/\o.own=i then o.pr*f.am else 0)/\cutS l i [f]=if b=false/\o.own=i then f.am else 0:=by
 obtain⟨o,ho,hb,hp,h1,h2,h3,h4⟩:=hf
 refine⟨o,ho,hb,hp,h1,h2,h3,h4,?_,?_⟩
 ·have e:cutB l i [f]=sumO (λx=>if o.id=x.id then (if x.own=i/\x.buys=true then x.pr*f.am else 0)else 0) l:=sumO_congr λx _=>by
   simp only[filled,h1,Int.add_zero]
   split
   ·split
    ·rfl
    ·simp
   ·split <;> rfl
  rw[e,sum_unique hI ho,hb]
  by_cases c:b=true/\o.own=i
  ·rw[if_pos c,if_pos ⟨c.2,c.1⟩]
  ·rw[if_neg c,if_neg (λh=>c ⟨h.2,h.1⟩)]
 ·have e:cutS l i [f]=sumO (λx=>if o.id=x.id then (if x.own=i/\x.buys=false then f.am else 0)else 0) l:=sumO_congr λx _=>by
   simp only[filled,h1,Int.add_zero]
   split
   ·split <;> rfl
   ·split <;> rfl
  rw[e,sum_unique hI ho,hb]
  by_cases c:b=false/\o.own=i
  ·rw[if_pos c,if_pos ⟨c.2,c.1⟩]
  ·rw[if_neg c,if_neg (λh=>c ⟨h.2,h.1⟩)]
theorem cuts_side {l:List Ord} (hI:Ids l) {p:Int} (i:Nat):∀{fs:List Fil},(∀f∈fs,FillOf l false p f)->cutB l i fs=0/\cutS l i fs=amF i fs
 | [],_=>⟨sumO_zero λo _=>by simp[filled],sumO_zero λo _=>by simp[filled]⟩
 | f::fs,h=>by
  obtain⟨h1,h2⟩:=cuts_side hI i (fs:=fs) λx hx=>h x (by simp[hx])
  obtain⟨o,ho,hb,hp,e1,e2,e3,e4,e5,e6⟩:=cut_one hI (h f (by simp)) i
  rw[cutB_cons,cutS_cons,h1,h2,e5,e6]
  refine⟨by simp,?_⟩
  simp only[amF,e2,true_and]
theorem cutb_side {l:List Ord} (hI:Ids l) {p:Int} (i:Nat):∀{fs:List Fil},(∀f∈fs,FillOf l true p f)->cutS l i fs=0
 | [],_=>sumO_zero λo _=>by simp[filled]
 | f::fs,h=>by
  have h1:=cutb_side hI i (fs:=fs) λx hx=>h x (by simp[hx])
  obtain⟨o,ho,hb,hp,e1,e2,e3,e4,e5,e6⟩:=cut_one hI (h f (by simp)) i
  rw[cutS_cons,h1,e6]
  simp
end Go.Pw
set_option linter.unusedSimpArgs false
set_option linter.unusedVariables false
namespace Go.Pw
open Go Go.Proofs
theorem outF_one {l:List Ord} (hI:Ids l) {p:Int} {f:Fil} {o:Ord} (ho:o∈l) (he:f.id=o.id) (t:Spl):outF p l t f=inF p f t o:=by
 unfold outF
 induction l generalizing t with
 | nil=>cases ho
 | cons x l ih=>
  have hp:=List.pairwise_cons.1 hI
  rw[List.foldl_cons]
  rcases List.mem_cons.1 ho with rfl | ho
  ·have rest:∀(m:List Ord) (u:Spl),(∀y∈m,y.id≠f.id)->m.foldl (inF p f) u=u:=λm=>by
    induction m with
    | nil=>intro u _;rfl
    | cons y m ih2=>
     intro u hy
     rw[List.foldl_cons]
     have:inF p f u y=u:=by unfold inF;rw[if_pos (hy y (by simp))]
     rw[this]
     exact ih2 u λz hz=>hy z (by simp[hz])
   exact rest l _ λy hy e=>hp.1 y hy (by rw[e,he])
  ·have:inF p f t x=t:=by unfold inF;rw[if_pos (by rw[he];exact hp.1 o ho)]
   rw[this]
   exact ih hp.2 ho t
theorem outs_sell {l:List Ord} (hI:Ids l) {p:Int}:∀(fs:List Fil) (t:Spl),(∀f∈fs,FillOf l false p f)->fs.foldl (outF p l) t = {t with se:=t.se++fs}
 | [],t,_=>by simp
 | f::fs,t,h=>by
  obtain⟨o,ho,hb,_,e1,e2,e3,e4⟩:=h f (by simp)
  rw[List.foldl_cons,outF_one hI ho e1]
  have:inF p f t o = {t with se:=t.se ++ [f]}:=by unfold inF;rw[if_neg (by simp[e1]),if_neg (by simp[hb])]
  rw[this,outs_sell hI fs _ λx hx=>h x (by simp[hx])]
  simp
theorem outs_buy {l:List Ord} (hI:Ids l) (hr:∀o∈l,rightO o=true) {p:Int} (hp:0<=p) {n:Nat} (hown:∀o∈l,o.own<n):∀(fs:List Fil) (t:Spl),(∀f∈fs,FillOf l true p f)->Inv t.L->t.L.n=n->(∀i,i<n->cutB l i fs<=t.L.f i 1) ->
  (fs.foldl (outF p l) t).bu=t.bu++fs/\(fs.foldl (outF p l) t).se=t.se/\Inv (fs.foldl (outF p l) t).L/\(fs.foldl (outF p l) t).L.n=n/\(fs.foldl (outF p l) t).L.goods=t.L.goods /\
   (∀i,i<n->(fs.foldl (outF p l) t).L.f i 1=t.L.f i 1-cutB l i fs+p*amF i fs)/\∀i k,k≠1->(fs.foldl (outF p l) t).L.f i k=t.L.f i k
 | [],t,_,hv,hn,_=>by
  refine⟨by simp,rfl,hv,hn,rfl,λi _=>?_,λ_ _ _=>rfl⟩
  have:cutB l i []=0:=sumO_zero λo _=>by simp[filled]
  rw[this];simp[amF]
 | f::fs,t,h,hv,hn,hc=>by
  obtain⟨o,ho,hb,hpo,e1,e2,e3,e4⟩:=h f (by simp)
  have hpo:=hpo rfl
  have hro:=rightO_iff.1 (hr o ho)
  have hon:=hown o ho
  obtain⟨w,hw⟩:∃w:Nat,f.own=w:=⟨f.own.toNat,by omega⟩
  have hwn:w<n:=by omega
  have one:∀i:Nat,cutB l i [f]=if w=i then o.pr*f.am else 0:=λi=>by
   obtain⟨o',ho',hb',_,g1,g2,_,_,g5,_⟩:=cut_one hI (h f (by simp)) i
   have:o'=o:=ids_same hI ho' ho (by rw[<-g1,e1])
   subst this
   rw[g5]
   by_cases c:w=i
   ·rw[if_pos ⟨rfl,by omega⟩,if_pos c]
   ·rw[if_neg (by omega),if_neg c]
  have hstep:outF p l t f = {t with L:=holdH t.L w (-(o.pr-p)*f.am),bu:=t.bu ++ [f]}:=by
   rw[outF_one hI ho e1]
   unfold inF
   rw[if_neg (by simp[e1]),if_pos hb,hw,Int.toNat_natCast]
  have hpn:0<=o.pr*f.am:=Int.mul_nonneg (by omega) (by omega)
  have hpp:0<=p*f.am:=Int.mul_nonneg hp (by omega)
  have hd:-(o.pr-p)*f.am=p*f.am-o.pr*f.am:=by rw[Int.neg_mul,Int.sub_mul];omega
  have hle:p*f.am<=o.pr*f.am:=Int.mul_le_mul_of_nonneg_right hpo (by omega)
  have cut0:∀i,0<=cutB l i fs:=λi=>sumO_nn λx hx=>by
   have:=rightO_iff.1 (hr x hx)
   split
   ·refine Int.mul_nonneg (by omega) (filled_nn λy hy=>?_)
    obtain⟨_,_,_,_,_,_,q,_⟩:=h y (by simp[hy])
    omega
   ·omega
  have hcw:=hc w hwn
  rw[cutB_cons,one,if_pos rfl]at hcw
  have c0:=cut0 w
  have hheld:=hv.held w (by rw[hn];exact hwn)
  have hf:=hold_f (n:=-(o.pr-p)*f.am) hv (i:=w) (by rw[hn];exact hwn) (by omega) (by omega)
  have hgn:=holdH_gn t.L w (-(o.pr-p)*f.am)
  have ih:=outs_buy hI hr hp hown fs {t with L:=holdH t.L w (-(o.pr-p)*f.am),bu:=t.bu ++ [f]} (λx hx=>h x (by simp[hx])) (inv_holdH hv (by rw[hn];exact hwn) _) (hgn.2.trans hn) (λi hi=>by
   show cutB l i fs<=(holdH t.L w _).f i 1
   have h1:=hc i hi
   rw[cutB_cons,one]at h1
   rw[hf]
   by_cases c:i=w
   ·subst c
    rw[if_pos rfl]at h1
    rw[if_pos ⟨rfl,rfl⟩];omega
   ·rw[if_neg (λh=>c h.symm)]at h1
    rw[if_neg (by omega)];omega)
  rw[List.foldl_cons,hstep]
  obtain⟨i1,i2,i3,i4,i5,i6,i7⟩:=ih
  refine⟨by rw[i1];simp,i2,i3,i4,i5.trans hgn.1,λi hi=>?_,λi k hk=>?_⟩
  ·rw[i6 i hi,cutB_cons,one]
   show (holdH t.L w _).f i 1-_+_=_
   have eA:amF i (f::fs)=(if w=i then f.am else 0)+amF i fs:=by
    simp only[amF,hw]
    by_cases c:w=i
    ·rw[if_pos c,if_pos (by omega)]
    ·rw[if_neg c,if_neg (by omega)]
   rw[hf,eA]
   by_cases c:i=w
   ·subst c
    rw[if_pos ⟨rfl,rfl⟩,if_pos rfl,if_pos rfl,Int.mul_add,hd];omega
   ·rw[if_neg (by omega),if_neg (λh=>c h.symm),if_neg (λh=>c h.symm)];simp
  ·rw[i7 i k hk]
   show (holdH t.L w _).f i k=_
   rw[hf,if_neg (by omega)]
theorem cut_tail {i:Nat} {f:Fil} {r:List Fil} {m:Int}:amF i (if f.am-m=0 then r else {f with am:=f.am-m} :: r)=amF i (f::r)-(if f.own=i then m else 0)/\totF (if f.am-m=0 then r else {f with am:=f.am-m} :: r)=totF (f::r)-m:=by
 split
 ·simp only[amF,totF]
  constructor
  ·split <;> omega
  ·omega
 ·simp only[amF,totF]
  constructor
  ·split <;> omega
  ·omega
theorem match_f {gd:Nat} {p:Int} {n:Nat} (hp:0<=p):∀(k:Nat) (L:Led) (bu se:List Fil),bu.length+se.length<=k->totF bu=totF se->Inv L->L.n=n->(gd:Int)<L.goods->FilsOk n bu->FilsOk n se->(∀i,i<n->p*amF i bu<=L.f i 1)->(∀i,i<n->amF i se<=L.f i (6+gd)) ->
  (∀i,i<n->(matchF gd p k L bu se).f i 1=L.f i 1-p*amF i bu)/\∀i j,i<n->j<4->(matchF gd p k L bu se).f i (6+j)=if j=gd then L.f i (6+j)-amF i se else L.f i (6+j)
 | k,L,[],se,hk,ht,hv,hn,hg,hb,hs,_,_=>by
  rw[matchF_nil]
  have:se = []:=by
   cases se with
   | nil=>rfl
   | cons s ss=>
    have h1:=hs s (by simp)
    have h2:0<=totF ss:=by
     have:∀(l:List Fil),FilsOk n l->0<=totF l:=λl=>by
      induction l with
      | nil=>intro _;simp[totF]
      | cons a l ih=>intro h;have:=ih (λx hx=>h x (by simp[hx]));have:=h a (by simp);simp only[totF];omega
     exact this ss λx hx=>hs x (by simp[hx])
    simp only[totF]at ht;omega
  subst this
  refine⟨λi _=>by simp[amF],λi j _ _=>by simp[amF]⟩
 | k,L,b::bs,[],hk,ht,hv,hn,hg,hb,hs,_,_=>by
  exfalso
  have h1:=hb b (by simp)
  have h2:0<=totF bs:=by
   have:∀(l:List Fil),FilsOk n l->0<=totF l:=λl=>by
    induction l with
    | nil=>intro _;simp[totF]
    | cons a l ih=>intro h;have:=ih (λx hx=>h x (by simp[hx]));have:=h a (by simp);simp only[totF];omega
   exact this bs λx hx=>hb x (by simp[hx])
  simp only[totF]at ht;omega
 | 0,L,b::bs,s::ss,hk,ht,hv,hn,hg,hb,hs,_,_=>by simp at hk
 | k+1,L,b::bs,s::ss,hk,ht,hv,hn,hg,hb,hs,hB,hS=>by
  have h1:=hb b (by simp)
  have h2:=hs s (by simp)
  have hmb:0<min b.am s.am/\min b.am s.am<=b.am:=by omega
  have hms:0<min b.am s.am/\min b.am s.am<=s.am:=by omega
  obtain⟨so,hso⟩:∃so:Nat,s.own=so:=⟨s.own.toNat,by omega⟩
  obtain⟨bo,hbo⟩:∃bo:Nat,b.own=bo:=⟨b.own.toNat,by omega⟩
  have hson:so<n:=by omega
  have hbon:bo<n:=by omega
  have hlen:(if b.am-min b.am s.am=0 then bs else {b with am:=b.am-min b.am s.am} :: bs).length+(if s.am-min b.am s.am=0 then ss else {s with am:=s.am-min b.am s.am} :: ss).length<=k:=by
   simp only[List.length_cons]at hk
   by_cases hle:b.am<=s.am
   ·rw[if_pos (by omega)]
    split <;> (try simp only[List.length_cons]) <;> omega
   ·rw[if_neg (by omega),if_pos (by omega)]
    simp only[List.length_cons];omega
  have hbn:=hb.next hmb
  have hsn:=hs.next hms
  generalize hm:min b.am s.am=m at *
  have nnb:∀i,0<=amF i bs:=λi=>amF_nn λx hx=>by have:=hb x (by simp[hx]);omega
  have nns:∀i,0<=amF i ss:=λi=>amF_nn λx hx=>by have:=hs x (by simp[hx]);omega
  have hB1:=hB bo hbon
  have hS1:=hS so hson
  have nb1:=nnb bo
  have ns1:=nns so
  simp only[amF,hbo,if_true]at hB1
  simp only[amF,hso,if_true]at hS1
  have hpm:p*m<=p*(b.am+amF bo bs):=Int.mul_le_mul_of_nonneg_left (by omega) hp
  obtain⟨t1,t6⟩:=trade_f (i:=so) (j:=bo) (g:=gd) (n:=m) (p:=p) hv (by omega) (by omega) hg (by omega) hp (by omega) (by omega)
  have hgn:=tradeH_gn L so bo gd p m
  have hcb:∀i,amF i (if b.am-m=0 then bs else {b with am:=b.am-m} :: bs)=amF i (b::bs)-(if b.own=i then m else 0):=λi=>cut_tail.1
  have hcs:∀i,amF i (if s.am-m=0 then ss else {s with am:=s.am-m} :: ss)=amF i (s::ss)-(if s.own=i then m else 0):=λi=>cut_tail.1
  have htb:totF (if b.am-m=0 then bs else {b with am:=b.am-m} :: bs)=totF (b::bs)-m:=(cut_tail (i:=0)).2
  have hts:totF (if s.am-m=0 then ss else {s with am:=s.am-m} :: ss)=totF (s::ss)-m:=(cut_tail (i:=0)).2
  have hstep:matchF gd p (k+1) L (b::bs) (s::ss)=matchF gd p k (tradeH L so bo gd p m) (if b.am-m=0 then bs else {b with am:=b.am-m} :: bs) (if s.am-m=0 then ss else {s with am:=s.am-m} :: ss):=by
   show matchF gd p k (tradeH L s.own.toNat b.own.toNat gd p (min b.am s.am)) _ _=_
   rw[hso,hbo,hm,Int.toNat_natCast,Int.toNat_natCast]
  have ih:=match_f hp k (tradeH L so bo gd p m) _ _ hlen (by rw[htb,hts,ht]) (inv_tradeH hv (by omega) (by omega) _ _ _) (hgn.2.trans hn) (by rw[hgn.1];exact hg) hbn hsn
   (λi hi=>by
    rw[hcb,t1,hbo]
    have h3:=hB i hi
    by_cases c:i=bo
    ·subst c;rw[if_pos rfl,if_pos rfl,Int.mul_sub];omega
    ·rw[if_neg c,if_neg (by omega)];simpa using h3)
   (λi hi=>by
    rw[hcs,t6 i gd (by have:=hv.gd;omega),hso]
    have h3:=hS i hi
    by_cases c:i=so
    ·subst c;rw[if_pos rfl,if_pos ⟨rfl,rfl⟩];omega
    ·rw[if_neg (by omega),if_neg (λh=>c h.1)];omega)
  rw[hstep]
  obtain⟨i1,i2⟩:=ih
  refine⟨λi hi=>?_,λi j hi hj=>?_⟩
  ·rw[i1 i hi,hcb,t1,hbo]
   by_cases c:i=bo
   ·subst c;rw[if_pos rfl,if_pos rfl,Int.mul_sub];omega
   ·rw[if_neg c,if_neg (by omega)];simp
  ·rw[i2 i j hi hj,hcs,t6 i j hj,hso]
   by_cases e:j=gd
   ·subst e
    rw[if_pos rfl,if_pos rfl]
    by_cases c:i=so
    ·subst c;rw[if_pos ⟨rfl,rfl⟩,if_pos rfl];omega
    ·rw[if_neg (λh=>c h.1),if_neg (by omega)];omega
   ·rw[if_neg e,if_neg e,if_neg (λh=>e h.2)]
end Go.Pw
set_option linter.unusedSimpArgs false
set_option linter.unusedVariables false
namespace Go.Pw
open Go Go.Proofs
theorem sumO_left {f:Ord->Int} (hf:∀o,o.am=0->f o=0):∀(l:List Ord),sumO f (l.filter λo=>!decide (o.am=0))=sumO f l
 | []=>rfl
 | o::l=>by
  rw[List.filter_cons]
  by_cases c:o.am=0
  ·simp[c,sumO,sumO_left hf l,hf o c]
  ·simp[c,sumO,sumO_left hf l]
theorem left_buy (l:List Ord) (i:Nat) (fs:List Fil):sumO (buyW i) (l.map (cutO fs))=sumO (buyW i) l-cutB l i fs:=by
 induction l with
 | nil=>rfl
 | cons o l ih=>
  have e:cutB (o::l) i fs=(if o.own=i/\o.buys=true then o.pr*filled fs o.id else 0)+cutB l i fs:=rfl
  rw[e]
  simp only[List.map_cons,sumO,ih]
  have h:buyW i (cutO fs o)=buyW i o-(if o.own=i/\o.buys=true then o.pr*filled fs o.id else 0):=by
   unfold buyW cutO
   simp only
   split
   ·rw[Int.mul_sub]
   ·omega
  rw[h];omega
theorem left_sell (l:List Ord) (i:Nat) (fs:List Fil):sumO (sellW i) (l.map (cutO fs))=sumO (sellW i) l-cutS l i fs:=by
 induction l with
 | nil=>rfl
 | cons o l ih=>
  have e:cutS (o::l) i fs=(if o.own=i/\o.buys=false then filled fs o.id else 0)+cutS l i fs:=rfl
  rw[e]
  simp only[List.map_cons,sumO,ih]
  have h:sellW i (cutO fs o)=sellW i o-(if o.own=i/\o.buys=false then filled fs o.id else 0):=by
   unfold sellW cutO
   simp only
   split <;> omega
  rw[h];omega
theorem clearH_snd {S:Hs} (hk:S.ok) (hs:Snd S) {gd:Nat} (hgG:gd<S.G):Snd (clearH S gd):=by
 have hg:=hk.g
 have hB:=hk.bk gd hgG
 have hr:=hB.right
 have hI:=hB.ids
 have hra:=rightsO_all hr
 obtain⟨hp,hp2⟩:=clearO_p hB
 have hle:=cross_le hr
 have hbd:=cross_bd (r:=(S.bk gd).l) hB.len hr
 -- the fills of the two sides
 obtain⟨FB,hFB⟩:∃FB,FB=runF (isort (sideO (S.bk gd).l true (clearO (S.bk gd)).p)) (clearO (S.bk gd)).n []:=⟨_,rfl⟩
 obtain⟨FS,hFS⟩:∃FS,FS=runF (isort (sideO (S.bk gd).l false (clearO (S.bk gd)).p)) (clearO (S.bk gd)).n []:=⟨_,rfl⟩
 have hfs:(clearO (S.bk gd)).fs=FB++FS:=by
  have:(clearO (S.bk gd)).fs=fillsO (S.bk gd).l (clearO (S.bk gd)).p (clearO (S.bk gd)).n:=rfl
  rw[this]
  unfold fillsO
  rw[runF_app,hFB,hFS]
 have oB:∀f∈FB,FillOf (S.bk gd).l true (clearO (S.bk gd)).p f:=by rw[hFB];exact runF_of
 have oS:∀f∈FS,FillOf (S.bk gd).l false (clearO (S.bk gd)).p f:=by rw[hFS];exact runF_of
 have hpc:(clearO (S.bk gd)).p=(crossO (S.bk gd).l).1:=by
  show (crossO (rightsO (S.bk gd).l)).1=_;rw[hra]
 have hnc:(clearO (S.bk gd)).n=(crossO (S.bk gd).l).2:=by
  show (crossO (rightsO (S.bk gd).l)).2=_;rw[hra]
 have am1:∀b o,o∈isort (sideO (S.bk gd).l b (clearO (S.bk gd)).p)->1<=o.am:=λb o ho=>by
  have:=rightO_iff.1 (sideI_mem ho).2.1
  omega
 have tB:totF FB=(clearO (S.bk gd)).n:=by
  rw[hFB]
  unfold runF
  rw[(foldF_tot _ _ (by show 0<=(clearO (S.bk gd)).n;rw[hnc];exact hbd.1) (am1 true)).2]
  have e:sumO amO (isort (sideO (S.bk gd).l true (clearO (S.bk gd)).p))=sumO (fBuy (clearO (S.bk gd)).p) (S.bk gd).l:=by
   rw[sumO_perm (isort_perm _)]
   unfold sideO
   rw[hra,side_buy]
  rw[e]
  simp only[totF]
  have:=hle.1
  rw[<-hpc,<-hnc]at this
  have h0:=hbd.1
  rw[<-hnc]at h0
  omega
 have tS:totF FS=(clearO (S.bk gd)).n:=by
  rw[hFS]
  unfold runF
  rw[(foldF_tot _ _ (by show 0<=(clearO (S.bk gd)).n;rw[hnc];exact hbd.1) (am1 false)).2]
  have e:sumO amO (isort (sideO (S.bk gd).l false (clearO (S.bk gd)).p))=sumO (fSell (clearO (S.bk gd)).p) (S.bk gd).l:=by
   rw[sumO_perm (isort_perm _)]
   unfold sideO
   rw[hra,side_sell]
  rw[e]
  simp only[totF]
  have:=hle.2
  rw[<-hpc,<-hnc]at this
  have h0:=hbd.1
  rw[<-hnc]at h0
  omega
 have hL:=clearO_l hB
 have hfo:=clearO_fs hk hgG
 rw[hfs]at hfo
 have hgn:=clearH_gn hk hgG
 unfold clearH splH at hgn ⊢
 rw[hfs]at hgn ⊢
 generalize hpv:(clearO (S.bk gd)).p=p at *
 have hl:(clearO (S.bk gd)).B.l=((S.bk gd).l.map (cutO (FB++FS))).filter λo=>!decide (o.am=0):=by
  rw[hL];unfold leftO;rw[hfs]
 -- what is asked of the ledger
 have capB:∀i,i<S.L.n->cutB (S.bk gd).l i FB<=S.L.f i 1:=λi hi=>by
  have h1:=heldG_le hk hs hi hgG
  have h2:=auW_nn (i:=i) hk hgG
  have h3:cutB (S.bk gd).l i FB<=sumO (buyW i) (S.bk gd).l:=by
   have:=left_buy (S.bk gd).l i (FB++FS)
   rw[cutB_app,(cuts_side hI i oS).1]at this
   have nn:=sumO_nn (f:=buyW i) (l:=(S.bk gd).l.map (cutO (FB++FS))) λo ho=>by
    obtain⟨x,hx,rfl⟩:=List.mem_map.1 ho
    have q:=rightO_iff.1 (hr x hx)
    have hin:=fillsO_in hI hr (p:=p) (n:=(clearO (S.bk gd)).n) hx
    have hfe:fillsO (S.bk gd).l p (clearO (S.bk gd)).n=FB++FS:=by
     rw[<-hfs,<-hpv];rfl
    rw[hfe]at hin
    unfold buyW cutO
    simp only
    split
    ·exact Int.mul_nonneg (by omega) (by omega)
    ·omega
   omega
  unfold heldG at h1
  omega
 have capS:∀i,i<S.L.n->amF i FS<=S.L.f i (6+gd):=λi hi=>by
  have h1:=hs.lock i gd hi (by omega)
  rw[if_pos hgG]at h1
  have h2:=auK_nn (i:=i) hk hgG
  have h3:amF i FS<=sumO (sellW i) (S.bk gd).l:=by
   have:=left_sell (S.bk gd).l i (FB++FS)
   rw[cutS_app,(cuts_side hI i oS).2,cutb_side hI i oB]at this
   have nn:=sumO_nn (f:=sellW i) (l:=(S.bk gd).l.map (cutO (FB++FS))) λo ho=>by
    obtain⟨x,hx,rfl⟩:=List.mem_map.1 ho
    have q:=rightO_iff.1 (hr x hx)
    have hin:=fillsO_in hI hr (p:=p) (n:=(clearO (S.bk gd)).n) hx
    have hfe:fillsO (S.bk gd).l p (clearO (S.bk gd)).n=FB++FS:=by
     rw[<-hfs,<-hpv];rfl
    rw[hfe]at hin
    unfold sellW cutO
    simp only
    split <;> omega
   omega
  unfold lockG at h1
  omega
 obtain⟨b1,b2,b3,b4,b5,b6,b7⟩:=outs_buy hI hr hp (n:=S.L.n) (hk.own gd hgG) FB ⟨S.L,[],[]⟩ oB hk.led rfl capB
 have hsp:(FB++FS).foldl (outF p (S.bk gd).l) ⟨S.L,[],[]⟩=⟨(FB.foldl (outF p (S.bk gd).l) ⟨S.L,[],[]⟩).L,FB,FS⟩:=by
  rw[List.foldl_append,outs_sell hI FS _ oS]
  have e1:(FB.foldl (outF p (S.bk gd).l) ⟨S.L,[],[]⟩).bu=FB:=by rw[b1];rfl
  have e2:(FB.foldl (outF p (S.bk gd).l) ⟨S.L,[],[]⟩).se = []:=b2
  rw[e1,e2]
  rfl
 rw[hsp]at hgn ⊢
 simp only at hgn ⊢
 generalize (FB.foldl (outF p (S.bk gd).l) ⟨S.L,[],[]⟩).L=L1 at *
 have okB:FilsOk S.L.n FB:=λf hf=>hfo f (by simp[hf]) f (by simp)
 have okS:FilsOk S.L.n FS:=λf hf=>hfo f (by simp[hf]) f (by simp)
 have hg1:(gd:Int)<L1.goods:=by rw[b5];show (gd:Int)<S.L.goods;omega
 obtain⟨m1,m6⟩:=match_f (gd:=gd) hp (FB.length+FS.length) L1 FB FS (Nat.le_refl _) (by rw[tB,tS]) b3 b4 hg1 okB okS
  (λi hi=>by
   rw[b6 i hi]
   have:=capB i hi
   show p*amF i FB<=S.L.f i 1-_+_
   omega)
  (λi hi=>by rw[b7 i (6+gd) (by omega)];exact capS i hi)
 refine hs.change hgG hgn.2.1 hgn.2.2 (λg e=>setBk_ne S _ e) (λg e=>rfl) (λi hi=>?_) (λi g hi hg4=>?_) (λx hx=>?_) (λA w h=>hs.sel gd A w hgG h)
 ·rw[(heldG_bk S i gd _).1,hl,sumO_left (λo ho=>by unfold buyW;rw[ho];simp),left_buy,cutB_app,(cuts_side hI i oS).1]
  show (matchF gd p _ L1 FB FS).f i 1=_
  rw[m1 i hi,b6 i hi]
  show S.L.f i 1-_+_-_=S.L.f i 1+_-(sumO (buyW i) (S.bk gd).l+auW S i gd)
  omega
 ·rw[(heldG_bk S i gd _).2,hl,sumO_left (λo ho=>by unfold sellW;rw[ho];simp),left_sell,cutS_app,(cuts_side hI i oS).2,cutb_side hI i oB]
  show (matchF gd p _ L1 FB FS).f i (6+g)=_
  rw[m6 i g hi hg4,b7 i (6+g) (by omega)]
  by_cases e:g=gd
  ·subst e
   rw[if_pos rfl,if_pos rfl]
   show S.L.f i (6+g)-_=S.L.f i (6+g)+_-(sumO (sellW i) (S.bk g).l+auK S i g)
   omega
  ·rw[if_neg e,if_neg e]
 ·have hx2:x∈(clearO (S.bk gd)).B.l:=by
   have:((S.setBk gd (clearO (S.bk gd)).B).setL (matchF gd p (FB.length+FS.length) L1 FB FS)).bk gd=(clearO (S.bk gd)).B:=by simp[Hs.setBk,Hs.setL]
   rw[this]at hx;exact hx
  rw[hL]at hx2
  obtain⟨y,hy,rfl,_⟩:=leftO_mem hB hx2
  exact hs.ids gd hgG y hy
end Go.Pw
set_option linter.unusedSimpArgs false
set_option linter.unusedVariables false
namespace Go.Pw
open Go Go.Proofs
theorem sumN_le {f g:Nat->Int}:∀(n:Nat),(∀i,i<n->f i<=g i)->sumN f n<=sumN g n
 | 0,_=>by simp[sumN]
 | n+1,h=>by
  have h1:=sumN_le n λi hi=>h i (by omega)
  have h2:=h n (by omega)
  simp only[sumN];omega
theorem sumN_mul {f:Nat->Int} {c:Int}:∀(n:Nat),sumN (λi=>f i*c) n=sumN f n*c
 | 0=>by simp[sumN]
 | n+1=>by simp only[sumN,sumN_mul n,Int.add_mul]
theorem sumN_mono {f:Nat->Int} {k n:Nat} (h:∀i,i<n->0<=f i) (hk:k<=n):sumN f k<=sumN f n:=by
 induction n with
 | zero=>
  have:k=0:=by omega
  subst this;omega
 | succ n ih=>
  rcases Nat.lt_or_ge k (n+1)with h1 | h1
  ·have:=ih (λi hi=>h i (by omega)) (by omega)
   have h2:=h n (by omega)
   simp only[sumN];omega
  ·have:k=n+1:=by omega
   subst this;omega
theorem leftN_nn (g o:Nat->Int) {l:Int} (hl:0<=l):∀k,0<=leftN g o l k
 | 0=>hl
 | k+1=>by
  have:=leftN_nn g o hl k
  unfold leftN
  split <;> omega
theorem shareA_sum {g:Nat->Int} {m:Int} {n:Nat} (hm:0<=m) (hg:∀i,i<n->0<=g i):sumN (shareA g m n) n<=m:=by
 have hs:=sumN_nn n hg
 have hl:0<=m-sumN (base g m (sumN g n)) n:=by
  rcases Int.lt_or_le 0 (sumN g n)with hp | hp
  ·have h1:sumN (λi=>base g m (sumN g n) i*sumN g n) n<=sumN (λi=>g i*m) n:=sumN_le n λi hi=>by
    unfold base
    rw[if_pos hp,Int.tdiv_eq_ediv_of_nonneg (Int.mul_nonneg hm (hg i hi)),Int.mul_comm (g i) m]
    exact Int.ediv_mul_le _ (by omega)
   rw[sumN_mul,sumN_mul,Int.mul_comm (sumN g n) m]at h1
   have:=Int.le_of_mul_le_mul_right h1 hp
   omega
  ·have:sumN (base g m (sumN g n)) n=0:=by
    have e:sumN (base g m (sumN g n)) n=sumN (λ_=>0) n:=sumN_congr n λi _=>by unfold base;rw[if_neg (by omega)]
    rw[e]
    have z:∀k,sumN (λ_=>(0:Int)) k=0:=λk=>by
     induction k with
     | zero=>rfl
     | succ k ih=>simp only[sumN,ih];rfl
    exact z n
   omega
 have key:∀k,sumN (shareA g m n) k=sumN (base g m (sumN g n)) k+(m-sumN (base g m (sumN g n)) n)-leftN g (base g m (sumN g n)) (m-sumN (base g m (sumN g n)) n) k:=λk=>by
  induction k with
  | zero=>simp only[sumN,leftN];omega
  | succ k ih=>
   have e:shareA g m n k=if 0<leftN g (base g m (sumN g n)) (m-sumN (base g m (sumN g n)) n) k/\base g m (sumN g n) k<g k then base g m (sumN g n) k+1 else base g m (sumN g n) k:=rfl
   simp only[sumN,leftN,ih,e]
   split <;> omega
 rw[key n]
 have:=leftN_nn g (base g m (sumN g n)) hl n
 omega
theorem sale_in {A:Auc} (hk:A.ok) (hs:A.ste=2\/A.ste=1/\A.demand<=A.sup):(∀i:Nat,i<A.n->(saleA A).1*(saleA A).2 i<=needA A i)/\sumN (saleA A).2 A.n<=A.sup:=by
 have hp:=hk.priceB
 have hl:=last_bd hk
 have hsup:=hk.sup
 have wn:∀i:Nat,i<A.n->wantsA A i=(A.was i,A.now i):=λi hi=>by unfold wantsA;rw[if_neg (by omega),Int.toNat_natCast]
 have nd:∀i:Nat,i<A.n->needA A i=max (A.was i*A.last) (A.now i*A.price):=λi hi=>by unfold needA;rw[wn i hi]
 unfold saleA
 split
 ·refine⟨λi hi=>?_,?_⟩
  ·have:=needA_bd hk i
   simp only;omega
  ·have z:∀k,sumN (λ_=>(0:Int)) k=0:=λk=>by
    induction k with
    | zero=>rfl
    | succ k ih=>simp only[sumN,ih];rfl
   simp only[z];omega
 ·rename_i h2
  have hd:A.demand<=A.sup:=by omega
  split
  ·refine⟨λi hi=>?_,hd⟩
   rw[nd i hi]
   simp only
   rw[Int.mul_comm]
   omega
  ·rename_i h3
   have hr:¬A.rnd=1:=λe=>h3 (.inl e)
   have hr2:1<A.rnd:=by have:=hk.rnd;omega
   have hlast:A.last=A.price-A.stp:=by unfold Auc.last;rw[if_neg hr]
   have hf:=hk.fall hr2
   have hm:=hk.more hr2
   have hg:∀i,i<A.n->0<=A.was i-A.now i:=λi hi=>by have:=hf i hi;omega
   unfold Auc.demand at hd ⊢
   refine⟨λi hi=>?_,?_⟩
   ·have h5:=shareA_le (g:=λk=>A.was k-A.now k) (m:=A.sup-sumN A.now A.n) (n:=A.n) (by omega) hg (by rw[sumN_sub];omega) hi
    rw[nd i hi,<-hlast]
    simp only
    have h6:A.last*(A.now i+shareA (λk=>A.was k-A.now k) (A.sup-sumN A.now A.n) A.n i)<=A.last*A.was i:=Int.mul_le_mul_of_nonneg_left (by omega) hl.1
    rw[Int.mul_comm A.last (A.was i)]at h6
    omega
   ·have h7:=shareA_sum (g:=λk=>A.was k-A.now k) (m:=A.sup-sumN A.now A.n) (n:=A.n) (by omega) hg
    have h8:∀k,sumN (λi=>A.now i+shareA (λk=>A.was k-A.now k) (A.sup-sumN A.now A.n) A.n i) k=sumN A.now k+sumN (shareA (λk=>A.was k-A.now k) (A.sup-sumN A.now A.n) A.n) k:=λk=>by
     induction k with
     | zero=>rfl
     | succ k ih=>simp only[sumN,ih];omega
    rw[h8]
    omega
theorem slRun_f {L:Led} (hv:Inv L) {gd w:Nat} {p sup:Int} {held got:Nat->Int} (hg:(gd:Int)<L.goods) (hw:w<L.n) (hp:0<=p) (hgot:∀i,i<L.n->0<=got i) (hin:∀i,i<L.n->p*got i<=held i) (hh:∀i,i<L.n->held i<=L.f i 1)
  (hs:sumN got L.n<=sup) (hl:sup<=L.f w (6+gd)):∀k,k<=L.n->(slRun gd w p held got (L,sup) k).2=sup-sumN got k/\(∀i,(slRun gd w p held got (L,sup) k).1.f i 1=L.f i 1-if i<k then held i else 0) /\
   ∀i j,j<4->(slRun gd w p held got (L,sup) k).1.f i (6+j)=L.f i (6+j)-if i=w/\j=gd then sumN got k else 0
 | 0,_=>by
  refine⟨by simp[slRun,sumN],λi=>by simp[slRun],λi j _=>?_⟩
  simp only[slRun,sumN]
  split <;> omega
 | k+1,hk=>by
  obtain⟨i1,i2,i3⟩:=slRun_f hv hg hw hp hgot hin hh hs hl k (by omega)
  obtain⟨v1,v2,v3⟩:=slRun_ok hv gd hw p held got sup k (by omega)
  have hstep:slRun gd w p held got (L,sup) (k+1)=slStep gd w p held got (slRun gd w p held got (L,sup) k) k:=rfl
  rw[hstep]
  generalize slRun gd w p held got (L,sup) k=t at *
  have g0:=hgot k (by omega)
  have gin:=hin k (by omega)
  have hhk:=hh k (by omega)
  have hmono:=sumN_mono (k:=k+1) hgot hk
  have e1:sumN got (k+1)=sumN got k+got k:=rfl
  have fk:t.1.f k 1=L.f k 1:=by rw[i2,if_neg (by omega)];omega
  have hg4:=hv.gd
  have fw:t.1.f w (6+gd)=L.f w (6+gd)-sumN got k:=by rw[i3 w gd (by omega),if_pos ⟨rfl,rfl⟩]
  obtain⟨t1,t6⟩:=trade_f (L:=t.1) (i:=w) (j:=k) (g:=gd) (n:=got k) (p:=p) v1 (by rw[v2];exact hw) (by rw[v2];omega) (by rw[v3];exact hg) g0 hp (by rw[fw];omega) (by rw[fk];omega)
  have hgn:=tradeH_gn t.1 w k gd p (got k)
  have hv2:=inv_tradeH v1 (s:=w) (b:=k) (by rw[v2];exact hw) (by rw[v2];omega) gd p (got k)
  have fk2:(tradeH t.1 w k gd p (got k)).f k 1=L.f k 1-p*got k:=by rw[t1,if_pos rfl,fk]
  have hh2:=hv2.held k (by rw[hgn.2,v2];omega)
  have hf:=hold_f (L:=tradeH t.1 w k gd p (got k)) (i:=k) (n:=p*got k-held k) hv2 (by rw[hgn.2,v2];omega) (by rw[fk2];omega) (by omega)
  unfold slStep
  simp only
  refine⟨by rw[i1,e1];omega,λi=>?_,λi j hj=>?_⟩
  ·rw[hf,fk2,t1]
   by_cases c:i=k
   ·subst c
    rw[if_pos ⟨rfl,rfl⟩,if_pos (by omega)];omega
   ·rw[if_neg (by omega),if_neg c,i2]
    by_cases c2:i<k
    ·rw[if_pos c2,if_pos (by omega)]
    ·rw[if_neg c2,if_neg (by omega)]
  ·rw[hf,if_neg (by omega),t6 i j hj,fw,i3 i j hj]
   by_cases c:i=w/\j=gd
   ·rw[if_pos c,if_pos c,c.1,c.2,e1];omega
   ·rw[if_neg c,if_neg c,if_neg c]
theorem rdRun_f {L:Led} {N:Auc} (hv:Inv L) (hN:N.ok) (h0:N.ste=0) (hn:N.n=L.n) (hr:1<N.rnd) (hwas:∀i,i<N.n->N.was i=N.now i) {held:Nat->Int} (hb:∀i,i<L.n->N.was i*N.last<=held i/\0<=held i/\held i<=L.f i 1) :
  ∀k,k<=L.n->(∃b:Nat->Int,(rdRun held (L,N) k).2 = {N with now:=b}/\∀i,i<N.n->0<=b i/\b i<=N.was i) /\
   (∀i,i<L.n->(rdRun held (L,N) k).1.f i 1=L.f i 1+if i<k then needA (rdRun held (L,N) k).2 i-held i else 0)/\∀i c,c≠1->(rdRun held (L,N) k).1.f i c=L.f i c
 | 0,_=>by
  refine⟨⟨N.now,rfl,λi hi=>?_⟩,λi _=>by simp[rdRun],λi c _=>rfl⟩
  have h1:=hN.now i hi
  have h2:=hwas i hi
  omega
 | k+1,hk=>by
  obtain⟨⟨b,hB,hbb⟩,i2,i3⟩:=rdRun_f hv hN h0 hn hr hwas hb k (by omega)
  obtain⟨v1,v2,v3,v4,v5,v6⟩:=rdRun_ok hv hN held k (by omega)
  have hstep:rdRun held (L,N) (k+1)=rdStep held (rdRun held (L,N) k) k:=rfl
  rw[hstep]
  generalize rdRun held (L,N) k=t at *
  obtain⟨Lk,B⟩:=t
  simp only at hB i2 i3 v1 v2 v3 v4 v5 v6
  have hkn:k<N.n:=by omega
  have hBn:B.n=N.n:=by rw[hB]
  have hBp:B.price=N.price:=by rw[hB];rfl
  have hBl:B.last=N.last:=by rw[hB];rfl
  have hBw:B.was=N.was:=by rw[hB]
  have hw:(wantsA B k).1=N.was k:=by unfold wantsA;rw[if_neg (by omega),Int.toNat_natCast,hBw]
  have hpr:=hN.priceB
  have hpos:1<=N.price:=by
   have h1:=hN.sta
   have h2:=hN.stp
   have h3:1*1<=(N.rnd-1)*N.stp:=Int.mul_le_mul (by omega) (by omega) (by omega) (by omega)
   unfold Auc.price
   omega
  have hwb:=hN.was k hkn
  have hhk:=hb k (by omega)
  have f1:Lk.f k 1=L.f k 1:=by rw[i2 k (by omega),if_neg (by omega)];omega
  have f0:Lk.f k 0=L.f k 0:=i3 k 0 (by omega)
  have hle:=hv.held k (by omega)
  -- the bid
  obtain⟨m,hm⟩:∃m,m=min (wantsA B k).1 ((Lk.f k 0-Lk.f k 1+held k).tdiv B.price):=⟨_,rfl⟩
  have hq0:0<=Lk.f k 0-Lk.f k 1+held k:=by omega
  have hq:(Lk.f k 0-Lk.f k 1+held k).tdiv B.price=(Lk.f k 0-Lk.f k 1+held k)/B.price:=Int.tdiv_eq_ediv_of_nonneg hq0
  have hq1:0<=(Lk.f k 0-Lk.f k 1+held k)/B.price:=Int.ediv_nonneg hq0 (by omega)
  have hq2:(Lk.f k 0-Lk.f k 1+held k)/B.price*B.price<=Lk.f k 0-Lk.f k 1+held k:=Int.ediv_mul_le _ (by omega)
  have hm0:0<=m/\m<=N.was k/\m<=(Lk.f k 0-Lk.f k 1+held k)/B.price:=by rw[hm,hw,hq];omega
  have hmp:m*B.price<=Lk.f k 0-Lk.f k 1+held k:=by
   have:m*B.price<=(Lk.f k 0-Lk.f k 1+held k)/B.price*B.price:=Int.mul_le_mul_of_nonneg_right hm0.2.2 (by omega)
   omega
  have hset:(bidA B k m).2=B.setNow k m:=bidA_set (by rw[v5,h0]) (by omega) ⟨hm0.1,by omega⟩ (by rw[hw];omega)
  have hnd:needA (B.setNow k m) k=max (N.was k*N.last) (m*B.price):=by rw[needA_bid (by omega),if_pos rfl,hw,hBl]
  have hnd0:0<=needA (B.setNow k m) k:=by
   rw[hnd]
   have:0<=m*B.price:=Int.mul_nonneg hm0.1 (by omega)
   omega
  have hf:=hold_f (L:=Lk) (i:=k) (n:=needA (B.setNow k m) k-held k) v1 (by omega) (by omega) (by rw[hnd];omega)
  have hst:rdStep held (Lk,B) k=(holdH Lk k (needA (B.setNow k m) k-held k),B.setNow k m):=by
   unfold rdStep
   simp only
   rw[<-hm,hset]
  rw[hst]
  simp only
  refine⟨⟨λi=>if i=k then m else b i,?_,λi hi=>?_⟩,λi hi=>?_,λi c hc=>?_⟩
  ·rw[hB];rfl
  ·simp only
   split
   ·rename_i e;subst e;omega
   ·exact hbb i hi
  ·rw[hf]
   by_cases c:i=k
   ·subst c;rw[if_pos ⟨rfl,rfl⟩,if_pos (by omega)];omega
   ·rw[if_neg (by omega),i2 i hi]
    have e:needA (B.setNow k m) i=needA B i:=by rw[needA_bid (by omega),if_neg (by omega)]
    rw[e]
    by_cases c2:i<k
    ·rw[if_pos c2,if_pos (by omega)]
    ·rw[if_neg c2,if_neg (by omega)]
  ·rw[hf,if_neg (by omega)];exact i3 i c hc
end Go.Pw
set_option linter.unusedSimpArgs false
set_option linter.unusedVariables false
namespace Go.Pw
open Go Go.Proofs
theorem roundH_snd {S:Hs} (hk:S.ok) (hs:Snd S) {gd:Nat} (hgG:gd<S.G):Snd (roundH S gd):=by
 have hg:=hk.g
 unfold roundH
 cases hau:S.au gd with
 | none=>exact hs
 | some q=>
  obtain⟨A,w⟩:=q
  simp only
  obtain⟨hAk,hA0,hAn,hw0,hwn⟩:=hk.au gd A w hgG hau
  have hok:=nextA_ok hAk
  have hsel:=hs.sel gd A w hgG hau
  have eH:∀i:Nat,heldG S i gd=sumO (buyW i) (S.bk gd).l+needA A i:=λi=>by unfold heldG auW;rw[hau]
  have eK:∀i:Nat,lockG S i gd=sumO (sellW i) (S.bk gd).l+if w=i then A.sup else 0:=λi=>by unfold lockG auK;rw[hau]
  have hheld:∀i,i<S.L.n->needA A i<=S.L.f i 1:=λi hi=>by
   have h1:=heldG_le hk hs hi hgG
   have h2:=sumO_nn (f:=buyW i) (l:=(S.bk gd).l) λx hx=>buyW_nn ((hk.bk gd hgG).right x hx)
   rw[eH]at h1;omega
  have hneed0:∀i:Nat,0<=needA A i:=λi=>(needA_bd hAk i).1
  have wn:∀i:Nat,i<A.n->wantsA A i=(A.was i,A.now i):=λi hi=>by unfold wantsA;rw[if_neg (by omega),Int.toNat_natCast]
  cases hov:(nextA A).1 with
  | false=>
   simp only[if_true]
   obtain⟨k0,k1,k2⟩:=nextA_on hA0 hAk.rnd hov
   have hN:(nextA A).2.2 = {A with rnd:=A.rnd+1,was:=λi=>if i<A.n then A.now i else A.was i}:=by
    unfold nextA at hov ⊢
    rw[if_neg (by simp[hA0])]at hov ⊢
    split
    ·rename_i c;rw[if_pos c]at hov;cases hov
    ·rename_i c;rw[if_neg c]at hov
     split
     ·rename_i c;rw[if_pos c]at hov;cases hov
     ·rfl
   have hNl:(nextA A).2.2.last=A.price:=by
    have hr:=hAk.rnd
    rw[hN]
    unfold Auc.last Auc.price
    simp only
    rw[if_neg (by omega)]
    have:(A.rnd+1-1)*A.stp=(A.rnd-1)*A.stp+A.stp:=by rw[show A.rnd+1-1=(A.rnd-1)+1 by omega,Int.add_mul];omega
    omega
   have hNw:∀i,i<A.n->(nextA A).2.2.was i=A.now i:=λi hi=>by rw[hN];simp only;rw[if_pos hi]
   have hNn:∀i,(nextA A).2.2.now i=A.now i:=λi=>by rw[hN]
   have hNs:(nextA A).2.2.sup=A.sup:=by rw[hN]
   obtain⟨⟨b,hB,hbb⟩,r2,r3⟩:=rdRun_f (L:=S.L) (N:=(nextA A).2.2) hk.led hok k0 (by rw[k1,hAn]) k2 (λi hi=>by rw[k1]at hi;rw[hNw i hi,hNn]) (held:=λi=>needA A i)
    (λi hi=>by
     rw[hNw i (by omega),hNl]
     refine⟨?_,hneed0 i,hheld i hi⟩
     unfold needA
     rw[wn i (by omega)]
     simp only;omega) S.L.n (Nat.le_refl _)
   obtain⟨v1,v2,v3,v4,v5,v6⟩:=rdRun_ok hk.led hok (λi=>needA A i) S.L.n (Nat.le_refl _)
   generalize rdRun (λi=>needA A i) (S.L,(nextA A).2.2) S.L.n=T at *
   refine hs.change hgG v2 v3 (λg e=>rfl) (λg e=>setAu_ne S _ e) (λi hi=>?_) (λi g hi hg4=>?_) (λx hx=>hs.ids gd hgG x hx) (λA' w' h=>?_)
   ·rw[(heldG_au S i gd _ _).1,eH]
    show T.1.f i 1=_
    rw[r2 i hi,if_pos hi];omega
   ·rw[(heldG_au S i gd _ _).2,eK]
    show T.1.f i (6+g)=_
    rw[r3 i (6+g) (by omega)]
    have:T.2.sup=A.sup:=by rw[hB];exact hNs
    rw[this]
    split <;> omega
   ·have:((S.setAu gd (some (T.2,w))).setL T.1).au gd=some (T.2,w):=by simp[Hs.setAu,Hs.setL]
    rw[this]at h
    cases h
    obtain⟨wi,rfl⟩:∃wi:Nat,w=wi:=⟨w.toNat,by omega⟩
    have hwi:wi<A.n:=by omega
    rw[wn wi hwi]at hsel
    simp only[Prod.mk.injEq]at hsel
    have h1:=hbb wi (by rw[k1];exact hwi)
    have h2:=hNw wi hwi
    have hTn:T.2.n=A.n:=by rw[v6,k1]
    unfold wantsA
    rw[if_neg (by omega),Int.toNat_natCast]
    have e1:T.2.was wi=(nextA A).2.2.was wi:=by rw[hB]
    have e2:T.2.now wi=b wi:=by rw[hB]
    rw[e1,e2]
    ext
    ·show (nextA A).2.2.was wi=0;omega
    ·show b wi=0;omega
  | true=>
   simp only[Bool.true_eq_false,if_false]
   obtain⟨k0,k1,k2⟩:=nextA_over hA0 hov
   have hN:∃s,(nextA A).2.2 = {A with ste:=s}:=by
    unfold nextA at hov ⊢
    rw[if_neg (by simp[hA0])]at hov ⊢
    split
    ·exact⟨_,rfl⟩
    ·rename_i c;rw[if_neg c]at hov
     split
     ·exact⟨_,rfl⟩
     ·rename_i c;rw[if_neg c]at hov;cases hov
   obtain⟨s,hN⟩:=hN
   have hNneed:∀i:Nat,needA (nextA A).2.2 i=needA A i:=λi=>by rw[hN];rfl
   have hsb:=saleA_bd hok k0
   obtain⟨si1,si2⟩:=sale_in hok k0
   rw[k1]at hsb si1 si2
   rw[k2]at si2
   obtain⟨wi,rfl⟩:∃wi:Nat,w=wi:=⟨w.toNat,by omega⟩
   rw[Int.toNat_natCast]
   have hlock:A.sup<=S.L.f wi (6+gd):=by
    have h1:=hs.lock wi gd (by omega) (by omega)
    rw[if_pos hgG,eK,if_pos rfl]at h1
    have h2:=sumO_nn (f:=sellW wi) (l:=(S.bk gd).l) λx hx=>sellW_nn ((hk.bk gd hgG).right x hx)
    omega
   obtain⟨r1,r2,r3⟩:=slRun_f (L:=S.L) hk.led (gd:=gd) (w:=wi) (p:=(saleA (nextA A).2.2).1) (sup:=A.sup) (held:=λi=>needA A i) (got:=(saleA (nextA A).2.2).2) (by omega) (by omega) hsb.1.1
    (λi hi=>(hsb.2 i (by omega)).1) (λi hi=>by rw[<-hNneed];exact si1 i (by omega)) hheld (by rw[<-hAn];exact si2) hlock S.L.n (Nat.le_refl _)
   obtain⟨v1,v2,v3⟩:=slRun_ok hk.led gd (w:=wi) (by omega) (saleA (nextA A).2.2).1 (λi=>needA A i) (saleA (nextA A).2.2).2 A.sup S.L.n (Nat.le_refl _)
   have hsum0:0<=sumN (saleA (nextA A).2.2).2 S.L.n:=sumN_nn _ λi hi=>(hsb.2 i (by omega)).1
   rw[hAn]at si2
   generalize slRun (gd:Int) wi (saleA (nextA A).2.2).1 (λi=>needA A i) (saleA (nextA A).2.2).2 (S.L,A.sup) S.L.n=T at *
   generalize sumN (saleA (nextA A).2.2).2 S.L.n=sg at *
   have hll:=v1.lock wi gd (by rw[v2];omega) (by omega)
   have fw:=r3 wi gd (by omega)
   rw[if_pos ⟨rfl,rfl⟩]at fw
   have hf:=lock_f (L:=T.1) (i:=wi) (g:=gd) (n:=-T.2) v1 (by rw[v2];omega) (by rw[v3];omega) (by rw[fw,r1];omega) (by omega)
   have hgn:=lockH_gn T.1 wi gd (-T.2)
   refine hs.change hgG (hgn.2.trans v2) (hgn.1.trans v3) (λg e=>rfl) (λg e=>setAu_ne S _ e) (λi hi=>?_) (λi g hi hg4=>?_) (λx hx=>hs.ids gd hgG x hx) (λA' w' h=>?_)
   ·rw[(heldG_none S i gd).1,eH]
    show (lockH T.1 wi gd (-T.2)).f i 1=_
    rw[hf,if_neg (by omega),r2 i,if_pos hi];omega
   ·rw[(heldG_none S i gd).2,eK]
    show (lockH T.1 wi gd (-T.2)).f i (6+g)=_
    rw[hf,fw,r1]
    by_cases e:g=gd
    ·subst e
     rw[if_pos rfl]
     by_cases e2:i=wi
     ·subst e2;rw[if_pos ⟨rfl,rfl⟩,if_pos rfl];omega
     ·rw[if_neg (λh=>e2 h.1),if_neg (by omega),r3 i g hg4,if_neg (λh=>e2 h.1)];omega
    ·rw[if_neg (by omega),if_neg e,r3 i g hg4,if_neg (λh=>e h.2)];omega
   ·have:((S.setAu gd none).setL (lockH T.1 wi gd (-T.2))).au gd=none:=by simp[Hs.setAu,Hs.setL]
    rw[this]at h
    cases h
theorem tickRun_snd {S:Hs} (hk:S.ok) (hs:Snd S):∀k,k<=S.G->Snd (tickRun S k)
 | 0,_=>hs
 | k+1,hle=>by
  obtain⟨h1,h2,h3,h4⟩:=tickRun_ok hk k (by omega)
  have eG:(tickRun S k).G=S.G:=by unfold Hs.G;rw[h3]
  obtain⟨c1,c2,c3⟩:=clearH_gn h1 (gd:=k) (by rw[eG];omega)
  have eG2:(clearH (tickRun S k) k).G=S.G:=by unfold Hs.G;rw[c3,h3]
  exact roundH_snd (clearH_ok h1 (by rw[eG];omega)) (clearH_snd h1 (tickRun_snd hk hs k (by omega)) (by rw[eG];omega)) (by rw[eG2];omega)
theorem tickH_snd {S:Hs} (hk:S.ok) (hs:Snd S):Snd (tickH S).2.2:=by
 unfold tickH
 have hn:=hk.now
 split
 ·exact hs
 ·have h0:Snd (S.setNow (S.now+1)):=hs.plain rfl rfl rfl rfl (λ_ _=>rfl) λ_ _ _ _=>rfl
  exact tickRun_snd (S:=S.setNow (S.now+1)) (setNow_ok hk (by omega)) h0 S.G (Nat.le_refl _)
theorem actH_snd {S:Hs} {who:Nat} {o:OpV} (hk:S.ok) (hs:Snd S) (hw:who<S.L.n) (ho:o.ok):Snd (actH S who o).S:=by
 unfold actH
 repeat' split
 ·exact tickH_snd hk hs
 ·exact pay_snd hs
 ·exact take_snd hs
 ·exact store_snd hk hs
 ·exact fetch_snd hk hs
 ·exact offerH_snd hk hs hw ho
 ·exact wantH_snd hk hs hw ho
 ·exact putH_snd hk hs hw ho
 ·exact amendH_snd hk hs hw ho
 ·exact cancelH_snd hk hs hw ho
 ·exact hs
theorem doH_snd {S:Hs} (hk:S.ok) (hs:Snd S) (who stamp:Int) (op:ByteArray):Snd (doH S who stamp op).S:=by
 unfold doH
 split
 ·exact hs
 ·split
  ·exact hs
  ·split
   ·exact hs
   ·refine mark_snd ?_
    unfold didH
    split
    ·exact actH_snd hk hs (by omega) (ofOpO_ok op)
    ·exact hs
theorem new_snd (c g:Int):Snd (newHs c g):=by
 refine⟨λi _=>?_,λi g' _ _=>?_,λg' _ o h=>by simp[newHs]at h,λg' A w _ h=>by simp[newHs]at h⟩
 ·show (0:Int)=sumN (heldG (newHs c g) i) _
  have z:∀k,sumN (heldG (newHs c g) i) k=0:=λk=>by
   induction k with
   | zero=>rfl
   | succ k ih=>show sumN (heldG (newHs c g) i) k+heldG (newHs c g) i k=0;rw[ih];rfl
  rw[z]
 ·show (0:Int)=_
  split
  ·simp[lockG,auK,newHs,sumO]
  ·rfl
end Go.Pw
set_option linter.unusedSimpArgs false
set_option linter.unusedVariables false
namespace Go.Pw
open Go Go.Proofs
theorem repB_size {e n:Int} (he:0<=e/\e<=100) (hn:0<=n/\n<=9007199254740992):((repB e n).size:Int)<=256:=by
 have l1:=encN_10 (n:=e.toNat) (by omega)
 have l2:=encN_10 (n:=n.toNat) (by omega)
 show ((encN e.toNat++encN n.toNat).toArray.size:Int)<=256
 simp only[List.size_toArray,List.length_append]
 omega
section
variable {S:Hs} {who stamp:Int} {op:ByteArray}
theorem doH_0 (hk:S.ok) (he:(doH S who stamp op).e=0):∃i:Nat,who=i/\i<S.L.n/\1<=stamp/\stamp<=1099511627776/\S.L.f i 10<stamp/\(doH S who stamp op).t=repB (didH S i op).e (didH S i op).n /\
  (doH S who stamp op).S=(didH S i op).S.setL (((didH S i op).S.L.set i 10 stamp).setR i (repB (didH S i op).e (didH S i op).n))/\(doH S who stamp op).S.L.f i 10=stamp/\(doH S who stamp op).S.L.r i=repB (didH S i op).e (didH S i op).n:=by
 unfold doH at he ⊢
 split at he
 ·cases he
 ·rename_i hw
  rw[if_neg hw]
  split at he
  ·cases he
  ·rename_i hs
   rw[if_neg hs]
   split at he
   ·cases he
   ·rename_i hl
    rw[if_neg hl]
    obtain⟨i,rfl⟩:∃i:Nat,who=i:=⟨who.toNat,by omega⟩
    rw[Int.toNat_natCast]at hl ⊢
    have hi:i<S.L.n:=by omega
    obtain⟨d1,d2,d3,d4,d5⟩:=didH_ok hk hi op
    have hR:sameR S.L (didH S i op).S.L:=by
     unfold didH
     split
     ·exact actH_R hk
     ·exact sameR_refl _
    have hz:=repB_size d4 d5
    have hm:(markL (didH S i op).S.L i stamp (repB (didH S i op).e (didH S i op).n)).2=((didH S i op).S.L.set i 10 stamp).setR i (repB (didH S i op).e (didH S i op).n):=by
     unfold markL
     rw[if_neg (by omega),if_neg (by rw[hR.1];omega)]
    refine⟨i,rfl,hi,by omega,by omega,by omega,rfl,?_,?_,?_⟩
    ·simp only[markH,hm]
    ·simp only[markH,hm,Hs.setL,Led.setR,Led.set];simp
    ·simp only[markH,hm,Hs.setL,Led.setR,Led.set];simp
theorem doH_no (he:(doH S who stamp op).e≠0):(doH S who stamp op).S=S/\(doH S who stamp op).t=⟨#[]⟩:=by
 unfold doH at he ⊢
 split
 ·exact⟨rfl,rfl⟩
 ·rename_i hw
  rw[if_neg hw]at he
  split
  ·exact⟨rfl,rfl⟩
  ·rename_i hs
   rw[if_neg hs]at he
   split
   ·exact⟨rfl,rfl⟩
   ·rename_i hl
    rw[if_neg hl]at he
    exact absurd rfl he
end
section
variable {h g:PH} {R:AEnd->PH->Prop}
structure AskIn (G:PH) (c:Nat) (a:Ask):Prop where
 hc:G c=some (.cells a.a 27 (0,0))
theorem AskIn.w {G:PH} {c:Nat} {a:Ask} {K:Value->Prop} (H:AskIn G c a):vLoad none (.pointer (some ⟨c,0,none⟩)) G K↔K (.int .i64 a.who):=vLoad_1 H.hc rfl
theorem AskIn.all {G:PH} {c:Nat} {a:Ask} {K:Value->Prop} (H:AskIn G c a):vLoad (some 10) (.pointer (some ⟨c,0,none⟩)) G K↔K a.v:=by
 rw[vLoad_n H.hc (off:=0) (n:=10) (by show 0+10<=10;omega)];rfl
end
end Go.Pw
set_option linter.unusedSimpArgs false
set_option linter.unusedVariables false
namespace Go.Pw
open Go Go.Proofs
def sameZ (L M:Led):Prop:=M.goods=L.goods/\M.n=L.n/\∀(i j:Nat),L.goods<=(j:Int)->j<4->M.f i (2+j)=L.f i (2+j)
theorem sameZ_refl (L:Led):sameZ L L:=⟨rfl,rfl,λ_ _ _ _=>rfl⟩
theorem sameZ_trans {A B C:Led} (h:sameZ A B) (k:sameZ B C):sameZ A C:=⟨k.1.trans h.1,k.2.1.trans h.2.1,λi j hj h4=>(k.2.2 i j (by rw[h.1];exact hj) h4).trans (h.2.2 i j hj h4)⟩
theorem sameZ_set {L M:Led} (h:sameZ L M) {k c:Nat} {v:Int} (hc:∀j:Nat,L.goods<=(j:Int)->j<4->c≠2+j):sameZ L (M.set k c v):=
 ⟨h.1,h.2.1,λi j hj h4=>by rw[set_ne (λe=>hc j hj h4 e.2.symm)];exact h.2.2 i j hj h4⟩
theorem sameZ_setR {L M:Led} (h:sameZ L M) {k:Nat} {v:ByteArray}:sameZ L (M.setR k v):=⟨h.1,h.2.1,h.2.2⟩
theorem partE_gg {L:Led} {g n:Int} (h:¬partE L g n≠0):∀j:Nat,L.goods<=(j:Int)->(2+g.toNat≠2+j):=λj hj=>by
 have:=partE_n (Decidable.not_not.1 h)
 omega
section
variable {L:Led} {i j:Nat} {g n p:Int}
theorem pay_Z:sameZ L (payL L i n).2:=by unfold payL;(repeat' split) <;> first | exact sameZ_refl L | exact sameZ_set (sameZ_refl L) (λ_ _ _=>by omega)
theorem take_Z:sameZ L (takeL L i n).2:=by unfold takeL;(repeat' split) <;> first | exact sameZ_refl L | exact sameZ_set (sameZ_refl L) (λ_ _ _=>by omega)
theorem hold_Z:sameZ L (holdH L i n):=by unfold holdH holdL freeL;(repeat' split) <;> first | exact sameZ_refl L | exact sameZ_set (sameZ_refl L) (λ_ _ _=>by omega)
theorem store_Z:sameZ L (storeL L i g n).2:=by
 unfold storeL
 split
 ·exact sameZ_refl L
 ·rename_i h
  split
  ·exact sameZ_refl L
  ·exact sameZ_set (sameZ_refl L) λj hj _=>partE_gg h j hj
theorem fetch_Z:sameZ L (fetchL L i g n).2:=by
 unfold fetchL
 split
 ·exact sameZ_refl L
 ·rename_i h
  split
  ·exact sameZ_refl L
  ·exact sameZ_set (sameZ_refl L) λj hj _=>partE_gg h j hj
theorem lock_Z0:sameZ L (lockL L i g n).2:=by unfold lockL;(repeat' split) <;> first | exact sameZ_refl L | exact sameZ_set (sameZ_refl L) (λ_ _ _=>by omega)
theorem lock_Z:sameZ L (lockH L i g n):=by unfold lockH lockL unlockL;(repeat' split) <;> first | exact sameZ_refl L | exact sameZ_set (sameZ_refl L) (λ_ _ _=>by omega)
theorem move_Z:sameZ L (moveL L i j n).2:=by
 unfold moveL moveTo
 (repeat' split) <;> first | exact sameZ_refl L | exact sameZ_set (sameZ_set (sameZ_set (sameZ_refl L) (λ_ _ _=>by omega)) (λ_ _ _=>by omega)) (λ_ _ _=>by omega)
theorem hand_Z:sameZ L (handL L i j g n).2:=by
 unfold handL
 split
 ·exact sameZ_refl L
 ·rename_i h
  split
  ·exact sameZ_refl L
  ·unfold handTo
   exact sameZ_set (sameZ_set (sameZ_set (sameZ_refl L) (λ_ _ _=>by omega)) (λj hj _=>partE_gg h j hj)) (λj hj _=>partE_gg h j hj)
theorem trade_Z:sameZ L (tradeH L i j g p n):=by
 unfold tradeH
 repeat' split
 ·exact sameZ_trans hand_Z move_Z
 ·exact hand_Z
 ·exact sameZ_refl L
end
theorem rdRun_Z (held:Nat->Int) (t:Led×Auc):∀k,sameZ t.1 (rdRun held t k).1
 | 0=>sameZ_refl _
 | k+1=>sameZ_trans (rdRun_Z held t k) hold_Z
theorem slRun_Z {gd:Int} {w:Nat} {p:Int} {held got:Nat->Int} {t:Led×Int}:∀k,sameZ t.1 (slRun gd w p held got t k).1
 | 0=>sameZ_refl _
 | k+1=>by
  refine sameZ_trans (slRun_Z (gd:=gd) (w:=w) (p:=p) (held:=held) (got:=got) k) ?_
  show sameZ _ (holdH (tradeH (slRun gd w p held got t k).1 w k gd p (got k)) k _)
  exact sameZ_trans trade_Z hold_Z
theorem matchF_Z {gd p:Int}:∀(k:Nat) (L:Led) (bu se:List Fil),sameZ L (matchF gd p k L bu se)
 | 0,L,bu,se=>by cases bu <;> cases se <;> exact sameZ_refl L
 | k+1,L,[],se=>by rw[matchF_nil];exact sameZ_refl L
 | k+1,L,b::bs,[]=>by rw[matchF_nil2];exact sameZ_refl L
 | k+1,L,b::bs,s::ss=>by
  show sameZ L (matchF gd p k _ _ _)
  exact sameZ_trans trade_Z (matchF_Z k _ _ _)
theorem inF_Z (p:Int) (f:Fil) (t:Spl) (o:Ord):sameZ t.L (inF p f t o).L:=by
 unfold inF
 repeat' split
 ·exact sameZ_refl _
 ·exact hold_Z
 ·exact sameZ_refl _
theorem outF_Z (p:Int) (f:Fil):∀(was:List Ord) (t:Spl),sameZ t.L (was.foldl (inF p f) t).L
 | [],t=>sameZ_refl _
 | o::was,t=>sameZ_trans (inF_Z p f t o) (outF_Z p f was _)
theorem fills_Z (p:Int) (was:List Ord):∀(fs:List Fil) (t:Spl),sameZ t.L (fs.foldl (outF p was) t).L
 | [],t=>sameZ_refl _
 | f::fs,t=>sameZ_trans (outF_Z p f was t) (fills_Z p was fs _)
theorem clearH_Z (S:Hs) (gd:Nat):sameZ S.L (clearH S gd).L:=
 sameZ_trans (fills_Z (clearO (S.bk gd)).p (S.bk gd).l (clearO (S.bk gd)).fs ⟨S.L,[],[]⟩) (matchF_Z _ _ _ _)
theorem roundH_Z (S:Hs) (gd:Nat):sameZ S.L (roundH S gd).L:=by
 unfold roundH
 cases hau:S.au gd with
 | none=>exact sameZ_refl _
 | some q=>
  obtain⟨A,w⟩:=q
  simp only
  split
  ·exact rdRun_Z _ (S.L,(nextA A).2.2) _
  ·exact sameZ_trans (slRun_Z (gd:=gd) (w:=w.toNat) (p:=(saleA (nextA A).2.2).1) (held:=λi:Nat=>needA A i) (got:=(saleA (nextA A).2.2).2) (t:=(S.L,A.sup)) S.L.n) lock_Z
theorem tickRun_Z (S:Hs):∀k,sameZ S.L (tickRun S k).L
 | 0=>sameZ_refl _
 | k+1=>sameZ_trans (tickRun_Z S k) (sameZ_trans (clearH_Z _ _) (roundH_Z _ _))
theorem tickH_Z (S:Hs):sameZ S.L (tickH S).2.2.L:=by
 unfold tickH
 split
 ·exact sameZ_refl _
 ·exact tickRun_Z (S.setNow (S.now+1)) S.G
section
variable {S:Hs} {who:Nat} {o:OpV}
theorem actH_Z:sameZ S.L (actH S who o).S.L:=by
 unfold actH
 repeat' split
 ·exact tickH_Z S
 ·exact pay_Z
 ·exact take_Z
 ·exact store_Z
 ·exact fetch_Z
 ·unfold offerH;(repeat' split) <;> first | exact sameZ_refl _ | exact lock_Z0
 ·unfold wantH
  split
  ·exact sameZ_refl _
  ·split
   ·exact sameZ_refl _
   ·simp only
    (repeat' split) <;> first | exact sameZ_refl _ | exact hold_Z
 ·unfold putH;simp only;(repeat' split) <;> first | exact sameZ_refl _ | exact sameZ_trans hold_Z lock_Z
 ·unfold amendH;simp only;(repeat' split) <;> first | exact sameZ_refl _ | exact sameZ_trans hold_Z lock_Z
 ·unfold cancelH;simp only;(repeat' split) <;> first | exact sameZ_refl _ | exact hold_Z | exact lock_Z
 ·exact sameZ_refl _
theorem zer_of {L M:Led} (h:Zer L) (hs:sameZ L M):Zer M:=λi j hi hj h4=>by
 rw[hs.1]at hj
 rw[hs.2.1]at hi
 rw[hs.2.2 i j hj h4]
 exact h i j hi hj h4
theorem doH_Z {who stamp:Int} {op:ByteArray}:sameZ S.L (doH S who stamp op).S.L:=by
 unfold doH
 split
 ·exact sameZ_refl _
 ·split
  ·exact sameZ_refl _
  ·split
   ·exact sameZ_refl _
   ·have hd:sameZ S.L (didH S who.toNat op).S.L:=by
     unfold didH
     split
     ·exact actH_Z
     ·exact sameZ_refl _
    refine sameZ_trans hd ?_
    show sameZ _ (markL _ _ _ _).2
    unfold markL
    (repeat' split) <;> first | exact sameZ_refl _ | exact sameZ_setR (sameZ_set (sameZ_refl _) λ_ _ _=>by omega)
end
def MuteH (L:Led):Prop:=∀i,i<L.n->L.f i 10=0->L.r i=⟨#[]⟩
theorem doH_mute {S:Hs} (hk:S.ok) (h:MuteH S.L) (who stamp:Int) (op:ByteArray):MuteH (doH S who stamp op).S.L:=by
 by_cases he:(doH S who stamp op).e=0
 ·obtain⟨i,hw,hi,h1,h2,h3,h4,h5,h6,h7⟩:=doH_0 hk he
  have hn:=(doH_ok hk who stamp op).2.2
  intro a ha hz
  rw[hn]at ha
  by_cases e:a=i
  ·subst e;omega
  ·have hR:sameR S.L (didH S i op).S.L:=by
    unfold didH
    split
    ·exact actH_R hk
    ·exact sameR_refl _
   have e10:(doH S who stamp op).S.L.f a 10=S.L.f a 10:=by
    rw[h5]
    show (((didH S i op).S.L.set i 10 stamp).setR i _).f a 10=_
    have:(((didH S i op).S.L.set i 10 stamp).setR i (repB (didH S i op).e (didH S i op).n)).f a 10=((didH S i op).S.L.set i 10 stamp).f a 10:=rfl
    rw[this,set_ne (by omega),hR.1]
   have er:(doH S who stamp op).S.L.r a=S.L.r a:=by
    rw[h5]
    show (((didH S i op).S.L.set i 10 stamp).setR i _).r a=_
    have:(((didH S i op).S.L.set i 10 stamp).setR i (repB (didH S i op).e (didH S i op).n)).r a=if a=i then repB (didH S i op).e (didH S i op).n else (didH S i op).S.L.r a:=rfl
    rw[this,if_neg e,hR.2]
   rw[er]
   rw[e10]at hz
   exact h a ha hz
 ·rw[(doH_no he).1];exact h
theorem runH_all:∀(l:List Ask) {S:Hs},S.ok->Snd S->Zer S.L->MuteH S.L->Snd (runH S l)/\Zer (runH S l).L/\MuteH (runH S l).L
 | [],S,_,a,b,c=>⟨a,b,c⟩
 | a::l,S,hk,h1,h2,h3=>runH_all l (doH_ok hk a.who a.stamp a.text).1 (doH_snd hk h1 a.who a.stamp a.text) (zer_of h2 doH_Z) (doH_mute hk h3 a.who a.stamp a.text)
theorem begun_all (l:List Ask):Snd (runH (newHs 3 2) l)/\Zer (runH (newHs 3 2) l).L/\MuteH (runH (newHs 3 2) l).L:=
 runH_all l (newHs_ok (by omega) (by omega) (by omega) (by omega)) (new_snd 3 2) (λ_ _ _ _ _=>rfl) (λ_ _ _=>rfl)
end Go.Pw
set_option linter.unusedSimpArgs false
set_option linter.unusedVariables false
namespace Go.Pw
open Go Go.Proofs
end Go.Pw
set_option linter.unusedSimpArgs false
set_option linter.unusedVariables false
namespace Go.Pw
open Go Go.Proofs
end Go.Pw
set_option linter.unusedSimpArgs false
set_option linter.unusedVariables false
namespace Go.Pw
open Go Go.Proofs
theorem hsRecs_len (S:Hs) (hk:S.ok):(hsRecs S).length<=1000:=by
 have h1:=hk.cl
 have h2:=hk.g
 have h3:=auRs_len S S.G
 unfold hsRecs
 simp only[List.length_append,recsOf_len,List.length_map,List.length_range,List.length_cons,List.length_nil]
 omega
end Go.Pw
set_option linter.unusedSimpArgs false
set_option linter.unusedVariables false
namespace Go.Pw
open Go Go.Proofs
end Go.Pw
