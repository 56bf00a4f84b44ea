/- Texts of this claim, one behind the other. -/
import Derived.Test.YtboeddfdbpjnjaaGreatM6
import Derived.KernelRfl
set_option linter.unusedSimpArgs false
set_option linter.unusedVariables false
namespace Go.Pw
open Go
def Ord.k (o:Ord):Int:=if o.buys then-o.pr else o.pr
def ltK (x y:Ord):Prop:=x.k<y.k\/x.k=y.k/\x.pl<y.pl
def leK (x y:Ord):Prop:=¬ltK y x
instance (x y:Ord):Decidable (ltK x y):=by unfold ltK;exact inferInstance
instance (x y:Ord):Decidable (leK x y):=by unfold leK;exact inferInstance
theorem cmpI_neg {a b:Int}:cmpI a b<0↔a<b:=by unfold cmpI;split <;> (try split) <;> omega
theorem cmpI_pos {a b:Int}:0<cmpI a b↔b<a:=by unfold cmpI;split <;> (try split) <;> omega
theorem cmpI_zero {a b:Int}:cmpI a b=0↔a=b:=by unfold cmpI;split <;> (try split) <;> omega
theorem ahead_lt {x y:Ord} (hb:x.buys=y.buys):aheadO x y<0↔ltK x y:=by
 have h1:=@cmpI_neg x.pr y.pr
 have h2:=@cmpI_pos x.pr y.pr
 have h3:=@cmpI_zero x.pr y.pr
 have h4:=@cmpI_neg x.pl y.pl
 unfold aheadO ltK Ord.k
 rw[<-hb]
 cases x.buys <;> simp only[Bool.false_eq_true,if_false,if_true]
 ·split <;> omega
 ·split <;> omega
theorem leK_refl (x:Ord):leK x x:=by unfold leK ltK;omega
theorem leK_trans {x y z:Ord} (h1:leK x y) (h2:leK y z):leK x z:=by unfold leK ltK at *;omega
theorem ltK_le {x y:Ord} (h:ltK x y):leK x y:=by unfold leK;unfold ltK at *;omega
structure Rea (l l':List Ord) (a b:Nat):Prop where
 perm:l'.Perm l
 out:∀p,p<a\/b<=p->l'[p]?=l[p]?
def SorOn (l:List Ord) (a b:Nat):Prop:=∀i j x y,a<=i->i<j->j<b->l[i]?=some x->l[j]?=some y->leK x y
section
variable {l l1 l2 l':List Ord} {a b c d i j:Nat}
theorem Rea.len (h:Rea l l' a b):l'.length=l.length:=h.perm.length_eq
theorem Rea.refl (l:List Ord) (a b:Nat):Rea l l a b:=⟨List.Perm.refl _,λ_ _=>rfl⟩
theorem Rea.trans (h1:Rea l l1 a b) (h2:Rea l1 l2 a b):Rea l l2 a b:=⟨h2.perm.trans h1.perm,λp hp=>by rw[h2.out p hp,h1.out p hp]⟩
theorem Rea.wide (h1:Rea l l1 c d) (hc:a<=c) (hd:d<=b):Rea l l1 a b:=⟨h1.perm,λp hp=>h1.out p (by omega)⟩
theorem Rea.mem (h:Rea l l' a b) (hab:a<=b) {p:Nat} {x:Ord} (ha:a<=p) (hb:p<b) (hx:l'[p]?=some x):∃q,a<=q/\q<b/\l[q]?=some x:=by
 have e1:l'.take a=l.take a:=List.ext_getElem? λk=>by
  rw[List.getElem?_take,List.getElem?_take]
  split
  ·exact h.out k (.inl ‹_›)
  ·rfl
 have e2:l'.drop b=l.drop b:=List.ext_getElem? λk=>by
  rw[List.getElem?_drop,List.getElem?_drop]
  exact h.out _ (.inr (by omega))
 have s1:∀m:List Ord,m=m.take a++((m.drop a).take (b-a)++m.drop b):=λm=>by
  have:m.drop b=(m.drop a).drop (b-a):=by rw[List.drop_drop];congr 1;omega
  rw[this,List.take_append_drop,List.take_append_drop]
 have hp:=h.perm
 rw[s1 l',s1 l,e1,e2,List.perm_append_left_iff,List.perm_append_right_iff]at hp
 have hm:x∈(l'.drop a).take (b-a):=List.mem_iff_getElem?.2 ⟨p-a,by
  rw[List.getElem?_take,if_pos (by omega),List.getElem?_drop,show a+(p-a)=p by omega,hx]⟩
 obtain⟨q,hq⟩:=List.mem_iff_getElem?.1 (hp.mem_iff.1 hm)
 rw[List.getElem?_take]at hq
 split at hq
 ·rw[List.getElem?_drop]at hq
  exact⟨a+q,by omega,by omega,hq⟩
 ·cases hq
theorem rea_swap {x y:Ord} (hx:l[i]?=some x) (hy:l[j]?=some y) (hi:a<=i/\i<b) (hj:a<=j/\j<b):Rea l ((l.set i y).set j x) a b:=by
 obtain⟨h1,e1⟩:=List.getElem?_eq_some_iff.1 hx
 obtain⟨h2,e2⟩:=List.getElem?_eq_some_iff.1 hy
 refine⟨?_,λp hp=>?_⟩
 ·rw[<-e1,<-e2]
  exact List.set_set_perm h1 h2
 ·rw[List.getElem?_set_ne (by omega),List.getElem?_set_ne (by omega)]
theorem swap_get {x y:Ord} (hx:l[i]?=some x) (hy:l[j]?=some y) (p:Nat):((l.set i y).set j x)[p]?=if p=j then some x else if p=i then some y else l[p]?:=by
 have h1:=(List.getElem?_eq_some_iff.1 hx).1
 have h2:=(List.getElem?_eq_some_iff.1 hy).1
 by_cases e:p=j
 ·subst e;rw[if_pos rfl,List.getElem?_set_self (by rw[List.length_set];exact h2)]
 ·rw[if_neg e,List.getElem?_set_ne (λh=>e h.symm)]
  by_cases e2:p=i
  ·subst e2;rw[if_pos rfl,List.getElem?_set_self h1]
  ·rw[if_neg e2,List.getElem?_set_ne (λh=>e2 h.symm)]
theorem sor_all (h:SorOn l 0 l.length):l.Pairwise leK:=by
 rw[List.pairwise_iff_getElem]
 intro i j hi hj hij
 exact h i j _ _ (by omega) hij hj (List.getElem?_eq_getElem hi) (List.getElem?_eq_getElem hj)
theorem sor_one (hp:l'.Perm l1) (h1:l'.Pairwise leK) (h2:l1.Pairwise leK) (hs:∀x∈l1,∀y∈l1,x.k=y.k->x.pl=y.pl->x=y):l'=l1:=by
 refine List.Perm.eq_of_pairwise (le:=leK) (λx y hx hy hxy hyx=>?_) h1 h2 hp
 refine hs x (hp.mem_iff.1 hx) y hy ?_ ?_ <;> · unfold leK ltK at hxy hyx;omega
def insO (o:Ord):List Ord->List Ord
 | []=>[o]
 | x::l=>if ltK x o then x::insO o l else o::x::l
def isort:List Ord->List Ord
 | []=>[]
 | o::l=>insO o (isort l)
theorem insO_perm (o:Ord):∀l:List Ord,(insO o l).Perm (o::l)
 | []=>List.Perm.refl _
 | x::l=>by
  unfold insO
  split
  ·exact (List.Perm.cons x (insO_perm o l)).trans (List.Perm.swap _ _ _)
  ·exact List.Perm.refl _
theorem isort_perm:∀l:List Ord,(isort l).Perm l
 | []=>List.Perm.refl _
 | o::l=>(insO_perm o _).trans (List.Perm.cons o (isort_perm l))
theorem insO_sor (o:Ord):∀l:List Ord,l.Pairwise leK->(insO o l).Pairwise leK
 | [],_=>by simp[insO]
 | x::l,h=>by
  rw[List.pairwise_cons]at h
  unfold insO
  split
  ·rename_i hlt
   rw[List.pairwise_cons]
   refine⟨λy hy=>?_,insO_sor o l h.2⟩
   rcases List.mem_cons.1 ((insO_perm o l).mem_iff.1 hy)with rfl | hy
   ·exact ltK_le hlt
   ·exact h.1 y hy
  ·rename_i hlt
   rw[List.pairwise_cons]
   refine⟨λy hy=>?_,List.pairwise_cons.2 h⟩
   rcases List.mem_cons.1 hy with rfl | hy
   ·exact hlt
   ·exact leK_trans hlt (h.1 y hy)
theorem isort_sor:∀l:List Ord,(isort l).Pairwise leK
 | []=>by simp[isort]
 | o::l=>insO_sor o _ (isort_sor l)
def SorBut (l:List Ord) (a b j:Nat):Prop:=∀p q x y,a<=p->p<q->q<b->q≠j->l[p]?=some x->l[q]?=some y->leK x y
theorem sorBut_start (h:SorOn l a b):SorBut l a (b+1) b:=λp q x y hp hq hb hne hx hy=>h p q x y hp hq (by omega) hx hy
theorem sorBut_stop (h:SorBut l a b j) (hst:j=a\/∀x y,l[j-1]?=some x->l[j]?=some y->leK x y):SorOn l a b:=λp q x y hp hq hb hx hy=>by
 by_cases e:q=j
 ·subst e
  rcases hst with e | hst
  ·omega
  ·have hlt:q<l.length:=(List.getElem?_eq_some_iff.1 hy).1
   have hz:l[q-1]?=some l[q-1]:=List.getElem?_eq_getElem (by omega)
   have h1:=hst _ _ hz hy
   by_cases e2:p=q-1
   ·subst e2;rw[hz]at hx;cases hx;exact h1
   ·exact leK_trans (h p (q-1) x _ hp (by omega) (by omega) (by omega) hx hz) h1
 ·exact h p q x y hp hq hb e hx hy
theorem sorBut_step {x y:Ord} (h:SorBut l a b j) (hj:a<j) (hjb:j<b) (hx:l[j]?=some x) (hy:l[j-1]?=some y) (hlt:ltK x y):SorBut ((l.set j y).set (j-1) x) a b (j-1):=λp q u v hp hq hb hne hu hv=>by
 rw[swap_get hx hy]at hu hv
 rw[if_neg hne]at hv
 by_cases e:q=j
 ·subst e
  rw[if_pos rfl]at hv
  cases hv
  by_cases e2:p=q-1
  ·rw[if_pos e2]at hu;cases hu;exact ltK_le hlt
  ·rw[if_neg e2,if_neg (by omega)]at hu
   exact h p (q-1) u _ hp (by omega) (by omega) (by omega) hu hy
 ·rw[if_neg e]at hv
  by_cases e2:p=j-1
  ·rw[if_pos e2]at hu;cases hu
   exact h j q _ v (by omega) (by omega) hb e hx hv
  ·rw[if_neg e2]at hu
   by_cases e3:p=j
   ·rw[if_pos e3]at hu;cases hu
    exact h (j-1) q _ v (by omega) (by omega) hb e hy hv
   ·rw[if_neg e3]at hu
    exact h p q u v hp hq hb e hu hv
end
end Go.Pw
set_option linter.unusedSimpArgs false
set_option linter.unusedVariables false
namespace Go.Pw
open Go Go.Proofs
abbrev OO (h0:PH) (l:List Ord) (h:PH) (s:Value):Prop:=OB 78 6 h0 l.length (ordsC l) h s
abbrev cmpV:Value:=.func (.func 186) #[] #[]
section
variable {h h0 g:PH} {R:AEnd->PH->Prop} {l l':List Ord} {s:Value} {t:Bool}
theorem OO.at (ob:OO h0 l h s):OrdsAt h s l:=sep_l OS.mono (ob_os (C:=emp) trivial ob)
theorem oo_ld {K:Value->Prop} {k:Nat} {o:Ord} (ob:OO h0 l h s) (ho:l[k]?=some o) {i:Int} (hi:i=k) (hk:K o.v):vIxS 6 s (.int .i64 i) λt=>vLoad (some 6) t h K:=by
 subst hi;exact ord_ix ob.at ho hk
theorem oo_st {K:PH->Prop} {k:Nat} {o o':Ord} (ob:OO h0 l h s) (ho:l[k]?=some o) {i:Int} (hi:i=k) (hK:∀g,OO h0 (l.set k o') g s->K g):vIxS 6 s (.int .i64 i) λt=>vStore 6 t o'.v h K:=by
 subst hi
 refine ord_st ob ho λg ob2=>hK g ?_
 unfold OO
 rw[List.length_set]
 exact ob2
theorem at_some {k:Nat} (hk:k<l.length):∃o,l[k]?=some o:=⟨_,List.getElem?_eq_getElem hk⟩
theorem ahead_v {x y:Ord} {K:Value->PH->Prop} {Kp:List PanicEntry->PH->Prop} (hk:K (.int .i64 (aheadO x y)) h):vCallV Tryz.prog cmpV #[x.v,y.v] h K Kp:=
 ⟨_,_,_,rfl,ahead_ok hk⟩
theorem side_mem {k:Nat} {o:Ord} (hs:∀o∈l,o.buys=t) (ho:l[k]?=some o):o.buys=t:=hs o (List.mem_of_getElem? ho)
theorem side_rea {a b:Nat} (hs:∀o∈l,o.buys=t) (hr:Rea l l' a b):∀o∈l',o.buys=t:=λo ho=>hs o (hr.perm.mem_iff.1 ho)
theorem insSort_ok {a b:Nat} (ob:OO h0 l h s) (hside:∀o∈l,o.buys=t) (hz:l.length<=64) (hb:b<=l.length) (ha:a<=64)
  (hR:∀g l',OO h0 l' g s->Rea l l' a b->SorOn l' a b->R (.ret (.tuple #[])) g):ACalls Tryz.prog 194 #[s,.int .i64 a,.int .i64 b,cmpV] h R:=by
 refine call194 ?_
 unfold sh194
 simp only[vBin_add]
 rw[w64 (by omega) (by omega)]
 refine lf_intro (λm s' g=>∃(i:Nat) (l2:List Ord),s' = .int .i64 i/\m=b-i/\a<i/\(i<=b\/i=a+1)/\OO h0 l2 g s/\Rea l l2 a b/\SorOn l2 a i) (b-(a+1))
  ⟨a+1,l,by simp,by omega,by omega,.inr rfl,ob,Rea.refl _ _ _,λp q x y hp hq hqb _ _=>by omega⟩ ?_
 rintro m s' g ⟨i,l2,rfl,rfl,hai,hib,ob2,hre,hso⟩
 have hl2:=hre.len
 by_cases hin:i<b
 ·have key:∀(kn:(Value×Value×Value×Value)->Value->PH->Prop) Kp x0,(∀g2 l3,OO h0 l3 g2 s->Rea l l3 a b->SorOn l3 a (i+1)->kn (s,.int .i64 a,.int .i64 b,cmpV) (.int .i64 ((i:Int)+1)) g2) ->
    b194_1 Kp x0 (s,.int .i64 a,.int .i64 b,cmpV) kn (.int .i64 i) g:=by
   intro kn Kp x0 hkn
   unfold b194_1
   have hlt:(i:Int)<(b:Int):=by omega
   simp only[vBin_lss,hlt,decide_true,dIf_b]
   refine⟨λ_=>?_,λe=>absurd e (by simp)⟩
   refine lf_intro (λm s' g=>∃(j:Nat) (l3:List Ord),s' = .int .i64 j/\m=j/\a<=j/\j<=i/\OO h0 l3 g s/\Rea l l3 a b/\SorBut l3 a (i+1) j) i
    ⟨i,l2,rfl,rfl,by omega,by omega,ob2,hre,sorBut_start hso⟩ ?_
   rintro j s' g ⟨_,l3,rfl,rfl,haj,hji,ob3,hre3,hsb⟩
   have hl3:=hre3.len
   have hww:IntKind.i64.wrap ((i:Int)+1)=(i:Int)+1:=w64 (by omega) (by omega)
   have stop:(j=a\/∀x y,l3[j-1]?=some x->l3[j]?=some y->leK x y)->exq (λρ=>(ρ 0,ρ 1,ρ 2,ρ 3,ρ 8)) (s,Value.int .i64 a,Value.int .i64 b,cmpV,Value.int .i64 i) (λr h_1=>vBin Tryz.prog .add 3 (r 8) (.int .i64 1) λt16=>kn ((r 0),(r 1),(r 2),(r 3)) t16 h_1) g:=by
    intro hst r hr
    simp only[Prod.mk.injEq]at hr
    obtain⟨r0,r1,r2,r3,r8⟩:=hr
    simp only[r0,r1,r2,r3,r8,vBin_add,hww]
    exact hkn _ _ ob3 hre3 (sorBut_stop hsb hst)
   have hstep:∀(x y:Ord),a<j->l3[j]?=some x->l3[j-1]?=some y->ltK x y->∀g4,OO h0 ((l3.set j y).set (j-1) x) g4 s->∃(j':Nat) (l4:List Ord),((j:Int)-1)=(j':Int)/\j'<j/\a<=j'/\j'<=i/\OO h0 l4 g4 s/\Rea l l4 a b/\SorBut l4 a (i+1) j':=by
    intro x y haj' hx hy hlt g4 ob4
    exact⟨j-1,_,by omega,by omega,by omega,by omega,ob4,hre3.trans (rea_swap hx hy ⟨by omega,by omega⟩ ⟨by omega,by omega⟩),sorBut_step hsb haj' (by omega) hx hy hlt⟩
   have key2:∀(kn2:(Value×Value×Value×Value×Value)->Value->PH->Prop) Kp x2,((j=a\/∀x y,l3[j-1]?=some x->l3[j]?=some y->leK x y)->x2 (s,.int .i64 a,.int .i64 b,cmpV,.int .i64 i) g) ->
     (∀(x y:Ord),a<j->l3[j]?=some x->l3[j-1]?=some y->ltK x y->∀g4,OO h0 ((l3.set j y).set (j-1) x) g4 s->kn2 (s,.int .i64 a,.int .i64 b,cmpV,.int .i64 i) (.int .i64 ((j:Int)-1)) g4) ->
     b194_4 Kp x2 (s,.int .i64 a,.int .i64 b,cmpV,.int .i64 i) kn2 (.int .i64 j) g:=by
    intro kn2 Kp x2 hX hK
    unfold b194_4
    by_cases haj':a<j
    ·have hlt:(a:Int)<(j:Int):=by omega
     have hw1:IntKind.i64.wrap ((j:Int)-1)=(j:Int)-1:=w64 (by omega) (by omega)
     obtain⟨x,hx⟩:=at_some (l:=l3) (k:=j) (by omega)
     obtain⟨y,hy⟩:=at_some (l:=l3) (k:=j-1) (by omega)
     simp[hlt,hw1]
     refine oo_ld ob3 hx rfl ?_
     refine oo_ld ob3 hy (by omega) ?_
     refine ahead_v ?_
     have hsd:x.buys=y.buys:=by rw[side_mem (side_rea hside hre3) hx,side_mem (side_rea hside hre3) hy]
     have hah:=ahead_lt hsd
     by_cases hc:aheadO x y<0
     ·simp[hc]
      refine oo_ld ob3 hy (by omega) ?_
      refine oo_ld ob3 hx rfl ?_
      refine oo_st ob3 hx rfl λg4 ob4=>?_
      have hy4:(l3.set j y)[j-1]?=some y:=by rw[List.getElem?_set_ne (by omega)];exact hy
      refine oo_st ob4 hy4 (by omega) λg5 ob5=>?_
      exact hK x y haj' hx hy (hah.1 hc) g5 ob5
     ·simp[hc]
      refine hX (.inr λx' y' hx' hy'=>?_)
      rw[hy]at hx';cases hx'
      rw[hx]at hy';cases hy'
      exact λhh=>hc (hah.2 hh)
    ·have hlt:¬(a:Int)<(j:Int):=by omega
     simp[hlt]
     exact hX (.inl (by omega))
   refine key2 _ _ _ stop λx y haj' hx hy hlt g4 ob4=>?_
   obtain⟨j',l4,e,h1,h2,h3,h4,h5,h6⟩:=hstep x y haj' hx hy hlt g4 ob4
   exact⟨rfl,j',h1,j',l4,by rw[e],rfl,h2,h3,h4,h5,h6⟩
  exact key _ _ _ λg2 l3 ob3 hre3 hso3=>⟨rfl,b-(i+1),by omega,i+1,l3,rfl,rfl,by omega,.inl (by omega),ob3,hre3,hso3⟩
 ·unfold b194_1
  have hge:¬(i:Int)<(b:Int):=by omega
  simp[hge]
  intro r hr
  exact hR _ _ ob2 hre λp q x y hp hq hqb hx hy=>hso p q x y hp hq (by omega) hx hy
def SwapR (l l':List Ord) (a b n:Nat):Prop:=∀p,l'[p]?=if a<=p/\p<a+n then l[b+(p-a)]? else if b<=p/\p<b+n then l[a+(p-b)]? else l[p]?
theorem swapRange_ok {a b n lo hi:Nat} (ob:OO h0 l h s) (hz:l.length<=64) (hab:a+n<=b) (hbn:b+n<=l.length) (hlo:lo<=a) (hhi:b+n<=hi) {cv:Value}
  (hR:∀g l',OO h0 l' g s->Rea l l' lo hi->SwapR l l' a b n->R (.ret (.tuple #[])) g):ACalls Tryz.prog 198 #[s,.int .i64 a,.int .i64 b,.int .i64 n,cv] h R:=by
 refine call198 ?_
 unfold sh198
 refine lf_intro (λm s' g=>∃(i:Nat) (l2:List Ord),s' = .int .i64 i/\m=n-i/\i<=n/\OO h0 l2 g s/\Rea l l2 lo hi/\SwapR l l2 a b i) n
  ⟨0,l,rfl,rfl,by omega,ob,Rea.refl _ _ _,λp=>by rw[if_neg (by omega),if_neg (by omega)]⟩ ?_
 rintro m s' g ⟨i,l2,rfl,rfl,hin,ob2,hre,hsw⟩
 have hl2:=hre.len
 by_cases hlt:i<n
 ·have key:∀(kn:(Value×Value×Value×Value)->Value->PH->Prop) Kp x0,(∀g2 l3,OO h0 l3 g2 s->Rea l l3 lo hi->SwapR l l3 a b (i+1)->kn (s,.int .i64 a,.int .i64 b,.int .i64 n) (.int .i64 ((i:Int)+1)) g2) ->
    b198_1 Kp x0 (s,.int .i64 a,.int .i64 b,.int .i64 n) kn (.int .i64 i) g:=by
   intro kn Kp x0 hkn
   unfold b198_1
   have hlt':(i:Int)<(n:Int):=by omega
   have w1:IntKind.i64.wrap ((a:Int)+i)=(a:Int)+i:=w64 (by omega) (by omega)
   have w2:IntKind.i64.wrap ((b:Int)+i)=(b:Int)+i:=w64 (by omega) (by omega)
   have w3:IntKind.i64.wrap ((i:Int)+1)=(i:Int)+1:=w64 (by omega) (by omega)
   obtain⟨x,hx⟩:=at_some (l:=l2) (k:=a+i) (by omega)
   obtain⟨y,hy⟩:=at_some (l:=l2) (k:=b+i) (by omega)
   simp[hlt',w1,w2,w3]
   refine oo_ld ob2 hy (by omega) ?_
   refine oo_ld ob2 hx (by omega) ?_
   refine oo_st ob2 hx (by omega) λg4 ob4=>?_
   have hy4:(l2.set (a+i) y)[b+i]?=some y:=by rw[List.getElem?_set_ne (by omega)];exact hy
   refine oo_st ob4 hy4 (by omega) λg5 ob5=>?_
   refine hkn _ _ ob5 (hre.trans (rea_swap hx hy ⟨by omega,by omega⟩ ⟨by omega,by omega⟩)) λp=>?_
   rw[swap_get hx hy]
   have e1:=hsw (a+i)
   rw[if_neg (by omega),if_neg (by omega)]at e1
   have e2:=hsw (b+i)
   rw[if_neg (by omega),if_neg (by omega)]at e2
   by_cases c1:p=b+i
   ·rw[if_pos c1,if_neg (by omega),if_pos (by omega),<-hx,e1]
    congr 1;omega
   ·rw[if_neg c1]
    by_cases c2:p=a+i
    ·rw[if_pos c2,if_pos (by omega),<-hy,e2]
     congr 1;omega
    ·rw[if_neg c2,hsw p]
     have q1:(a<=p/\p<a+i)↔(a<=p/\p<a+(i+1)):=by omega
     have q2:(b<=p/\p<b+i)↔(b<=p/\p<b+(i+1)):=by omega
     simp only[q1,q2]
  exact key _ _ _ λg2 l3 ob3 hre3 hsw3=>⟨rfl,n-(i+1),by omega,i+1,l3,rfl,rfl,by omega,ob3,hre3,hsw3⟩
 ·have e:i=n:=by omega
  subst e
  unfold b198_1
  simp
  intro r hr
  exact hR _ _ ob2 hre hsw
def RotR (l l':List Ord) (a m b:Nat):Prop:=∀p,l'[p]?=if a<=p/\p<a+(b-m)then l[p+(m-a)]? else if a+(b-m)<=p/\p<b then l[p-(b-m)]? else l[p]?
theorem rotate_ok {a m b:Nat} (ob:OO h0 l h s) (hz:l.length<=64) (ham:a<m) (hmb:m<b) (hbl:b<=l.length) {cv:Value}
  (hR:∀g l',OO h0 l' g s->Rea l l' a b->RotR l l' a m b->R (.ret (.tuple #[])) g):ACalls Tryz.prog 197 #[s,.int .i64 a,.int .i64 m,.int .i64 b,cv] h R:=by
 refine call197 ?_
 unfold sh197
 simp only[vBin_sub]
 rw[w64 (x:=(m:Int)-a) (by omega) (by omega),w64 (x:=(b:Int)-m) (by omega) (by omega)]
 let T:Nat->Option Ord:=λp=>if a<=p/\p<a+(b-m)then l[p+(m-a)]? else if a+(b-m)<=p/\p<b then l[p-(b-m)]? else l[p]?
 have hT:∀p,T p=if a<=p/\p<a+(b-m)then l[p+(m-a)]? else if a+(b-m)<=p/\p<b then l[p-(b-m)]? else l[p]?:=λ_=>rfl
 refine lf_intro (λq s' g=>∃(i j:Nat) (l2:List Ord),s'=(.int .i64 i,.int .i64 j)/\q=i+j/\0<i/\0<j/\a+i<=m/\m+j<=b/\OO h0 l2 g s/\Rea l l2 a b /\
   (∀p,p<m-i\/m+j<=p->l2[p]?=T p)/\(∀p,m-i<=p->p<m-i+j->T p=l2[p+i]?)/\(∀p,m-i+j<=p->p<m+j->T p=l2[p-j]?)) (m-a+(b-m))
  ⟨m-a,b-m,l,by rw[show ((m-a:Nat):Int)=(m:Int)-a by omega,show ((b-m:Nat):Int)=(b:Int)-m by omega],rfl,by omega,by omega,by omega,by omega,ob,Rea.refl _ _ _,
   λp hp=>by rw[hT,if_neg (by omega),if_neg (by omega)],λp h1 h2=>by rw[hT,if_pos (by omega)],λp h1 h2=>by rw[hT,if_neg (by omega),if_pos (by omega)]⟩ ?_
 rintro q s' g ⟨i,j,l2,rfl,rfl,hi,hj,hai,hjb,ob2,hre,t1,t2,t3⟩
 have hl2:=hre.len
 have key:∀(kn:(Value×Value×Value)->(Value×Value)->PH->Prop) Kp x0,(i=j->x0 (s,.int .i64 m,cv,.int .i64 i) g) ->
   (j<i->∀g3 l3,OO h0 l3 g3 s->Rea l2 l3 a b->SwapR l2 l3 (m-i) m j->kn (s,.int .i64 m,cv) (.int .i64 ((i-j:Nat):Int),.int .i64 j) g3) ->
   (i<j->∀g3 l3,OO h0 l3 g3 s->Rea l2 l3 a b->SwapR l2 l3 (m-i) (m+j-i) i->kn (s,.int .i64 m,cv) (.int .i64 i,.int .i64 ((j-i:Nat):Int)) g3) ->
   b197_2 Kp x0 (s,.int .i64 m,cv) kn (.int .i64 i,.int .i64 j) g:=by
  intro kn Kp x0 h1 h2 h3
  unfold b197_2
  have w1:IntKind.i64.wrap ((m:Int)-i)=(m:Int)-i:=w64 (by omega) (by omega)
  by_cases c1:i=j
  ·subst c1
   simp
   exact h1 rfl
  ·have c1':¬(i:Int)=(j:Int):=by omega
   by_cases c2:j<i
   ·have c2':(j:Int)<(i:Int):=by omega
    simp[c1',c2',w1]
    have e1:(m:Int)-(i:Int)=((m-i:Nat):Int):=by omega
    rw[e1]
    refine swapRange_ok ob2 (by omega) (lo:=a) (hi:=b) (by omega) (by omega) (by omega) (by omega) λg3 l3 ob3 hr3 hs3=>?_
    simp only[AEnd.elim]
    have:=h2 c2 g3 l3 ob3 hr3 hs3
    rw[w64 (by omega) (by omega),show (i:Int)-(j:Int)=((i-j:Nat):Int)by omega]
    exact this
   ·have c2':¬(j:Int)<(i:Int):=by omega
    have w2:IntKind.i64.wrap ((m:Int)+j)=(m:Int)+j:=w64 (by omega) (by omega)
    have w3:IntKind.i64.wrap ((m:Int)+j-i)=(m:Int)+j-i:=w64 (by omega) (by omega)
    simp[c1',c2',w1,w2,w3]
    have e1:(m:Int)-(i:Int)=((m-i:Nat):Int):=by omega
    have e2:(m:Int)+(j:Int)-(i:Int)=((m+j-i:Nat):Int):=by omega
    rw[e1,e2]
    refine swapRange_ok ob2 (by omega) (lo:=a) (hi:=b) (by omega) (by omega) (by omega) (by omega) λg3 l3 ob3 hr3 hs3=>?_
    simp only[AEnd.elim]
    have:=h3 (by omega) g3 l3 ob3 hr3 hs3
    rw[w64 (by omega) (by omega),show (j:Int)-(i:Int)=((j-i:Nat):Int)by omega]
    exact this
 refine key _ _ _ (λe=>?_) (λhlt g3 l3 ob3 hr3 hs3=>?_) (λhlt g3 l3 ob3 hr3 hs3=>?_)
 ·intro r hr
  simp only[Prod.mk.injEq]at hr
  obtain⟨r0,r2,r4,r10⟩:=hr
  simp only[r0,r2,r4,r10,vBin_sub]
  rw[w64 (by omega) (by omega),show (m:Int)-(i:Int)=((m-i:Nat):Int)by omega]
  refine swapRange_ok ob2 (by omega) (lo:=a) (hi:=b) (by omega) (by omega) (by omega) (by omega) λg3 l3 ob3 hr3 hs3=>?_
  refine hR _ _ ob3 (hre.trans hr3) λp=>?_
  rw[<-hT,hs3 p]
  by_cases c1:m-i<=p/\p<m-i+i
  ·rw[if_pos c1,t2 p (by omega) (by omega)];congr 1;omega
  ·rw[if_neg c1]
   by_cases c2:m<=p/\p<m+i
   ·rw[if_pos c2,t3 p (by omega) (by omega)];congr 1;omega
   ·rw[if_neg c2,t1 p (by omega)]
 ·refine⟨rfl,i-j+j,by omega,i-j,j,l3,rfl,rfl,by omega,by omega,by omega,by omega,ob3,hre.trans hr3,λp hp=>?_,λp hp1 hp2=>?_,λp hp1 hp2=>?_⟩
  ·rw[hs3 p]
   by_cases c1:m-i<=p/\p<m-i+j
   ·rw[if_pos c1,t2 p (by omega) (by omega)];congr 1;omega
   ·rw[if_neg c1,if_neg (by omega),t1 p (by omega)]
  ·rw[t3 p (by omega) (by omega),hs3]
   by_cases c1:m-i+j<=p/\p<m-i+2*j
   ·by_cases c2:m-i<=p+(i-j)/\p+(i-j)<m-i+j
    ·omega
    ·rw[if_neg c2,if_pos (by omega)];congr 1;omega
   ·omega
  ·rw[t3 p (by omega) (by omega),hs3,if_neg (by omega),if_neg (by omega)]
 ·refine⟨rfl,i+(j-i),by omega,i,j-i,l3,rfl,rfl,by omega,by omega,by omega,by omega,ob3,hre.trans hr3,λp hp=>?_,λp hp1 hp2=>?_,λp hp1 hp2=>?_⟩
  ·rw[hs3 p]
   by_cases c1:m+j-i<=p/\p<m+j-i+i
   ·rw[if_neg (by omega),if_pos c1,t3 p (by omega) (by omega)];congr 1;omega
   ·rw[if_neg (by omega),if_neg c1,t1 p (by omega)]
  ·rw[t2 p (by omega) (by omega),hs3,if_neg (by omega),if_neg (by omega)]
  ·rw[t2 p (by omega) (by omega),hs3,if_pos (by omega)];congr 1;omega
end
end Go.Pw
set_option linter.unusedSimpArgs false
set_option linter.unusedVariables false
namespace Go.Pw
open Go Go.Proofs
theorem wrap_u64 {n:Int} (h0:0<=n) (h1:n<18446744073709551616):IntKind.u64.wrap n=n:=by
 simp[IntKind.wrap,IntKind.bits,IntKind.signed];omega
theorem vBin_shr1 {P:Program} {K:Value->Prop} (t:TypeId) {n:Int} (h0:0<=n):vBin P .shr t (.int .u64 n) (.int .u64 1) K↔K (.int .u64 (n/2)):=by
 refine vBin_of λ_ _=>?_
 have e:n.fdiv 2=n/2:=Int.fdiv_eq_ediv_of_nonneg n (by omega)
 simp[eqGuard,binOp,Op.shift,IntKind.bits,e]
 rfl
theorem half_ok {P:Program} {K:Value->Prop} (t:TypeId) {x:Int} {i j:Nat} (hx:x=(i:Int)+j) (hi:i+j<1000) (hk:K (.int .i64 ((i+j)/2:Nat))) :
  vConvI .u64 (.int .i64 x) λa=>vBin P .shr t a (.int .u64 1) λb=>vConvI .i64 b K:=by
 subst hx
 simp only[vConvI_i]
 rw[wrap_u64 (by omega) (by omega),vBin_shr1 t (by omega),vConvI_i,w64 (by omega) (by omega),show ((i:Int)+(j:Int))/2=(((i+j)/2:Nat):Int)by omega]
 exact hk
def MovedR (l l':List Ord) (a i:Nat):Prop:=∀p,l'[p]?=if a<=p/\p<i then l[p+1]? else if p=i then l[a]? else l[p]?
def MovedL (l l':List Ord) (i m:Nat):Prop:=∀p,l'[p]?=if p=i then l[m]? else if i<p/\p<=m then l[p-1]? else l[p]?
section
variable {l l':List Ord} {a b m i:Nat}
theorem sor_movedR (hs:SorOn l (a+1) b) (hm:MovedR l l' a i) (hai:a<=i) (hib:i<b) (hbl:b<=l.length) (hL:i=a\/∀x y,l[i]?=some x->l[a]?=some y->ltK x y) (hG:i+1=b\/∀x y,l[i+1]?=some x->l[a]?=some y->¬ltK x y):SorOn l' a b:=by
 intro p q x y hp hq hb hx hy
 rw[hm p]at hx
 rw[hm q]at hy
 have up:∀u v (z:Ord),a+1<=u->u<v->v<b->l[v]?=some z->∃w,l[u]?=some w/\leK w z:=λu v z h1 h2 h3 h4=>by
  have:=(List.getElem?_eq_some_iff.1 h4).1
  exact⟨_,List.getElem?_eq_getElem (by omega),hs u v _ z h1 h2 h3 (List.getElem?_eq_getElem (by omega)) h4⟩
 by_cases c1:q<i
 ·rw[if_pos (by omega)]at hx
  rw[if_pos (by omega)]at hy
  exact hs _ _ _ _ (by omega) (by omega) (by omega) hx hy
 ·by_cases c2:q=i
  ·rw[if_pos (by omega)]at hx
   rw[if_neg (by omega),if_pos c2]at hy
   rcases hL with e | hL
   ·omega
   ·have hi2:i<l.length:=by omega
    have hz:l[i]?=some l[i]:=List.getElem?_eq_getElem hi2
    have h1:=ltK_le (hL _ _ hz hy)
    by_cases e:p+1=i
    ·rw[e,hz]at hx;cases hx;exact h1
    ·exact leK_trans (hs (p+1) i x _ (by omega) (by omega) (by omega) hx hz) h1
  ·rw[if_neg (by omega),if_neg c2]at hy
   by_cases c3:p<i
   ·rw[if_pos (by omega)]at hx
    exact hs (p+1) q _ _ (by omega) (by omega) hb hx hy
   ·by_cases c4:p=i
    ·rw[if_neg (by omega),if_pos c4]at hx
     rcases hG with e | hG
     ·omega
     ·have hq2:=(List.getElem?_eq_some_iff.1 hy).1
      have hz:l[i+1]?=some l[i+1]:=List.getElem?_eq_getElem (by omega)
      have h1:leK x l[i+1]:=hG _ _ hz hx
      by_cases e:q=i+1
      ·subst e;rw[hz]at hy;cases hy;exact h1
      ·exact leK_trans h1 (hs (i+1) q _ _ (by omega) (by omega) hb hz hy)
    ·rw[if_neg (by omega),if_neg c4]at hx
     exact hs p q _ _ (by omega) hq hb hx hy
theorem sor_movedL (hs:SorOn l a m) (hm:MovedL l l' i m) (hai:a<=i) (him:i<=m) (hL:i=a\/∀x y,l[i-1]?=some x->l[m]?=some y->¬ltK y x) (hG:i=m\/∀x y,l[i]?=some x->l[m]?=some y->ltK y x):SorOn l' a (m+1):=by
 intro p q x y hp hq hb hx hy
 rw[hm p]at hx
 rw[hm q]at hy
 by_cases c1:q<i
 ·rw[if_neg (by omega),if_neg (by omega)]at hx hy
  exact hs _ _ _ _ hp hq (by omega) hx hy
 ·by_cases c2:q=i
  ·rw[if_neg (by omega),if_neg (by omega)]at hx
   rw[if_pos c2]at hy
   rcases hL with e | hL
   ·omega
   ·have hi2:i-1<l.length:=by
     have:=(List.getElem?_eq_some_iff.1 hy).1
     omega
    have hz:l[i-1]?=some l[i-1]:=List.getElem?_eq_getElem hi2
    have h1:leK l[i-1] y:=hL _ _ hz hy
    by_cases e:p=i-1
    ·rw[e,hz]at hx;cases hx;exact h1
    ·exact leK_trans (hs p (i-1) x _ hp (by omega) (by omega) hx hz) h1
  ·rw[if_neg c2,if_pos (by omega)]at hy
   by_cases c3:p<i
   ·rw[if_neg (by omega),if_neg (by omega)]at hx
    exact hs p (q-1) _ _ hp (by omega) (by omega) hx hy
   ·by_cases c4:p=i
    ·rw[if_pos c4]at hx
     rcases hG with e | hG
     ·omega
     ·have hq2:=(List.getElem?_eq_some_iff.1 hy).1
      have hz:l[i]?=some l[i]:=List.getElem?_eq_getElem (by omega)
      have h1:leK x l[i]:=ltK_le (hG _ _ hz hx)
      by_cases e:q-1=i
      ·rw[e,hz]at hy;cases hy;exact h1
      ·exact leK_trans h1 (hs i (q-1) _ _ hai (by omega) (by omega) hz hy)
    ·rw[if_neg c4,if_pos (by omega)]at hx
     exact hs (p-1) (q-1) _ _ (by omega) (by omega) (by omega) hx hy
end
end Go.Pw
set_option linter.unusedSimpArgs false
set_option linter.unusedVariables false
namespace Go.Pw
open Go Go.Proofs
section
variable {h h0 g:PH} {R:AEnd->PH->Prop} {l l':List Ord} {s:Value} {t:Bool} {a b m:Nat}
theorem merge_one (ob:OO h0 l h s) (hside:∀o∈l,o.buys=t) (hz:l.length<=64) (hb:b<=l.length) (hab:a+1<b) (hs:SorOn l (a+1) b)
  (hR:∀g l',OO h0 l' g s->Rea l l' a b->SorOn l' a b->R (.ret (.tuple #[])) g):ACalls Tryz.prog 195 #[s,.int .i64 a,.int .i64 ((a+1:Nat):Int),.int .i64 b,cmpV] h R:=by
 refine call195 ?_
 unfold sh195
 obtain⟨y,hy⟩:=at_some (l:=l) (k:=a) (by omega)
 have h1:IntKind.i64.wrap (((a+1:Nat):Int)-a)=1:=by rw[w64 (by omega) (by omega)];omega
 simp only[vBin_sub,h1,vBin_eql,decide_true,dIf_b]
 refine⟨λ_=>?_,λe=>absurd e (by simp)⟩
 refine lf_intro (λq s' g=>∃i j:Nat,s'=(.int .i64 i,.int .i64 j)/\q=j-i/\a+1<=i/\i<=j/\j<=b/\g=h/\(i=a+1\/∀x,l[i-1]?=some x->ltK x y)/\(j=b\/∀x,l[j]?=some x->¬ltK x y)) (b-(a+1))
  ⟨a+1,b,rfl,rfl,by omega,by omega,by omega,rfl,.inl rfl,.inl rfl⟩ ?_
 rintro q s' g ⟨i,j,rfl,rfl,hai,hij,hjb,rfl,hL,hG⟩
 have key:∀(kn:(Value×Value×Value)->(Value×Value)->PH->Prop) Kp x0,(i=j->x0 (s,.int .i64 a,.int .i64 i) g) ->
   (∀i2 j2:Nat,j2-i2<j-i->a+1<=i2->i2<=j2->j2<=b->(i2=a+1\/∀x,l[i2-1]?=some x->ltK x y)->(j2=b\/∀x,l[j2]?=some x->¬ltK x y)->kn (s,.int .i64 a,cmpV) (.int .i64 i2,.int .i64 j2) g) ->
   b195_3 Kp x0 (s,.int .i64 a,cmpV) kn (.int .i64 i,.int .i64 j) g:=by
  intro kn Kp x0 hX hK
  unfold b195_3
  simp only[vBin_lss,dIf_b,decide_eq_true_eq,decide_eq_false_iff_not]
  refine⟨λhlt=>?_,λhge=>hX (by omega)⟩
  have hlt':i<j:=by omega
  simp only[vBin_add]
  rw[w64 (x:=(i:Int)+j) (by omega) (by omega)]
  refine half_ok _ rfl (by omega) ?_
  generalize hc:(i+j)/2=c
  have hc1:i<=c:=by omega
  have hc2:c<j:=by omega
  obtain⟨x,hx⟩:=at_some (l:=l) (k:=c) (by omega)
  refine oo_ld ob hx rfl ?_
  refine oo_ld ob hy rfl ?_
  refine ahead_v ?_
  have hah:=ahead_lt (show x.buys=y.buys by rw[side_mem hside hx,side_mem hside hy])
  simp only[vBin_lss,vUn_not,vBin_add,dIf_b,decide_eq_true_eq,decide_eq_false_iff_not,Bool.not_eq_true',Bool.not_eq_false']
  rw[w64 (x:=(c:Int)+1) (by omega) (by omega)]
  refine⟨λhl=>?_,λhl=>?_⟩
  ·refine hK (c+1) j (by omega) (by omega) (by omega) hjb (.inr λx' hx'=>?_) hG
   rw[show c+1-1=c by omega,hx]at hx';cases hx'
   exact hah.1 hl
  ·refine hK i c (by omega) hai hc1 (by omega) hL (.inr λx' hx'=>?_)
   rw[hx]at hx';cases hx'
   exact λhh=>hl (hah.2 hh)
 refine key _ _ _ (λe=>?_) (λi2 j2 h1 h2 h3 h4 h5 h6=>⟨rfl,j2-i2,h1,i2,j2,rfl,rfl,h2,h3,h4,rfl,h5,h6⟩)
 subst e
 intro r hr
 simp only[Prod.mk.injEq]at hr
 obtain⟨r0,r1,r10⟩:=hr
 simp only[r0,r1,r10]
 refine lf_intro (λq s' g2=>∃(k:Nat) (l2:List Ord),s' = .int .i64 k/\q=i-k/\a<=k/\k+1<=i/\OO h0 l2 g2 s/\Rea l l2 a b/\MovedR l l2 a k) (i-a)
  ⟨a,l,rfl,rfl,by omega,by omega,ob,Rea.refl _ _ _,λp=>by
   rw[if_neg (by omega)]
   split
   ·rename_i e;rw[e]
   ·rfl⟩ ?_
 rintro q s' g2 ⟨k,l2,rfl,rfl,hak,hki,ob2,hre,hmv⟩
 have hl2:=hre.len
 have key2:∀(kn:(Value×Value)->Value->PH->Prop) Kp x0,(k+1=i->x0 () g2) ->
   (k+1<i->∀g3 l3,OO h0 l3 g3 s->Rea l l3 a b->MovedR l l3 a (k+1)->kn (s,.int .i64 i) (.int .i64 ((k:Int)+1)) g3) ->
   b195_9 Kp x0 (s,.int .i64 i) kn (.int .i64 k) g2:=by
  intro kn Kp x0 hX hK
  unfold b195_9
  simp only[vBin_sub,vBin_lss,dIf_b,decide_eq_true_eq,decide_eq_false_iff_not,vBin_add]
  rw[w64 (x:=(i:Int)-1) (by omega) (by omega),w64 (x:=(k:Int)+1) (by omega) (by omega)]
  refine⟨λhlt=>?_,λhge=>hX (by omega)⟩
  obtain⟨u,hu⟩:=at_some (l:=l2) (k:=k+1) (by omega)
  obtain⟨v,hv⟩:=at_some (l:=l2) (k:=k) (by omega)
  refine oo_ld ob2 hu (by omega) ?_
  refine oo_ld ob2 hv rfl ?_
  refine oo_st ob2 hv rfl λg4 ob4=>?_
  have hu4:(l2.set k u)[k+1]?=some u:=by rw[List.getElem?_set_ne (by omega)];exact hu
  refine oo_st ob4 hu4 (by omega) λg5 ob5=>?_
  refine hK (by omega) _ _ ob5 (hre.trans (rea_swap hv hu ⟨by omega,by omega⟩ ⟨by omega,by omega⟩)) λp=>?_
  rw[swap_get hv hu]
  have e1:=hmv k
  rw[if_neg (by omega),if_pos rfl]at e1
  have e2:=hmv (k+1)
  rw[if_neg (by omega),if_neg (by omega)]at e2
  by_cases c1:p=k+1
  ·rw[if_pos c1,if_neg (by omega),if_pos c1,<-hv,e1]
  ·rw[if_neg c1]
   by_cases c2:p=k
   ·rw[if_pos c2,if_pos (by omega),c2,<-e2,hu]
   ·rw[if_neg c2,hmv p,if_neg c2,if_neg c1]
    have q1:(a<=p/\p<k)↔(a<=p/\p<k+1):=by omega
    simp only[q1]
 refine key2 _ _ _ (λe=>?_) (λhlt g3 l3 ob3 hre3 hmv3=>⟨rfl,i-(k+1),by omega,k+1,l3,rfl,rfl,by omega,by omega,ob3,hre3,hmv3⟩)
 intro r2 hr2
 refine hR _ _ ob2 hre (sor_movedR hs hmv hak (by omega) hb ?_ ?_)
 ·rcases hL with e2 | hL
  ·exact .inl (by omega)
  ·refine .inr λx y' hx hy'=>?_
   rw[hy]at hy';cases hy'
   exact hL x (by rw[show i-1=k by omega];exact hx)
 ·rw[e]
  rcases hG with e2 | hG
  ·exact .inl e2
  ·refine .inr λx y' hx hy'=>?_
   rw[hy]at hy';cases hy'
   exact hG x hx
theorem merge_last (ob:OO h0 l h s) (hside:∀o∈l,o.buys=t) (hz:l.length<=64) (hb:m+1<=l.length) (ham:a+1<m) (hs:SorOn l a m)
  (hR:∀g l',OO h0 l' g s->Rea l l' a (m+1)->SorOn l' a (m+1)->R (.ret (.tuple #[])) g):ACalls Tryz.prog 195 #[s,.int .i64 a,.int .i64 m,.int .i64 ((m+1:Nat):Int),cmpV] h R:=by
 refine call195 ?_
 unfold sh195
 obtain⟨y,hy⟩:=at_some (l:=l) (k:=m) (by omega)
 have h1:IntKind.i64.wrap (((m+1:Nat):Int)-m)=1:=by rw[w64 (by omega) (by omega)];omega
 have h2:IntKind.i64.wrap ((m:Int)-a)=(m:Int)-a:=w64 (by omega) (by omega)
 have h3:¬((m:Int)-a=1):=by omega
 simp only[vBin_sub,h1,h2,vBin_eql,decide_true,h3,decide_false,dIf_b]
 refine⟨λe=>absurd e (by simp),λ_=>⟨λ_=>?_,λe=>absurd e (by simp)⟩⟩
 refine lf_intro (λq s' g=>∃i j:Nat,s'=(.int .i64 i,.int .i64 j)/\q=j-i/\a<=i/\i<=j/\j<=m/\g=h/\(i=a\/∀x,l[i-1]?=some x->¬ltK y x)/\(j=m\/∀x,l[j]?=some x->ltK y x)) (m-a)
  ⟨a,m,rfl,rfl,by omega,by omega,by omega,rfl,.inl rfl,.inl rfl⟩ ?_
 rintro q s' g ⟨i,j,rfl,rfl,hai,hij,hjb,rfl,hL,hG⟩
 have key:∀(kn:(Value×Value×Value)->(Value×Value)->PH->Prop) Kp x0,(i=j->x0 (s,.int .i64 m,.int .i64 i) g) ->
   (∀i2 j2:Nat,j2-i2<j-i->a<=i2->i2<=j2->j2<=m->(i2=a\/∀x,l[i2-1]?=some x->¬ltK y x)->(j2=m\/∀x,l[j2]?=some x->ltK y x)->kn (s,.int .i64 m,cmpV) (.int .i64 i2,.int .i64 j2) g) ->
   b195_15 Kp x0 (s,.int .i64 m,cmpV) kn (.int .i64 i,.int .i64 j) g:=by
  intro kn Kp x0 hX hK
  unfold b195_15
  simp only[vBin_lss,dIf_b,decide_eq_true_eq,decide_eq_false_iff_not]
  refine⟨λhlt=>?_,λhge=>hX (by omega)⟩
  have hlt':i<j:=by omega
  simp only[vBin_add]
  rw[w64 (x:=(i:Int)+j) (by omega) (by omega)]
  refine half_ok _ rfl (by omega) ?_
  generalize hc:(i+j)/2=c
  have hc1:i<=c:=by omega
  have hc2:c<j:=by omega
  obtain⟨x,hx⟩:=at_some (l:=l) (k:=c) (by omega)
  refine oo_ld ob hy rfl ?_
  refine oo_ld ob hx rfl ?_
  refine ahead_v ?_
  have hah:=ahead_lt (show y.buys=x.buys by rw[side_mem hside hx,side_mem hside hy])
  simp only[vBin_lss,vUn_not,vBin_add,dIf_b,decide_eq_true_eq,decide_eq_false_iff_not,Bool.not_eq_true',Bool.not_eq_false']
  rw[w64 (x:=(c:Int)+1) (by omega) (by omega)]
  refine⟨λhl=>?_,λhl=>?_⟩
  ·refine hK (c+1) j (by omega) (by omega) (by omega) hjb (.inr λx' hx'=>?_) hG
   rw[show c+1-1=c by omega,hx]at hx';cases hx'
   exact λhh=>hl (hah.2 hh)
  ·refine hK i c (by omega) hai hc1 (by omega) hL (.inr λx' hx'=>?_)
   rw[hx]at hx';cases hx'
   exact hah.1 hl
 refine key _ _ _ (λe=>?_) (λi2 j2 h1 h2 h3 h4 h5 h6=>⟨rfl,j2-i2,h1,i2,j2,rfl,rfl,h2,h3,h4,rfl,h5,h6⟩)
 subst e
 intro r hr
 simp only[Prod.mk.injEq]at hr
 obtain⟨r0,r2,r14⟩:=hr
 simp only[r0,r2,r14]
 refine lf_intro (λq s' g2=>∃(k:Nat) (l2:List Ord),s' = .int .i64 k/\q=k/\i<=k/\k<=m/\OO h0 l2 g2 s/\Rea l l2 a (m+1)/\MovedL l l2 k m) m
  ⟨m,l,rfl,rfl,by omega,by omega,ob,Rea.refl _ _ _,λp=>by
   split
   ·rename_i e;rw[e]
   ·rw[if_neg (by omega)]⟩ ?_
 rintro k s' g2 ⟨_,l2,rfl,rfl,hik,hkm,ob2,hre,hmv⟩
 have hl2:=hre.len
 have key2:∀(kn:(Value×Value)->Value->PH->Prop) Kp x0,(k=i->x0 () g2) ->
   (i<k->∀g3 l3,OO h0 l3 g3 s->Rea l l3 a (m+1)->MovedL l l3 (k-1) m->kn (s,.int .i64 i) (.int .i64 ((k-1:Nat):Int)) g3) ->
   b195_21 Kp x0 (s,.int .i64 i) kn (.int .i64 k) g2:=by
  intro kn Kp x0 hX hK
  unfold b195_21
  simp only[vBin_sub,vBin_gtr,dIf_b,decide_eq_true_eq,decide_eq_false_iff_not,vBin_add]
  rw[w64 (x:=(k:Int)-1) (by omega) (by omega)]
  refine⟨λhlt=>?_,λhge=>hX (by omega)⟩
  obtain⟨u,hu⟩:=at_some (l:=l2) (k:=k-1) (by omega)
  obtain⟨v,hv⟩:=at_some (l:=l2) (k:=k) (by omega)
  refine oo_ld ob2 hu (by omega) ?_
  refine oo_ld ob2 hv rfl ?_
  refine oo_st ob2 hv rfl λg4 ob4=>?_
  have hu4:(l2.set k u)[k-1]?=some u:=by rw[List.getElem?_set_ne (by omega)];exact hu
  refine oo_st ob4 hu4 (by omega) λg5 ob5=>?_
  rw[show (k:Int)-1=((k-1:Nat):Int)by omega]
  refine hK (by omega) _ _ ob5 (hre.trans (rea_swap hv hu ⟨by omega,by omega⟩ ⟨by omega,by omega⟩)) λp=>?_
  rw[swap_get hv hu]
  have e1:=hmv k
  rw[if_pos rfl]at e1
  have e2:=hmv (k-1)
  rw[if_neg (by omega),if_neg (by omega)]at e2
  by_cases c1:p=k-1
  ·rw[if_pos c1,if_pos c1,<-hv,e1]
  ·rw[if_neg c1,if_neg c1]
   by_cases c2:p=k
   ·rw[if_pos c2,if_pos (by omega),c2,<-e2,hu]
   ·rw[if_neg c2,hmv p,if_neg c2]
    have q1:(k<p/\p<=m)↔(k-1<p/\p<=m):=by omega
    simp only[q1]
 refine key2 _ _ _ (λe=>?_) (λhlt g3 l3 ob3 hre3 hmv3=>⟨rfl,k-1,by omega,k-1,l3,rfl,rfl,by omega,by omega,ob3,hre3,hmv3⟩)
 intro r2 hr2
 rw[e]at hmv
 refine hR _ _ ob2 hre (sor_movedL hs hmv hai (by omega) ?_ ?_)
 ·rcases hL with e2 | hL
  ·exact .inl e2
  ·refine .inr λx y' hx hy'=>?_
   rw[hy]at hy';cases hy'
   exact hL x hx
 ·rcases hG with e2 | hG
  ·exact .inl e2
  ·refine .inr λx y' hx hy'=>?_
   rw[hy]at hy';cases hy'
   exact hG x hx
end
end Go.Pw
set_option linter.unusedSimpArgs false
set_option linter.unusedVariables false
namespace Go.Pw
open Go Go.Proofs
section
variable {l l1 l2 l3:List Ord} {a b m mid st e:Nat}
theorem rot_l (hr:RotR l l1 st m e) (h2:st<=m) (h3:m<=e) {p:Nat} (hp:p<st):l1[p]?=l[p]?:=by rw[hr p,if_neg (by omega),if_neg (by omega)]
theorem rot_r (hr:RotR l l1 st m e) (h2:st<=m) (h3:m<=e) {p:Nat} (hp:e<=p):l1[p]?=l[p]?:=by rw[hr p,if_neg (by omega),if_neg (by omega)]
theorem rot_1 (hr:RotR l l1 st m e) (h2:st<=m) (h3:m<=e) {p:Nat} (h4:st<=p) (h5:p<st+(e-m)):l1[p]?=l[p+(m-st)]?:=by rw[hr p,if_pos ⟨h4,h5⟩]
theorem rot_2 (hr:RotR l l1 st m e) (h2:st<=m) (h3:m<=e) {p:Nat} (h4:st+(e-m)<=p) (h5:p<e):l1[p]?=l[p-(e-m)]?:=by rw[hr p,if_neg (by omega),if_pos ⟨h4,h5⟩]
theorem cut_1 (hr:RotR l l1 st m e) (h1:a<=st) (h2:st<=m) (h3:m<=e) (hx:SorOn l a m):SorOn l1 a st:=λp q x y hp hq hb h1 h2'=>by
 rw[rot_l hr h2 h3 (by omega)]at h1 h2'
 exact hx p q x y hp hq (by omega) h1 h2'
theorem cut_2 (hr:RotR l l1 st m e) (h2:st<=m) (h3:m<=e) (h4:e<=b) (he:st+e=mid+m) (hy:SorOn l m b):SorOn l1 st mid:=λp q x y hp hq hb h1 h2'=>by
 rw[rot_1 hr h2 h3 (by omega) (by omega)]at h1 h2'
 exact hy _ _ x y (by omega) (by omega) (by omega) h1 h2'
theorem cut_3 (hr:RotR l l1 st m e) (h1:a<=st) (h2:st<=m) (h3:m<=e) (he:st+e=mid+m) (hx:SorOn l a m):SorOn l1 mid e:=λp q x y hp hq hb h1 h2'=>by
 rw[rot_2 hr h2 h3 (by omega) (by omega)]at h1 h2'
 exact hx _ _ x y (by omega) (by omega) (by omega) h1 h2'
theorem cut_4 (hr:RotR l l1 st m e) (h2:st<=m) (h3:m<=e) (hy:SorOn l m b):SorOn l1 e b:=λp q x y hp hq hb h1 h2'=>by
 rw[rot_r hr h2 h3 (by omega)]at h1 h2'
 exact hy _ _ x y (by omega) (by omega) (by omega) h1 h2'
def Cross (l:List Ord) (a mid b:Nat):Prop:=∀p q x y,a<=p->p<mid->mid<=q->q<b->l[p]?=some x->l[q]?=some y->leK x y
theorem cut_x (hr:RotR l l1 st m e) (h1:a<=st) (h2:st<=m) (h3:m<=e) (h4:e<=b) (he:st+e=mid+m) (hsm:st<=mid) (hme:mid<=e) (hx:SorOn l a m) (hy:SorOn l m b) (hbl:b<=l.length)
  (hA:a<st->e<b->∀x y,l[st-1]?=some x->l[e]?=some y->leK x y) (hB:m<e->st<m->∀x y,l[e-1]?=some x->l[st]?=some y->leK x y):Cross l1 a mid b:=λp q x y hp hpm hq hqb hx1 hy1=>by
 by_cases c1:p<st
 ·rw[rot_l hr h2 h3 c1]at hx1
  by_cases c2:q<e
  ·rw[rot_2 hr h2 h3 (by omega) c2]at hy1
   exact hx _ _ x y hp (by omega) (by omega) hx1 hy1
  ·rw[rot_r hr h2 h3 (by omega)]at hy1
   have z1:l[st-1]?=some l[st-1]:=List.getElem?_eq_getElem (by omega)
   have z2:l[e]?=some l[e]:=List.getElem?_eq_getElem (by omega)
   have k:=hA (by omega) (by omega) _ _ z1 z2
   have k1:leK x l[st-1]:=by
    by_cases e1:p=st-1
    ·subst e1;rw[z1]at hx1;cases hx1;exact leK_refl _
    ·exact hx _ _ x _ hp (by omega) (by omega) hx1 z1
   have k2:leK l[e] y:=by
    by_cases e1:q=e
    ·subst e1;rw[z2]at hy1;cases hy1;exact leK_refl _
    ·exact hy _ _ _ y (by omega) (by omega) (by omega) z2 hy1
   exact leK_trans k1 (leK_trans k k2)
 ·rw[rot_1 hr h2 h3 (by omega) (by omega)]at hx1
  by_cases c2:q<e
  ·rw[rot_2 hr h2 h3 (by omega) c2]at hy1
   have z1:l[e-1]?=some l[e-1]:=List.getElem?_eq_getElem (by omega)
   have z2:l[st]?=some l[st]:=List.getElem?_eq_getElem (by omega)
   have k:=hB (by omega) (by omega) _ _ z1 z2
   have k1:leK x l[e-1]:=by
    by_cases e1:p+(m-st)=e-1
    ·rw[e1,z1]at hx1;cases hx1;exact leK_refl _
    ·exact hy _ _ x _ (by omega) (by omega) (by omega) hx1 z1
   have k2:leK l[st] y:=by
    by_cases e1:q-(e-m)=st
    ·rw[e1,z2]at hy1;cases hy1;exact leK_refl _
    ·exact hx _ _ _ y (by omega) (by omega) (by omega) z2 hy1
   exact leK_trans k1 (leK_trans k k2)
  ·rw[rot_r hr h2 h3 (by omega)]at hy1
   exact hy _ _ x y (by omega) (by omega) (by omega) hx1 hy1
theorem sor_join (hx:Cross l1 a mid b) (ham:a<=mid) (hmb:mid<=b) (r1:Rea l1 l2 a mid) (s1:SorOn l2 a mid) (r2:Rea l2 l3 mid b) (s2:SorOn l3 mid b):SorOn l3 a b:=λp q x y hp hq hb h1 h2=>by
 by_cases c1:q<mid
 ·rw[r2.out _ (by omega)]at h1 h2
  exact s1 p q x y hp hq c1 h1 h2
 ·by_cases c2:p<mid
  ·rw[r2.out _ (by omega)]at h1
   obtain⟨p',a1,a2,a3⟩:=r1.mem ham hp c2 h1
   obtain⟨q',b1,b2,b3⟩:=r2.mem hmb (by omega) hb h2
   rw[r1.out _ (by omega)]at b3
   exact hx p' q' x y a1 a2 b1 b2 a3 b3
  ·exact s2 p q x y (by omega) hq hb h1 h2
theorem rot_rea (hp:l1.Perm l) (hr:RotR l l1 st m e) (h2:st<=m) (h3:m<=e):Rea l l1 st e:=⟨hp,λp hp=>by rw[hr p,if_neg (by omega),if_neg (by omega)]⟩
end
section
variable {h h0 g:PH} {R:AEnd->PH->Prop} {l l':List Ord} {s:Value} {t:Bool}
def mgR (s mid e b:Value) (R:AEnd->PH->Prop) (h:PH):Prop:=
 vBin Tryz.prog .lss 3 mid e λt208=>
 gq (boolOf t208) true (λK_6=>K_6 e h)
 (λt210 h_14=>
 gq (boolOf t208) true (λK_7=>K_7 b h_14)
 (λt211 h_15=>
 gq (boolOf t208) true (λK_8=>vBin Tryz.prog .lss 3 t210 t211 λu_2=>K_8 u_2 h_15)
 (λt212 h_16=>
 vPick t208 t212 (.bool false) λt213=>
 dIf t213 (vCall Tryz.prog 195 #[s,mid,e,b,cmpV] h_16 (λt219 h_17=>R (.ret (.tuple #[])) h_17) (λc h=>R (.pan c) h))
 (R (.ret (.tuple #[])) h_16)) h_15) h_14) h
def mgL (s a st mid e b:Value) (R:AEnd->PH->Prop) (h:PH):Prop:=
 vBin Tryz.prog .lss 3 a st λt194=>
 gq (boolOf t194) true (λK_3=>K_3 st h)
 (λt196 h_10=>
 gq (boolOf t194) true (λK_4=>K_4 mid h_10)
 (λt197 h_11=>
 gq (boolOf t194) true (λK_5=>vBin Tryz.prog .lss 3 t196 t197 λu_1=>K_5 u_1 h_11)
 (λt198 h_12=>
 vPick t194 t198 (.bool false) λt199=>
 dIf t199 (vCall Tryz.prog 195 #[s,a,st,mid,cmpV] h_12 (λt205 h_13=>mgR s mid e b R h_13) (λc h=>R (.pan c) h))
 (mgR s mid e b R h_12)) h_11) h_10) h
def mgC (s a st m mid e b:Value) (R:AEnd->PH->Prop) (h:PH):Prop:=
 vBin Tryz.prog .lss 3 st m λt180=>
 gq (boolOf t180) true (λK=>K m h)
 (λt182 h_6=>
 gq (boolOf t180) true (λK_1=>K_1 e h_6)
 (λt183 h_7=>
 gq (boolOf t180) true (λK_2=>vBin Tryz.prog .lss 3 t182 t183 λu=>K_2 u h_7)
 (λt184 h_8=>
 vPick t180 t184 (.bool false) λt185=>
 dIf t185 (vCall Tryz.prog 197 #[s,st,m,e,cmpV] h_8 (λt191 h_9=>mgL s a st mid e b R h_9) (λc h=>R (.pan c) h))
 (mgL s a st mid e b R h_8)) h_7) h_6) h
def MergeOK (t:Bool) (N:Nat):Prop:=∀(a m b:Nat) (l:List Ord) (s:Value) (h0 h:PH) (R:AEnd->PH->Prop),b-a<=N->a<m->m<b->b<=l.length->l.length<=64->(∀o∈l,o.buys=t)->OO h0 l h s->SorOn l a m->SorOn l m b ->
 (∀g l',OO h0 l' g s->Rea l l' a b->SorOn l' a b->R (.ret (.tuple #[])) g)->ACalls Tryz.prog 195 #[s,.int .i64 a,.int .i64 m,.int .i64 b,cmpV] h R
theorem two_lt {x y z:Nat} {A B:PH->Prop} (h:PH):(vBin Tryz.prog .lss 3 (.int .i64 x) (.int .i64 y) λc=>
  gq (boolOf c) true (λK=>K (.int .i64 y) h) (λu h=>gq (boolOf c) true (λK=>K (.int .i64 z) h) (λv h=>gq (boolOf c) true (λK=>vBin Tryz.prog .lss 3 u v λw=>K w h) (λw h=>vPick c w (.bool false) λd=>dIf d (A h) (B h)) h) h) h) ↔
  (x<y/\y<z->A h)/\(¬(x<y/\y<z)->B h):=by
 by_cases c1:x<y
 ·have c1':(x:Int)<(y:Int):=by omega
  by_cases c2:y<z
  ·have c2':(y:Int)<(z:Int):=by omega
   simp[c1,c2]
  ·have c2':¬(y:Int)<(z:Int):=by omega
   simp[c1,c2]
 ·have c1':¬(x:Int)<(y:Int):=by omega
  simp[c1]
theorem mgR_ok {mid e b:Nat} {N:Nat} (ih:MergeOK t N) (hN:b-mid<=N) (hme:mid<=e) (heb:e<=b) (hbl:b<=l.length) (hz:l.length<=64) (hside:∀o∈l,o.buys=t) (ob:OO h0 l h s) (s1:SorOn l mid e) (s2:SorOn l e b)
  (hR:∀g l',OO h0 l' g s->Rea l l' mid b->SorOn l' mid b->R (.ret (.tuple #[])) g):mgR s (.int .i64 mid) (.int .i64 e) (.int .i64 b) R h:=by
 unfold mgR
 refine (two_lt (A:=λh_16=>vCall Tryz.prog 195 #[s,.int .i64 mid,.int .i64 e,.int .i64 b,cmpV] h_16 (λt219 h_17=>R (.ret (.tuple #[])) h_17) (λc h=>R (.pan c) h)) (B:=λh_16=>R (.ret (.tuple #[])) h_16) h).2 ⟨λhc=>?_,λhc=>?_⟩
 ·refine ih mid e b l s h0 h _ hN hc.1 hc.2 hbl hz hside ob s1 s2 λg l' ob' hr hs=>?_
  exact hR g l' ob' hr hs
 ·refine hR h l ob (Rea.refl _ _ _) ?_
  by_cases c:mid=e
  ·rw[c];exact s2
  ·rw[show b=e by omega];exact s1
theorem mgL_ok {a st mid e b:Nat} {N:Nat} (ih:MergeOK t N) (hN:b-mid<=N) (hN2:mid-a<=N) (has:a<=st) (hsm:st<=mid) (hme:mid<=e) (heb:e<=b) (hbl:b<=l.length) (hz:l.length<=64) (hside:∀o∈l,o.buys=t) (ob:OO h0 l h s)
  (s1:SorOn l a st) (s2:SorOn l st mid) (s3:SorOn l mid e) (s4:SorOn l e b) (hx:Cross l a mid b)
  (hR:∀g l',OO h0 l' g s->Rea l l' a b->SorOn l' a b->R (.ret (.tuple #[])) g):mgL s (.int .i64 a) (.int .i64 st) (.int .i64 mid) (.int .i64 e) (.int .i64 b) R h:=by
 unfold mgL
 have right:∀g l2,OO h0 l2 g s->Rea l l2 a mid->SorOn l2 a mid->mgR s (.int .i64 mid) (.int .i64 e) (.int .i64 b) R g:=λg l2 ob2 hr hs=>by
  have hl:=hr.len
  have e3:SorOn l2 mid e:=λp q x y h1 h2 h3 h4 h5=>by rw[hr.out _ (by omega)]at h4 h5;exact s3 p q x y h1 h2 h3 h4 h5
  have e4:SorOn l2 e b:=λp q x y h1 h2 h3 h4 h5=>by rw[hr.out _ (by omega)]at h4 h5;exact s4 p q x y h1 h2 h3 h4 h5
  refine mgR_ok ih hN hme heb (by omega) (by omega) (side_rea hside hr) ob2 e3 e4 λg3 l3 ob3 hr3 hs3=>?_
  exact hR g3 l3 ob3 ((hr.wide (Nat.le_refl _) (by omega)).trans (hr3.wide (by omega) (Nat.le_refl _))) (sor_join hx (by omega) (by omega) hr hs hr3 hs3)
 refine (two_lt (A:=λh_12=>vCall Tryz.prog 195 #[s,.int .i64 a,.int .i64 st,.int .i64 mid,cmpV] h_12 (λt205 h_13=>mgR s (.int .i64 mid) (.int .i64 e) (.int .i64 b) R h_13) (λc h=>R (.pan c) h)) (B:=λh_12=>mgR s (.int .i64 mid) (.int .i64 e) (.int .i64 b) R h_12) h).2 ⟨λhc=>?_,λhc=>?_⟩
 ·refine ih a st mid l s h0 h _ hN2 hc.1 hc.2 (by omega) hz hside ob s1 s2 λg l' ob' hr hs=>?_
  exact right g l' ob' hr hs
 ·refine right h l ob (Rea.refl _ _ _) ?_
  by_cases c:a=st
  ·rw[c];exact s2
  ·rw[show mid=st by omega];exact s1
theorem mgC_ok {a st m mid e b:Nat} {N:Nat} (ih:MergeOK t N) (hN:b-mid<=N) (hN2:mid-a<=N) (has:a<=st) (hsm:st<=mid) (hme:mid<=e) (heb:e<=b) (hbl:b<=l.length) (hz:l.length<=64) (hside:∀o∈l,o.buys=t) (ob:OO h0 l h s)
  (h2:st<=m) (h3:m<=e) (he:st+e=mid+m) (hx:SorOn l a m) (hy:SorOn l m b) (hA:a<st->e<b->∀x y,l[st-1]?=some x->l[e]?=some y->leK x y) (hB:m<e->st<m->∀x y,l[e-1]?=some x->l[st]?=some y->leK x y)
  (hR:∀g l',OO h0 l' g s->Rea l l' a b->SorOn l' a b->R (.ret (.tuple #[])) g):mgC s (.int .i64 a) (.int .i64 st) (.int .i64 m) (.int .i64 mid) (.int .i64 e) (.int .i64 b) R h:=by
 unfold mgC
 have left:∀g l2,OO h0 l2 g s->l2.Perm l->RotR l l2 st m e->mgL s (.int .i64 a) (.int .i64 st) (.int .i64 mid) (.int .i64 e) (.int .i64 b) R g:=λg l2 ob2 hp hr=>by
  have hrea:Rea l l2 a b:=(rot_rea hp hr h2 h3).wide has heb
  have hl:=hrea.len
  refine mgL_ok ih hN hN2 has hsm hme heb (by omega) (by omega) (side_rea hside hrea) ob2 (cut_1 hr has h2 h3 hx) (cut_2 hr h2 h3 heb he hy) (cut_3 hr has h2 h3 he hx) (cut_4 hr h2 h3 hy) (cut_x hr has h2 h3 heb he hsm hme hx hy hbl hA hB) λg3 l3 ob3 hr3 hs3=>?_
  exact hR g3 l3 ob3 (hrea.trans hr3) hs3
 refine (two_lt (A:=λh_8=>vCall Tryz.prog 197 #[s,.int .i64 st,.int .i64 m,.int .i64 e,cmpV] h_8 (λt191 h_9=>mgL s (.int .i64 a) (.int .i64 st) (.int .i64 mid) (.int .i64 e) (.int .i64 b) R h_9) (λc h=>R (.pan c) h)) (B:=λh_8=>mgL s (.int .i64 a) (.int .i64 st) (.int .i64 mid) (.int .i64 e) (.int .i64 b) R h_8) h).2 ⟨λhc=>?_,λhc=>?_⟩
 ·refine rotate_ok ob hz hc.1 hc.2 (by omega) λg l' ob' hr hrot=>?_
  exact left g l' ob' hr.perm hrot
 ·refine left h l ob (List.Perm.refl _) λp=>?_
  by_cases c1:st<=p/\p<st+(e-m)
  ·rw[if_pos c1];congr 1;omega
  ·rw[if_neg c1]
   by_cases c2:st+(e-m)<=p/\p<e
   ·rw[if_pos c2];congr 1;omega
   ·rw[if_neg c2]
end
end Go.Pw
set_option linter.unusedSimpArgs false
set_option linter.unusedVariables false
namespace Go.Pw
open Go Go.Proofs
section
variable {h h0 g:PH} {R:AEnd->PH->Prop} {l l':List Ord} {s:Value} {t:Bool}
theorem cutLoop_ok {n st0 r0:Nat} {A M B MID NN:Value} {Kp:List PanicEntry->PH->Prop} {x8:(Value×Value×Value×Value×Value×Value×Value×Value)->PH->Prop} (ob:OO h0 l h s) (hside:∀o∈l,o.buys=t) (hz:l.length<=64)
  (h0r:st0<=r0) (hr64:r0<=64) (hn1:1<=n) (hn:n<=128) (hbd:∀c,st0<=c->c<r0->c<l.length/\c+1<=n/\n-1-c<l.length)
  (hx8:∀st,st0<=st->st<=r0->(st=st0\/∀x y,l[st-1]?=some x->l[n-st]?=some y->leK x y)->(st=r0\/∀x y,l[n-1-st]?=some x->l[st]?=some y->leK x y)->x8 (s,A,M,B,cmpV,MID,NN,.int .i64 st) h) :
  lf (b195_33 Kp x8) (s,A,M,B,cmpV,MID,NN,.int .i64 ((n:Int)-1)) (.int .i64 st0,.int .i64 r0) h:=by
 refine lf_intro (λq s' g=>∃i j:Nat,s'=(.int .i64 i,.int .i64 j)/\q=j-i/\st0<=i/\i<=j/\j<=r0/\g=h/\(i=st0\/∀x y,l[i-1]?=some x->l[n-i]?=some y->leK x y)/\(j=r0\/∀x y,l[n-1-j]?=some x->l[j]?=some y->leK x y)) (r0-st0)
  ⟨st0,r0,rfl,rfl,by omega,by omega,by omega,rfl,.inl rfl,.inl rfl⟩ ?_
 rintro q s' g ⟨i,j,rfl,rfl,hai,hij,hjb,rfl,hL,hG⟩
 have key:∀(kn:(Value×Value×Value×Value×Value×Value×Value×Value)->(Value×Value)->PH->Prop) Kp x8,(i=j->x8 (s,A,M,B,cmpV,MID,NN,.int .i64 i) g) ->
   (∀i2 j2:Nat,j2-i2<j-i->st0<=i2->i2<=j2->j2<=r0->(i2=st0\/∀x y,l[i2-1]?=some x->l[n-i2]?=some y->leK x y)->(j2=r0\/∀x y,l[n-1-j2]?=some x->l[j2]?=some y->leK x y)->kn (s,A,M,B,cmpV,MID,NN,.int .i64 ((n:Int)-1)) (.int .i64 i2,.int .i64 j2) g) ->
   b195_33 Kp x8 (s,A,M,B,cmpV,MID,NN,.int .i64 ((n:Int)-1)) kn (.int .i64 i,.int .i64 j) g:=by
  intro kn Kp x8 hX hK
  unfold b195_33
  simp only[vBin_lss,dIf_b,decide_eq_true_eq,decide_eq_false_iff_not]
  refine⟨λhlt=>?_,λhge=>hX (by omega)⟩
  have hlt':i<j:=by omega
  simp only[vBin_add]
  rw[w64 (x:=(i:Int)+j) (by omega) (by omega)]
  refine half_ok _ rfl (by omega) ?_
  generalize hc:(i+j)/2=c
  have hc1:i<=c:=by omega
  have hc2:c<j:=by omega
  have hcb:=hbd c (by omega) (by omega)
  obtain⟨x,hx⟩:=at_some (l:=l) (k:=c) (by omega)
  obtain⟨y,hy⟩:=at_some (l:=l) (k:=n-1-c) (by omega)
  simp only[vBin_sub]
  rw[w64 (x:=(n:Int)-1-c) (by omega) (by omega)]
  refine oo_ld ob hy (by omega) ?_
  refine oo_ld ob hx rfl ?_
  refine ahead_v ?_
  have hah:=ahead_lt (show y.buys=x.buys by rw[side_mem hside hx,side_mem hside hy])
  simp only[vBin_lss,vUn_not,vBin_add,dIf_b,decide_eq_true_eq,decide_eq_false_iff_not,Bool.not_eq_true',Bool.not_eq_false']
  rw[w64 (x:=(c:Int)+1) (by omega) (by omega)]
  refine⟨λhl=>?_,λhl=>?_⟩
  ·refine hK (c+1) j (by omega) (by omega) (by omega) hjb (.inr λx' y' hx' hy'=>?_) hG
   rw[show c+1-1=c by omega,hx]at hx';cases hx'
   rw[show n-(c+1)=n-1-c by omega,hy]at hy';cases hy'
   exact λhh=>hl (hah.2 hh)
  ·refine hK i c (by omega) hai hc1 (by omega) hL (.inr λx' y' hx' hy'=>?_)
   rw[hy]at hx';cases hx'
   rw[hx]at hy';cases hy'
   exact ltK_le (hah.1 hl)
 refine key _ _ _ (λe=>?_) (λi2 j2 h1 h2 h3 h4 h5 h6=>⟨rfl,j2-i2,h1,i2,j2,rfl,rfl,h2,h3,h4,rfl,h5,h6⟩)
 subst e
 exact hx8 i hai hjb hL hG
theorem merge_all:∀N,MergeOK t N
 | 0=>λa m b l s h0 h R hN ham hmb=>by omega
 | N+1=>λa m b l s h0 h R hN ham hmb hbl hz hside ob hx hy hR=>by
  have ih:=merge_all N
  by_cases c1:m=a+1
  ·subst c1;exact merge_one ob hside hz hbl hmb hy hR
  by_cases c2:b=m+1
  ·subst c2;exact merge_last ob hside hz hbl (by omega) hx hR
  refine call195 ?_
  unfold sh195
  have h1:IntKind.i64.wrap ((m:Int)-a)=(m:Int)-a:=w64 (by omega) (by omega)
  have h2:IntKind.i64.wrap ((b:Int)-m)=(b:Int)-m:=w64 (by omega) (by omega)
  have h3:¬((m:Int)-a=1):=by omega
  have h4:¬((b:Int)-m=1):=by omega
  simp only[vBin_sub,h1,h2,vBin_eql,h3,h4,decide_false,dIf_b]
  refine⟨λe=>absurd e (by simp),λ_=>⟨λe=>absurd e (by simp),λ_=>?_⟩⟩
  simp only[vBin_add]
  rw[w64 (x:=(a:Int)+b) (by omega) (by omega)]
  refine half_ok _ rfl (by omega) ?_
  generalize hmid:(a+b)/2=mid
  have m1:a<mid:=by omega
  have m2:mid<b:=by omega
  simp only[vBin_add,vBin_sub,vBin_gtr,dIf_b,decide_eq_true_eq,decide_eq_false_iff_not]
  rw[w64 (x:=(mid:Int)+m) (by omega) (by omega),w64 (x:=(mid:Int)+m-b) (by omega) (by omega),w64 (x:=(mid:Int)+m-1) (by omega) (by omega)]
  have hnn:(mid:Int)+m-1=((mid+m:Nat):Int)-1:=by omega
  rw[hnn]
  refine⟨λhgt=>?_,λhgt=>?_⟩
  ·rw[show (mid:Int)+m-b=((mid+m-b:Nat):Int)by omega]
   refine cutLoop_ok ob hside hz (by omega) (by omega) (by omega) (by omega) (λc hc1 hc2=>⟨by omega,by omega,by omega⟩) λst hs1 hs2 hL hG=>?_
   intro r hr
   simp only[Prod.mk.injEq]at hr
   obtain⟨r0,r1,r2,r3,r4,r18,r19,r20⟩:=hr
   simp only[r0,r1,r2,r3,r4,r18,r19,r20,vBin_sub]
   rw[w64 (x:=(mid:Int)+m-st) (by omega) (by omega),show (mid:Int)+m-st=((mid+m-st:Nat):Int)by omega]
   show mgC s (.int .i64 a) (.int .i64 st) (.int .i64 m) (.int .i64 mid) (.int .i64 ((mid+m-st:Nat):Int)) (.int .i64 b) R h
   refine mgC_ok ih (by omega) (by omega) (by omega) (by omega) (by omega) (by omega) hbl hz hside ob (by omega) (by omega) (by omega) hx hy (λk1 k2 x y hx' hy'=>?_) (λk1 k2 x y hx' hy'=>?_) hR
   ·rcases hL with e | hL
    ·omega
    ·exact hL x y hx' hy'
   ·rcases hG with e | hG
    ·omega
    ·refine hG x y ?_ hy'
     rw[show mid+m-1-st=mid+m-st-1 by omega];exact hx'
  ·refine cutLoop_ok ob hside hz (by omega) (by omega) (by omega) (by omega) (λc hc1 hc2=>⟨by omega,by omega,by omega⟩) λst hs1 hs2 hL hG=>?_
   intro r hr
   simp only[Prod.mk.injEq]at hr
   obtain⟨r0,r1,r2,r3,r4,r18,r19,r20⟩:=hr
   simp only[r0,r1,r2,r3,r4,r18,r19,r20,vBin_sub]
   rw[w64 (x:=(mid:Int)+m-st) (by omega) (by omega),show (mid:Int)+m-st=((mid+m-st:Nat):Int)by omega]
   show mgC s (.int .i64 a) (.int .i64 st) (.int .i64 m) (.int .i64 mid) (.int .i64 ((mid+m-st:Nat):Int)) (.int .i64 b) R h
   refine mgC_ok ih (by omega) (by omega) (by omega) (by omega) (by omega) (by omega) hbl hz hside ob (by omega) (by omega) (by omega) hx hy (λk1 k2 x y hx' hy'=>?_) (λk1 k2 x y hx' hy'=>?_) hR
   ·rcases hL with e | hL
    ·omega
    ·exact hL x y hx' hy'
   ·rcases hG with e | hG
    ·omega
    ·refine hG x y ?_ hy'
     rw[show mid+m-1-st=mid+m-st-1 by omega];exact hx'
theorem symMerge_ok {a m b:Nat} (ob:OO h0 l h s) (hside:∀o∈l,o.buys=t) (hz:l.length<=64) (ham:a<m) (hmb:m<b) (hbl:b<=l.length) (hx:SorOn l a m) (hy:SorOn l m b)
  (hR:∀g l',OO h0 l' g s->Rea l l' a b->SorOn l' a b->R (.ret (.tuple #[])) g):ACalls Tryz.prog 195 #[s,.int .i64 a,.int .i64 m,.int .i64 b,cmpV] h R:=
 merge_all (b-a) a m b l s h0 h R (Nat.le_refl _) ham hmb hbl hz hside ob hx hy hR
def Blocks (l:List Ord) (z:Nat):Prop:=∀k,SorOn l (k*z) (min (k*z+z) l.length)
theorem stable_ok (ob:OO h0 l h s) (hside:∀o∈l,o.buys=t) (hz:l.length<=64)
  (hR:∀g l',OO h0 l' g s->l'.Perm l->l'.Pairwise leK->R (.ret (.tuple #[])) g):ACalls Tryz.prog 191 #[s,.int .i64 l.length,cmpV] h R:=by
 refine call191 ?_
 unfold sh191
 generalize hn:l.length=n at *
 refine lf_intro (λq s' g=>∃(k:Nat) (l2:List Ord),s'=(.int .i64 ((k*20:Nat):Int),.int .i64 ((k*20+20:Nat):Int))/\q=n-k/\k*20<=n/\OO h0 l2 g s/\Rea l l2 0 n/\(∀j,j<k->SorOn l2 (j*20) (j*20+20))) n
  ⟨0,l,rfl,rfl,by omega,ob,Rea.refl _ _ _,λj hj=>by omega⟩ ?_
 rintro q s' g ⟨k,l2,rfl,rfl,hk,ob2,hre,hbk⟩
 have hl2:l2.length=n:=by rw[hre.len,hn]
 have key:∀(kn:(Value×Value×Value×Value)->(Value×Value)->PH->Prop) Kp x0,(k*20+20<=n->∀g3 l3,OO h0 l3 g3 s->Rea l2 l3 (k*20) (k*20+20)->SorOn l3 (k*20) (k*20+20)->kn (s,.int .i64 n,cmpV,.int .i64 20) (.int .i64 ((k*20+20:Nat):Int),.int .i64 ((k*20+20+20:Nat):Int)) g3) ->
   (n<k*20+20->x0 (s,.int .i64 n,cmpV,.int .i64 20,.int .i64 ((k*20:Nat):Int)) g) ->
   b191_2 Kp x0 (s,.int .i64 n,cmpV,.int .i64 20) kn (.int .i64 ((k*20:Nat):Int),.int .i64 ((k*20+20:Nat):Int)) g:=by
  intro kn Kp x0 hK hX
  unfold b191_2
  simp only[vBin_leq,dIf_b,decide_eq_true_eq,decide_eq_false_iff_not]
  refine⟨λhle=>?_,λhge=>hX (by omega)⟩
  refine insSort_ok ob2 (side_rea hside hre) (by omega) (by omega) (by omega) λg3 l3 ob3 hr3 hs3=>?_
  simp only[AEnd.elim,vBin_add]
  rw[w64 (by omega) (by omega)]
  exact hK (by omega) g3 l3 ob3 hr3 hs3
 refine key _ _ _ (λhle g3 l3 ob3 hr3 hs3=>⟨rfl,n-(k+1),by omega,k+1,l3,?_,rfl,by omega,ob3,hre.trans (hr3.wide (by omega) hle),λj hj=>?_⟩) (λhlt=>?_)
 ·rw[show (k+1)*20=k*20+20 by omega]
 ·by_cases e:j=k
  ·rw[e];exact hs3
  ·intro p q x y h1 h2 h3 h4 h5
   rw[hr3.out _ (by omega)]at h4 h5
   exact hbk j (by omega) p q x y h1 h2 h3 h4 h5
 intro r hr
 simp only[Prod.mk.injEq]at hr
 obtain⟨r0,r1,r2,r6,r7⟩:=hr
 simp only[r0,r1,r2,r6,r7]
 refine insSort_ok ob2 (side_rea hside hre) (by omega) (by omega) (by omega) λg3 l3 ob3 hr3 hs3=>?_
 simp only[AEnd.elim]
 have hre3:Rea l l3 0 n:=hre.trans (hr3.wide (by omega) (by omega))
 have hl3:l3.length=n:=by rw[hre3.len,hn]
 have hb20:Blocks l3 20:=λj=>by
  intro p q x y h1 h2 h3 h4 h5
  rcases Nat.lt_trichotomy j k with e | e | e
  ·rw[hr3.out _ (by omega)]at h4 h5
   exact hbk j e p q x y h1 h2 (by omega) h4 h5
  ·subst e
   exact hs3 p q x y h1 h2 (by omega) h4 h5
  ·omega
 -- the doubling
 refine lf_intro (λq s' g=>∃(z:Nat) (l4:List Ord),s' = .int .i64 z/\q=128-z/\20<=z/\z<=127/\OO h0 l4 g s/\Rea l l4 0 n/\Blocks l4 z) 108 ⟨20,l3,rfl,by omega,by omega,by omega,ob3,hre3,hb20⟩ ?_
 rintro q s' g4 ⟨z,l4,rfl,rfl,hz20,hz127,ob4,hre4,hb4⟩
 have hl4:l4.length=n:=by rw[hre4.len,hn]
 have key2:∀(kn:(Value×Value×Value)->Value->PH->Prop) Kp x2,(n<=z->x2 () g4)->(z<n->∀g5 l5,OO h0 l5 g5 s->Rea l4 l5 0 n->Blocks l5 (2*z)->kn (s,.int .i64 n,cmpV) (.int .i64 ((2*z:Nat):Int)) g5) ->
   (Kp=λc h=>R (.pan c) h)->b191_7 Kp x2 (s,.int .i64 n,cmpV) kn (.int .i64 z) g4:=by
  intro kn Kp x2 hX hK hKp
  unfold b191_7
  simp only[vBin_lss,dIf_b,decide_eq_true_eq,decide_eq_false_iff_not]
  refine⟨λhlt=>?_,λhge=>hX (by omega)⟩
  have hzn:z<n:=by omega
  simp only[vBin_mul]
  rw[w64 (by omega) (by omega)]
  refine lf_intro (λq s' g=>∃(k:Nat) (l5:List Ord),s'=(.int .i64 ((k*(2*z):Nat):Int),.int .i64 ((k*(2*z)+2*z:Nat):Int))/\q=n-k/\k*(2*z)<=n/\OO h0 l5 g s/\Rea l4 l5 0 n/\(∀j,j<k->SorOn l5 (j*(2*z)) (j*(2*z)+2*z))/\(∀p,k*(2*z)<=p->l5[p]?=l4[p]?)) n
   ⟨0,l4,by rw[show ((2:Int)*(z:Int))=((0*(2*z)+2*z:Nat):Int)by omega];simp,rfl,by omega,ob4,Rea.refl _ _ _,λj hj=>by omega,λ_ _=>rfl⟩ ?_
  rintro q s' g5 ⟨k,l5,rfl,rfl,hk,ob5,hre5,hbk5,hsame⟩
  have hl5:l5.length=n:=by rw[hre5.len,hl4]
  have hside5:∀o∈l5,o.buys=t:=side_rea hside (hre4.trans hre5)
  have e2k:k*(2*z)=(2*k)*z:=by rw[Nat.mul_comm 2 k,Nat.mul_assoc]
  have e2k1:k*(2*z)+z=(2*k+1)*z:=by rw[Nat.add_mul,Nat.one_mul,<-e2k]
  have hA:∀lim,lim<=n->SorOn l5 (k*(2*z)) (min (k*(2*z)+z) lim):=λlim hlim p q x y h1 h2 h3 h4 h5=>by
   rw[hsame _ (by omega)]at h4 h5
   exact hb4 (2*k) p q x y (by omega) h2 (by rw[<-e2k];omega) h4 h5
  have hB:SorOn l5 (k*(2*z)+z) (min (k*(2*z)+2*z) n):=λp q x y h1 h2 h3 h4 h5=>by
   rw[hsame _ (by omega)]at h4 h5
   refine hb4 (2*k+1) p q x y (by omega) h2 ?_ h4 h5
   rw[<-e2k1,hl4];omega
  generalize hkz:k*(2*z)=kz at *
  have hkk:k<=kz:=by rw[<-hkz];exact Nat.le_mul_of_pos_right _ (by omega)
  have key3:∀(kn:(Value×Value×Value×Value)->(Value×Value)->PH->Prop) Kp x4,(kz+2*z<=n->∀g6 l6,OO h0 l6 g6 s->Rea l5 l6 kz (kz+2*z)->SorOn l6 kz (kz+2*z)->kn (s,.int .i64 n,cmpV,.int .i64 z) (.int .i64 ((kz+2*z:Nat):Int),.int .i64 ((kz+2*z+2*z:Nat):Int)) g6) ->
    (n<kz+2*z->x4 (s,.int .i64 n,cmpV,.int .i64 z,.int .i64 kz) g5) ->
    b191_9 Kp x4 (s,.int .i64 n,cmpV,.int .i64 z) kn (.int .i64 kz,.int .i64 ((kz+2*z:Nat):Int)) g5:=by
   intro kn Kp x4 hK hX
   unfold b191_9
   simp only[vBin_leq,dIf_b,decide_eq_true_eq,decide_eq_false_iff_not]
   refine⟨λhle=>?_,λhge=>hX (by omega)⟩
   simp only[vBin_add]
   rw[w64 (x:=(kz:Int)+z) (by omega) (by omega),show (kz:Int)+z=((kz+z:Nat):Int)by omega]
   have hA':=hA n (Nat.le_refl _)
   rw[show min (kz+z) n=kz+z by omega]at hA'
   have hB':=hB
   rw[show min (kz+2*z) n=kz+2*z by omega]at hB'
   refine symMerge_ok ob5 hside5 (by omega) (by omega) (by omega) (by omega) hA' hB' λg6 l6 ob6 hr6 hs6=>?_
   simp only[AEnd.elim,vBin_mul,vBin_add]
   rw[w64 (x:=2*(z:Int)) (by omega) (by omega),w64 (by omega) (by omega),show ((kz+2*z:Nat):Int)+2*(z:Int)=((kz+2*z+2*z:Nat):Int)by omega]
   exact hK (by omega) g6 l6 ob6 hr6 hs6
  refine key3 _ _ _ (λhle g6 l6 ob6 hr6 hs6=>⟨rfl,n-(k+1),by omega,k+1,l6,?_,rfl,?_,ob6,hre5.trans (hr6.wide (by omega) hle),λj hj=>?_,λp hp=>?_⟩) (λhlt=>?_)
  ·rw[Nat.add_mul,hkz,Nat.one_mul]
  ·rw[Nat.add_mul,hkz,Nat.one_mul];exact hle
  ·by_cases e:j=k
   ·rw[e,hkz];exact hs6
   ·have hjk:j*(2*z)+2*z<=kz:=by
     rw[<-hkz]
     have:(j+1)*(2*z)<=k*(2*z):=Nat.mul_le_mul_right _ (by omega)
     rw[Nat.add_mul,Nat.one_mul]at this
     exact this
    intro p q x y h1 h2 h3 h4 h5
    rw[hr6.out _ (by omega)]at h4 h5
    exact hbk5 j (by omega) p q x y h1 h2 h3 h4 h5
  ·rw[Nat.add_mul,hkz,Nat.one_mul]at hp
   rw[hr6.out _ (by omega),hsame _ (by omega)]
  intro r hr
  simp only[Prod.mk.injEq]at hr
  obtain⟨q0,q1,q2,q6,q7⟩:=hr
  simp only[q0,q1,q2,q6,q7,vBin_add,vBin_mul,vBin_lss,dIf_b,decide_eq_true_eq,decide_eq_false_iff_not]
  rw[w64 (x:=(kz:Int)+z) (by omega) (by omega),w64 (x:=(z:Int)*2) (by omega) (by omega),show (z:Int)*2=((2*z:Nat):Int)by omega,show (kz:Int)+z=((kz+z:Nat):Int)by omega]
  have fin:∀l6,Rea l5 l6 kz n->SorOn l6 kz n->Blocks l6 (2*z):=λl6 hr6 hs6 j p q x y h1 h2 h3 h4 h5=>by
   have hl6:l6.length=n:=by rw[hr6.len,hl5]
   rw[hl6]at h3
   rcases Nat.lt_trichotomy j k with e | e | e
   ·have hjk:j*(2*z)+2*z<=kz:=by
     rw[<-hkz]
     have:(j+1)*(2*z)<=k*(2*z):=Nat.mul_le_mul_right _ (by omega)
     rw[Nat.add_mul,Nat.one_mul]at this
     exact this
    rw[hr6.out _ (by omega)]at h4 h5
    exact hbk5 j e p q x y h1 h2 (by omega) h4 h5
   ·subst e
    rw[hkz]at h1 h3
    exact hs6 p q x y h1 h2 (by omega) h4 h5
   ·have:(k+1)*(2*z)<=j*(2*z):=Nat.mul_le_mul_right _ (by omega)
    rw[Nat.add_mul,Nat.one_mul,hkz]at this
    omega
  refine⟨λhlt2=>?_,λhge=>?_⟩
  ·have hA':=hA n (Nat.le_refl _)
   rw[show min (kz+z) n=kz+z by omega]at hA'
   have hB':=hB
   rw[show min (kz+2*z) n=n by omega]at hB'
   refine symMerge_ok ob5 hside5 (by omega) (by omega) (by omega) (by omega) hA' hB' λg6 l6 ob6 hr6 hs6=>?_
   exact hK hzn g6 l6 ob6 (hre5.trans (hr6.wide (by omega) (Nat.le_refl _))) (fin l6 hr6 hs6)
  ·have hA':=hA n (Nat.le_refl _)
   rw[show min (kz+z) n=n by omega]at hA'
   exact hK hzn g5 l5 ob5 hre5 (fin l5 (Rea.refl _ _ _) hA')
 refine key2 _ _ _ (λhle=>?_) (λhlt g5 l5 ob5 hre5 hb5=>⟨rfl,128-2*z,by omega,2*z,l5,rfl,rfl,by omega,by omega,ob5,hre4.trans hre5,hb5⟩) rfl
 intro r hr
 refine hR g4 l4 ob4 hre4.perm (sor_all λi j x y h1 h2 h3 h4 h5=>?_)
 exact hb4 0 i j x y (by omega) h2 (by omega) h4 h5
theorem sort_ok (ob:OO h0 l h s) (hside:∀o∈l,o.buys=t) (hz:l.length<=64) (hone:∀x∈l,∀y∈l,x.k=y.k->x.pl=y.pl->x=y)
  (hR:∀g,OO h0 (isort l) g s->R (.ret (.tuple #[])) g):ACalls Tryz.prog 185 #[s,cmpV] h R:=by
 refine call185 ?_
 unfold sh185
 obtain⟨p,cap,hse⟩:=ob_len ob
 rw[hse]
 simp only[vLenS_s]
 rw[<-hse]
 refine stable_ok ob hside hz λg l' ob' hp hs=>?_
 simp only[AEnd.elim]
 have hip:=isort_perm l
 rw[sor_one (hp.trans hip.symm) hs (isort_sor l) (λx hx y hy=>hone x (hip.mem_iff.1 hx) y (hip.mem_iff.1 hy))]at ob'
 exact hR g ob'
end
end Go.Pw
set_option linter.unusedSimpArgs false
set_option linter.unusedVariables false
namespace Go.Pw
open Go Go.Proofs
structure Fil where
 id:Int
 own:Int
 am:Int
deriving DecidableEq
def Fil.cells (f:Fil):List Value:=[.int .i64 f.id,.int .i64 f.own,.int .i64 f.am]
def Fil.a (f:Fil):Array Value:=#[.int .i64 f.id,.int .i64 f.own,.int .i64 f.am]
abbrev Fil.v (f:Fil):Value:=.agg f.a
def filsC (l:List Fil):List Value:=l.flatMap Fil.cells
theorem filsC_one {l:List Fil}:∀v∈filsC l,v.oneCell'=true:=by
 intro v hv
 obtain⟨o,_,ho⟩:=List.mem_flatMap.1 hv
 simp only[Fil.cells,List.mem_cons,List.not_mem_nil,or_false]at ho
 rcases ho with rfl | rfl | rfl <;> rfl
theorem filsC_get:∀(l:List Fil) (i:Nat) (o:Fil),l[i]?=some o->∀j,j<3->(filsC l)[i*3+j]?=o.cells[j]?
 | [],i,o,h,_,_=>by simp at h
 | a::l,0,o,h,j,hj=>by
  simp only[List.getElem?_cons_zero,Option.some.injEq]at h
  subst h
  unfold filsC
  rw[List.flatMap_cons,List.getElem?_append_left (by show 0*3+j<3;omega),Nat.zero_mul,Nat.zero_add]
 | a::l,i+1,o,h,j,hj=>by
  simp only[List.getElem?_cons_succ]at h
  unfold filsC
  rw[List.flatMap_cons,List.getElem?_append_right (by show 3<=_;omega)]
  have:=filsC_get l i o h j hj
  unfold filsC at this
  rw[<-this]
  congr 1
  show (i+1)*3+j-3=_
  omega
theorem filsC_snoc (l:List Fil) (f:Fil):filsC l++f.a.toList=filsC (l ++ [f]):=by simp[filsC,Fil.cells,Fil.a]
theorem fill_fil (o:Fil):Instr.fill (λi=>some (i*3,3)) (rep #[Value.int .i64 0,.int .i64 0,.int .i64 0] (1*3)) [(0,o.v)]=some o.a:=by
 have e:Array.range 3=#[0,1,2]:=by decide
 simp[Instr.fill,rep,Value.cells,e,Fil.a]
theorem build_fil (a b c:Int):Instr.fill (λi=>[(0,1),(1,1),(2,1)][i]?) #[Value.int .i64 0,.int .i64 0,.int .i64 0] [(0,.int .i64 a),(1,.int .i64 b),(2,.int .i64 c)]=some (Fil.a ⟨a,b,c⟩):=by
 simp[Instr.fill,Value.cells,Fil.a]
theorem vBin_beq {P:Program} {K:Value->Prop} {t:TypeId} (hu:P.underlying t=some .bool) (a b:Bool):vBin P .eql t (.bool a) (.bool b) K↔K (.bool (a==b)):=
 vBin_eq (λx y=>pureRun_eqGuard (λ_=>by simp) (by simp)) rfl (by
  show pureRun P (Op.equalIn (9999+1) t _ _)=_
  rw[Op.equalIn]
  exact pureRun_seq (pureRun_underlying hu) rfl)
def onSide (b:Bool) (p:Int) (o:Ord):Bool:=decide (o.buys=b/\((b=true/\p<=o.pr)\/(b=false/\o.pr<=p)))
def sideO (l:List Ord) (b:Bool) (p:Int):List Ord:=(rightsO l).filter (onSide b p)
def stF (s:Int×List Fil) (o:Ord):Int×List Fil:=if 0<min s.1 o.am then (s.1-min s.1 o.am,s.2 ++ [⟨o.id,o.own,min s.1 o.am⟩])else s
def runF (l:List Ord) (n:Int) (out:List Fil):List Fil:=(l.foldl stF (n,out)).2
def fillsO (l:List Ord) (p n:Int):List Fil:=runF (isort (sideO l false p)) n (runF (isort (sideO l true p)) n [])
theorem stF_len (s:Int×List Fil) (o:Ord):(stF s o).2.length<=s.2.length+1:=by unfold stF;split <;> simp
theorem foldF_len:∀(l:List Ord) (s:Int×List Fil),(l.foldl stF s).2.length<=s.2.length+l.length
 | [],s=>by simp
 | o::l,s=>by
  have h1:=foldF_len l (stF s o)
  have h2:=stF_len s o
  simp only[List.foldl_cons,List.length_cons];omega
theorem foldF_bd {M:Int}:∀(l:List Ord) (s:Int×List Fil),0<=s.1/\s.1<=M->0<=(l.foldl stF s).1/\(l.foldl stF s).1<=M
 | [],s,h=>h
 | o::l,s,h=>by
  simp only[List.foldl_cons]
  refine foldF_bd l _ ?_
  unfold stF
  split <;> (try simp only) <;> omega
section
variable {h h0 g G hb:PH} {R:AEnd->PH->Prop} {l l':List Ord} {s s1 s2:Value} {t:Bool} {e1 e2:TypeId} {z1 z2 n1 n2:Nat} {c1 c2:List Value}
theorem OB.os (ob:OB e1 z1 hb n1 c1 G s1):OS e1 z1 s1 n1 c1 G:=sep_l OS.mono (ob_os (C:=emp) trivial ob)
theorem OB.turn (oa:OB e1 z1 hb n1 c1 G s1) (ob:OB e2 z2 G n2 c2 g s2):∃h0,Sub hb h0/\OB e1 z1 h0 n1 c1 g s1/\OS e2 z2 s2 n2 c2 h0:=by
 rcases oa.buf with⟨rfl,rfl,rfl⟩ | ⟨gg,c,cap,rfl,hg,hg0,hx⟩
 ·exact⟨g,oa.sub.trans ob.sub,⟨Sub.refl g,oa.len,.inl ⟨rfl,rfl,rfl⟩⟩,ob.os⟩
 ·have hdr:∀b,b≠gg->dropB g gg b=g b:=λb hb=>by unfold dropB;rw[nbeq hb];rfl
  have hdg:dropB g gg gg=none:=by unfold dropB;rw[Nat.beq_refl];rfl
  refine⟨dropB g gg,λb o hbo=>?_,⟨λb o hbo=>?_,oa.len,.inr ⟨gg,c,cap,rfl,ob.sub _ _ hg,hdg,hx⟩⟩,ob.len,?_⟩
  ·rw[hdr b (λe=>by rw[e,hg0]at hbo;cases hbo)]
   exact ob.sub _ _ (oa.sub _ _ hbo)
  ·by_cases e:b=gg
   ·rw[e,hdg]at hbo;cases hbo
   ·rw[hdr b e]at hbo;exact hbo
  ·rcases ob.buf with a | ⟨q,c',cap',a1,a2,a3,a4⟩
   ·exact .inl a
   ·exact .inr ⟨q,c',cap',a1,by rw[hdr q (λe=>by rw[e,hg]at a3;cases a3)];exact a2,a4⟩
theorem side_ok {F:Value×Value×Value×Value×Value×Value×Value×Value×Value×Value} {p:Int} {Kp:List PanicEntry->PH->Prop} {x2:(Value×Value×Value×Value×Value×Value×Value×Value)->PH->Prop} {r:List Ord}
  (hs:OrdsAt h s r) (hz:r.length<=64) (e1:F.2.1 = .int .i64 p) (e2:F.2.2.2.2.1 = .bool t) (e3:F.2.2.2.2.2.2.2.2.1=s) (e4:F.2.2.2.2.2.2.2.2.2 = .int .i64 r.length)
  (hX:∀g s',OB 78 6 h (r.filter (onSide t p)).length (ordsC (r.filter (onSide t p))) g s'->x2 (F.1,F.2.1,F.2.2.1,F.2.2.2.1,s',F.2.2.2.2.2.1,F.2.2.2.2.2.2.1,F.2.2.2.2.2.2.2.1) g) :
  lf (b171_8 Kp x2) F (.slice none 0 0,.int .i64 0) h:=by
 refine lf_intro (λq s' g=>∃(i:Nat) (sv:Value),s'=(sv,.int .i64 i)/\q=r.length-i/\i<=r.length/\OB 78 6 h ((r.take i).filter (onSide t p)).length (ordsC ((r.take i).filter (onSide t p))) g sv) r.length
  ⟨0,.slice none 0 0,rfl,rfl,by omega,Sub.refl h,rfl,.inl ⟨rfl,rfl,rfl⟩⟩ ?_
 rintro q s' g ⟨i,sv,rfl,rfl,hi,ob⟩
 have hl64:((r.take i).filter (onSide t p)).length<=64:=by
  have:=List.length_filter_le (onSide t p) (r.take i)
  rw[List.length_take]at this
  omega
 by_cases hin:i<r.length
 ·obtain⟨o,ho⟩:=at_some (l:=r) (k:=i) hin
  have hf:(r.take (i+1)).filter (onSide t p)=(r.take i).filter (onSide t p)++(if onSide t p o then [o]else []):=by
   rw[List.take_add_one,List.filter_append,ho]
   cases hc:onSide t p o <;> simp[hc]
  have key:∀(kn:(Value×Value×Value×Value×Value×Value×Value×Value×Value×Value)->(Value×Value)->PH->Prop) Kp x2,
    (∀g2 s2,OB 78 6 h ((r.take (i+1)).filter (onSide t p)).length (ordsC ((r.take (i+1)).filter (onSide t p))) g2 s2->kn F (s2,.int .i64 ((i:Int)+1)) g2) ->
    b171_8 Kp x2 F kn (sv,.int .i64 i) g:=by
   intro kn Kp x2 hkn
   rw[hf]at hkn
   unfold b171_8
   rw[e1,e2,e3,e4]
   have hlt:(i:Int)<(r.length:Int):=by omega
   simp only[vBin_lss,hlt,decide_true,dIf_b]
   refine⟨λ_=>?_,λe=>absurd e (by simp)⟩
   refine ord_copy (OS.mono _ _ ob.sub hs) ho λc hc=>?_
   have obc:=ob.up (sub_ins (.cells o.a 78 (0,0)) hc)
   have hcc:ins g c (.cells o.a 78 (0,0)) c=some (.cells o.a 78 (0,0)):=ins_eq _ _ _
   revert obc hcc
   generalize ins g c (.cells o.a 78 (0,0))=G
   intro obc hcc
   have hww:IntKind.i64.wrap ((i:Int)+1)=(i:Int)+1:=w64 (by omega) (by omega)
   have x2:=λK=>vLoad_1 (K:=K) hcc (show o.a[2]?=some (.int .i64 o.pr)from rfl)
   have x5:=λK=>vLoad_1 (K:=K) hcc (show o.a[5]?=some (.bool o.buys)from rfl)
   have x6:∀K,vLoad (some 6) (.pointer (some ⟨c,0,none⟩)) G K↔K o.v:=λK=>by
    rw[vLoad_n hcc (off:=0) (n:=6) (by show 0+6<=6;omega),show o.a.extract 0 (0+6)=o.a from rfl]
   have no:onSide t p o=false->∀(kk:PH->Prop),(kk=kn F (sv,.int .i64 ((i:Int)+1)))->kk G:=λhno kk hkk=>by
    rw[hno]at hkn
    simp only[Bool.false_eq_true,if_false,List.append_nil]at hkn
    rw[hkk]
    exact hkn _ _ obc
   have yes:onSide t p o=true->(1*6<=2^24)/\vBuildS 78 6 1 #[.int .i64 0,.int .i64 0,.int .i64 0,.int .i64 0,.int .i64 0,.bool false] [(0,o.v)] G λt56 h_20=>
     (0<6)/\(0<48)/\(Array.size #[(.int .i64 0:Value),(.int .i64 0:Value),(.int .i64 0:Value),(.int .i64 0:Value),(.int .i64 0:Value),(.bool false:Value)]=6)/\vAppend false 78 6 48 sv t56 h_20 λt57 h_21=>
     kn F (t57,.int .i64 ((i:Int)+1)) h_21:=λhyes=>by
    rw[hyes]at hkn
    simp only[if_true]at hkn
    refine⟨by omega,_,fill_ord o,λd hd=>⟨by omega,by omega,rfl,?_⟩⟩
    have obd:=obc.up (sub_ins (.cells o.a 78) hd)
    refine ob_app (m:=1) (news:=o.a.toList) obd (by simp only[roomBytes];omega) (by omega) rfl
     (λK' hk'=>.inr (.inr ⟨rfl,d,0,1,1,_,_,_,rfl,ins_eq _ _ _,by show 0+1*6<=6;omega,?_,hk'⟩)) (λb' off l cc hx gg cap hs=>?_) λg5 s5 ob5=>?_
    ·intro v hv
     have:v∈ordsC [o]:=hv
     exact ordsC_one v this
    ·cases hx
     intro e
     rcases obc.buf with⟨h1',_⟩ | ⟨g3,c3,cap3,h1',h2',_⟩
     ·rw[h1']at hs;cases hs
     ·rw[h1']at hs;cases hs;rw[<-e,hd]at h2';cases h2'
    ·refine hkn _ _ ?_
     rw[List.length_append,<-ordsC_snoc]
     exact ob5
   have yes2:=λhy=>(yes hy).2
   cases hb:o.buys <;> cases ht:t
   ·rw[ht]at no yes2
    by_cases hp:o.pr<=p
    ·simp[x5,hb,x2,hp,x6,hww,vBin_beq Tryz.underlying4]
     have:=yes2 (by simp[onSide,hb,hp])
     simpa using this
    ·simp[x5,hb,x2,hp,hww,vBin_beq Tryz.underlying4]
     exact no (by simp[onSide,hb,hp]) _ rfl
   ·rw[ht]at no
    simp[x5,hb,x2,hww,vBin_beq Tryz.underlying4]
    exact no (by simp[onSide,hb]) _ rfl
   ·rw[ht]at no
    simp[x5,hb,x2,hww,vBin_beq Tryz.underlying4]
    exact no (by simp[onSide,hb]) _ rfl
   ·rw[ht]at no yes2
    by_cases hp:p<=o.pr
    ·simp[x5,hb,x2,hp,x6,hww,vBin_beq Tryz.underlying4]
     have:=yes2 (by simp[onSide,hb,hp])
     simpa using this
    ·simp[x5,hb,x2,hp,hww,vBin_beq Tryz.underlying4]
     exact no (by simp[onSide,hb,hp]) _ rfl
  exact key _ _ _ λg2 s2 ob2=>⟨rfl,r.length-(i+1),by omega,i+1,s2,rfl,rfl,by omega,ob2⟩
 ·have e:i=r.length:=by omega
  unfold b171_8
  rw[e4]
  have hge:¬(i:Int)<(r.length:Int):=by omega
  simp only[vBin_lss,hge,decide_false,dIf_b]
  refine⟨λe=>absurd e (by simp),λ_=>?_⟩
  rw[e,List.take_length]at ob
  exact hX _ _ ob
end
end Go.Pw
set_option linter.unusedSimpArgs false
set_option linter.unusedVariables false
namespace Go.Pw
open Go Go.Proofs
end Go.Pw
set_option linter.unusedSimpArgs false
set_option linter.unusedVariables false
namespace Go.Pw
open Go Go.Proofs
section
variable {h h0:PH} {R:AEnd->PH->Prop} {s:Value} {bs:List UInt8}
theorem ob_byte {b:UInt8} {K:Value->PH->Prop} (hw:OB 5 1 h0 bs.length (byteCells bs) h s) (hl:bs.length<1073741824) (hk:∀h3 s3,OB 5 1 h0 (bs ++ [b]).length (byteCells (bs ++ [b])) h3 s3->K s3 h3) :
  (1*1<=2^24)/\vBuildS 5 1 1 #[.int .u8 0] [(0,.int .u8 b.toNat)] h λt h1=>
   (0<1)/\(0<1)/\(Array.size #[(.int .u8 0:Value)]=1)/\vAppend false 5 1 1 s t h1 K:=by
 refine⟨by omega,#[.int .u8 b.toNat],fill_one b,λq hq=>⟨by omega,by omega,rfl,?_⟩⟩
 have hobq:=hw.up (sub_ins (h:=h) (.cells #[.int .u8 b.toNat] 5 (0,0)) hq)
 refine ob_app (m:=1) (bytes:=1) (news:=byteCells [b]) hobq (by simp only[roomBytes];omega) (by omega) rfl
  (λK' hk'=>.inr (.inr ⟨rfl,q,0,1,1,_,_,_,rfl,ins_eq _ _ _,by simp,λv hv=>byte_one (l:=[b]) v (by simpa [byteCells]using hv),by simpa [byteCells]using hk'⟩)) (λb' off l' cc hx' gg cap' hs'=>?_) λh3 s3 ob3=>?_
 ·cases hx'
  intro ee
  rcases hw.buf with⟨h1,_⟩ | ⟨g3,c3,cap3,h1,h2,_⟩
  ·rw[h1]at hs';cases hs'
  ·rw[h1]at hs';cases hs'
   rw[<-ee,hq]at h2;cases h2
 ·refine hk h3 s3 ?_
  rw[<-byteCells_app]at ob3
  simpa using ob3
theorem ob_conv {K:Value->Prop} (hw:OB 5 1 h0 bs.length (byteCells bs) h s) (hk:K (.string ⟨bs.toArray⟩)):vConvBS s h K:=by
 rcases hw.buf with⟨rfl,hn,_⟩ | ⟨g,c,cap,rfl,hg,_,hcs,hle,htk⟩
 ·have:bs = []:=List.eq_nil_of_length_eq_zero hn
  subst this
  exact .inl ⟨rfl,hk⟩
 ·exact .inr ⟨g,0,bs.length,cap,c,_,_,bs,rfl,hg,rfl,by simpa using htk,hk⟩
theorem rnumber_ok {v:Int} (h0:0<=v) (h1:v<9223372036854775808) (hR:R (.ret (.string ⟨(encN v.toNat).toArray⟩)) h):ACalls Tryz.prog 47 #[.int .i64 v] h R:=by
 refine ACalls.drop (call47 ?_)
 unfold sh47
 obtain⟨n,rfl⟩:∃n:Nat,v=n:=⟨v.toNat,by omega⟩
 rw[Int.toNat_natCast]at hR
 have ob0:OB 5 1 h 0 (byteCells []) h (.slice none 0 0):=⟨Sub.refl h,rfl,.inl ⟨rfl,rfl,rfl⟩⟩
 have h10:=encN_10 (n:=n) (by omega)
 refine lf_intro (λm s' g=>∃(k:Nat) (bs':List UInt8) (s3:Value),s'=(.int .i64 k,s3)/\m=k/\k<9223372036854775808/\OB 5 1 h bs'.length (byteCells bs') g s3/\bs'++encN k=encN n) n ⟨n,[],_,rfl,rfl,by omega,ob0,rfl⟩ ?_
 rintro m s' g ⟨k,bs',s3,rfl,rfl,hk,hw',he⟩
 have hlen:bs'.length+(encN m).length=(encN n).length:=by rw[<-List.length_append,he]
 unfold b47_2
 simp only[vBin_gtr,dIf_b,decide_eq_true_eq,decide_eq_false_iff_not]
 refine⟨λhge=>?_,λhlt=>?_⟩
 ·have hb:¬m<128:=by omega
  rw[encN_big hb]at he hlen
  rw[vBin_rem _ _ _ _ (by omega)]
  have e2:((m:Int).tmod 128)=((m%128:Nat):Int):=by rw[Int.tmod_eq_emod_of_nonneg (by omega)];omega
  rw[e2]
  simp only[vBin_add,vConvI_i]
  rw[w64 (by omega) (by omega),wrap_u8n (n:=m%128+128) (by omega) (by omega)]
  refine ob_byte hw' (by simp only[List.length_cons]at hlen;omega) λh4 s4 hw4=>?_
  rw[vBin_quo _ _ _ _ (by omega)]
  have e1:((m:Int).tdiv 128)=((m/128:Nat):Int):=by rw[Int.tdiv_eq_ediv_of_nonneg (by omega)];omega
  rw[e1,w64 (by omega) (by omega)]
  exact⟨trivial,m/128,by omega,m/128,_,s4,rfl,rfl,by omega,hw4,by rw[List.append_assoc];exact he⟩
 ·have hb:m<128:=by omega
  intro r hr
  simp only[Prod.mk.injEq]at hr
  obtain⟨r0,r1⟩:=hr
  rw[r0,r1]
  rw[encN_small hb]at he hlen
  simp only[vConvI_i]
  rw[wrap_u8n (n:=m) (by omega) rfl]
  refine ob_byte hw' (by simp only[List.length_cons]at hlen;omega) λh4 s4 hw4=>?_
  rw[he]at hw4
  exact ob_conv hw4 ⟨h,hw4.sub,hR⟩
end
end Go.Pw
