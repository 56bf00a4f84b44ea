/- Texts of this claim, one behind the other. -/
import Derived.Test.YtboeddfdbpjnjaaGreatM8
import Derived.Test.YtboeddfdbpjnjaaGreatM10
import Derived.Test.YtboeddfdbpjnjaaGreatM14
import Derived.Test.YtboeddfdbpjnjaaGreatM16
import Derived.Laws.Cover2
set_option linter.unusedSimpArgs false
set_option linter.unusedVariables false
namespace Go.Pw
open Go Go.Proofs Go.ChangeShapes Go.WideShapes Go.ChangeAt Go.RowKit Go.Deep
theorem He:Tryz.prog.cellsOf 27=10:=by kernel_rfl
theorem Kq:Tryz.prog.cellsOf 25=6:=by kernel_rfl
theorem Nn:Tryz.prog.cellsOf 4=1:=by kernel_rfl
theorem N3:Tryz.prog.cellsOf 23=1:=by kernel_rfl
section
variable {H:Type} {enc:TypeId×Value->H} {w:World} {base:Nat} {spare:Nat->Bool} {held:Bool}
theorem UV {P:Program} {t:TypeId} {k:FloatKind} {a:Nat} {cs:List Value} {x:DataW H×List MemPlace} (c:P.underlying t=some (.float k)) (h:DataW.trod enc P w base spare held a t cs=some x):∃b,cs = [.float k b]/\(Lit.float k b).wf=true:=by
 cases a with
 | zero=>simp[DataW.trod]at h
 | succ n=>
  unfold DataW.trod at h;rw[c]at h
  split at h <;> simp_all
theorem Z0 {α:Type} {l:List α} {o n i:Nat} (hi:i<n):((l.drop o).take n)[i]?=l[o+i]?:=by
 rw[List.getElem?_take,if_pos hi,List.getElem?_drop]
set_option maxRecDepth 100000 in
theorem dI {m:Nat} {cs:List Value} {x:DataW H×List MemPlace} (h:DataW.trod enc Tryz.prog w base spare held m 25 cs=some x):∃a:OpV,cs=a.a.toList/\a.price<18446744073709551616:=by
 obtain⟨j,n,_,_,t,k,g⟩:=DataW.trod_struct Tryz.underlying25 h;rw[Kq]at t;have q:j.length=6:=k
 have c:∀i,i<5->∃a,cs[i]?=some (.int .i64 a):=λi hi=>by
  obtain⟨z,d⟩:∃z,j[i]?=some z:=⟨j[i]'(by omega),Bu (by omega)⟩
  have key:∀f:Field,f.type=3->f.offset=i->DataW.trod enc Tryz.prog w base spare held n f.type (List.take (Tryz.prog.cellsOf f.type) (List.drop f.offset cs))=some z->∃a,cs[i]?=some (.int .i64 a):=λf o p l=>by
   rw[o,KE,p]at l;obtain⟨a,e,_,_⟩:=DataW.trod_int Tryz.underlying3 l;exact⟨a,J5 e⟩
  match i,hi with
  | 0,_=>exact key _ rfl rfl ((g 0 _ rfl).trans d)
  | 1,_=>exact key _ rfl rfl ((g 1 _ rfl).trans d)
  | 2,_=>exact key _ rfl rfl ((g 2 _ rfl).trans d)
  | 3,_=>exact key _ rfl rfl ((g 3 _ rfl).trans d)
  | 4,_=>exact key _ rfl rfl ((g 4 _ rfl).trans d)
 have r:∃b,cs[5]?=some (.float .f64 b)/\b<18446744073709551616:=by
  obtain⟨z,d⟩:∃z,j[5]?=some z:=⟨j[5]'(by omega),Bu (by omega)⟩
  have key:∀f:Field,f.type=23->f.offset=5->DataW.trod enc Tryz.prog w base spare held n f.type (List.take (Tryz.prog.cellsOf f.type) (List.drop f.offset cs))=some z->∃b,cs[5]?=some (.float .f64 b)/\b<18446744073709551616:=λf o p l=>by
   rw[o,N3,p]at l;obtain⟨a,e,s⟩:=UV Tryz.underlying23 l;refine⟨a,J5 e,?_⟩;simp only[Lit.wf,CF]at s;exact s
  exact key _ rfl rfl ((g 5 _ rfl).trans d)
 obtain⟨I,h0⟩:=c 0 (by omega);obtain⟨G,C⟩:=c 1 (by omega);obtain⟨F,B⟩:=c 2 (by omega);obtain⟨E,A⟩:=c 3 (by omega);obtain⟨D,y⟩:=c 4 (by omega);obtain⟨b,v,u⟩:=r;refine⟨⟨I,G,F,E,D,b⟩,?_,u⟩;apply List.ext_getElem?;intro i
 rcases Nat.lt_or_ge i 6 with hi | hi
 ·match i,hi with
  | 0,_=>exact h0
  | 1,_=>exact C
  | 2,_=>exact B
  | 3,_=>exact A
  | 4,_=>exact y
  | 5,_=>exact v
 ·rw[List.getElem?_eq_none (by omega),List.getElem?_eq_none (by simpa [OpV.a]using hi)]
set_option maxRecDepth 100000 in
theorem Yx {r:Nat} {cs:List Value} {x:DataW H×List MemPlace} (h:DataW.trod enc Tryz.prog w base spare held r 27 cs=some x):∃a:Ask,cs=a.a.toList/\a.ok:=by
 obtain⟨g,n,_,_,B,p,q⟩:=DataW.trod_struct Tryz.underlying27 h;rw[He]at B;have v:g.length=5:=p
 have m:∀i,i<2->∃a,cs[i]?=some (.int .i64 a):=λi hi=>by
  obtain⟨z,k⟩:∃z,g[i]?=some z:=⟨g[i]'(by omega),Bu (by omega)⟩
  have key:∀f:Field,f.type=3->f.offset=i->DataW.trod enc Tryz.prog w base spare held n f.type (List.take (Tryz.prog.cellsOf f.type) (List.drop f.offset cs))=some z->∃a,cs[i]?=some (.int .i64 a):=λf l j d=>by
   rw[l,KE,j]at d;obtain⟨a,e,_,_⟩:=DataW.trod_int Tryz.underlying3 d;exact⟨a,J5 e⟩
  match i,hi with
  | 0,_=>exact key _ rfl rfl ((q 0 _ rfl).trans k)
  | 1,_=>exact key _ rfl rfl ((q 1 _ rfl).trans k)
 have u:∃o:OpV,((cs.drop 2).take 6)=o.a.toList/\o.price<18446744073709551616:=by
  obtain⟨z,k⟩:∃z,g[2]?=some z:=⟨g[2]'(by omega),Bu (by omega)⟩
  have key:∀f:Field,f.type=25->f.offset=2->DataW.trod enc Tryz.prog w base spare held n f.type (List.take (Tryz.prog.cellsOf f.type) (List.drop f.offset cs))=some z->∃o:OpV,((cs.drop 2).take 6)=o.a.toList/\o.price<18446744073709551616:=λf l j d=>by
   rw[l,Kq,j]at d;exact dI d
  exact key _ rfl rfl ((q 2 _ rfl).trans k)
 have y:∃b,cs[8]?=some (.bool b):=by
  obtain⟨z,k⟩:∃z,g[3]?=some z:=⟨g[3]'(by omega),Bu (by omega)⟩
  have key:∀f:Field,f.type=4->f.offset=8->DataW.trod enc Tryz.prog w base spare held n f.type (List.take (Tryz.prog.cellsOf f.type) (List.drop f.offset cs))=some z->∃b,cs[8]?=some (.bool b):=λf l j d=>by
   rw[l,Nn,j]at d;obtain⟨a,e,_⟩:=DataW.trod_bool Tryz.underlying4 d;exact⟨a,J5 e⟩
  exact key _ rfl rfl ((q 3 _ rfl).trans k)
 have t:∃s,cs[9]?=some (.string s):=by
  obtain⟨z,k⟩:∃z,g[4]?=some z:=⟨g[4]'(by omega),Bu (by omega)⟩
  have key:∀f:Field,f.type=9->f.offset=9->DataW.trod enc Tryz.prog w base spare held n f.type (List.take (Tryz.prog.cellsOf f.type) (List.drop f.offset cs))=some z->∃a,cs[9]?=some (.string a):=λf l j d=>by
   rw[l,M6,j]at d;obtain⟨a,e,_,_⟩:=DataW.trod_string Tryz.underlying9 d;exact⟨a,J5 e⟩
  exact key _ rfl rfl ((q 4 _ rfl).trans k)
 obtain⟨G,h0⟩:=m 0 (by omega);obtain⟨F,E⟩:=m 1 (by omega);obtain⟨o,j,A⟩:=u;obtain⟨b,D⟩:=y;obtain⟨s,C⟩:=t
 have c:∀i,i<6->cs[2+i]?=o.a[i]?:=λi hi=>by
  rw[<-Z0 (n:=6) hi,j,Array.getElem?_toList]
 refine⟨⟨G,F,o,b,s⟩,?_,A⟩;apply List.ext_getElem?;intro i
 rcases Nat.lt_or_ge i 10 with hi | hi
 ·match i,hi with
  | 0,_=>exact h0
  | 1,_=>exact E
  | 2,_=>exact c 0 (by omega)
  | 3,_=>exact c 1 (by omega)
  | 4,_=>exact c 2 (by omega)
  | 5,_=>exact c 3 (by omega)
  | 6,_=>exact c 4 (by omega)
  | 7,_=>exact c 5 (by omega)
  | 8,_=>exact D
  | 9,_=>exact C
 ·rw[List.getElem?_eq_none (by omega),List.getElem?_eq_none (by simpa [Ask.a]using hi)]
instance:Inhabited Ask:=⟨⟨0,0,op0,false,⟨#[]⟩⟩⟩
set_option maxRecDepth 100000 in
theorem Xk {v:Value} {d:DataW H} {p:List MemPlace} {r:Reach} {K:Nat} {C:Nat->Bool} (E:Value.okWide Tryz.prog w r K 22 v) (h:DataW.Trod enc Tryz.prog w base C held 22 v d p) :
  ∃l:List Ask,Hv (Mn w) v l/\∀a∈l,a.ok:=by
 obtain⟨N,len,cap,rfl⟩:=okWide_slice Tryz.underlying22 E;obtain⟨A,J⟩:=h
 rcases open_slice Tryz.underlying22 J with⟨g,f⟩ | ⟨a,u,B,m,n,D,O,g,_,G,L,o,f,j⟩
 ·simp only[Value.cells,Array.toList]at g
  injection g with h1 _
  injection h1 with h1 h2 h3
  subst h1 h2 h3;exact⟨[],⟨none,0,rfl,Nat.le_refl _,λi a h=>by cases h⟩,λa h=>by cases h⟩
 ·simp only[Value.cells,Array.toList]at g
  injection g with h1 _
  injection h1 with h1 h2 h3
  subst h1 h2 h3;have hm':len<=m:=by rw[o];split <;> omega
  by_cases q:len=0
  ·subst q
   exact⟨[],⟨some a,cap,rfl,Nat.zero_le _,λi a h=>by cases h⟩,λa h=>by cases h⟩
  obtain⟨b,off,rfl⟩:∃b off,a=⟨b,off,none⟩:=by
   obtain⟨s,k,z⟩:=j 0 (by omega);rw[He]at k;obtain⟨b,off,c,e,fr,q1,q2,q3,q4⟩:=To (by omega) k;rw[show a.add (0*10)=a by simp[Addr.add]]at q1;exact⟨b,off,q1⟩
  have one:∀i,i<len->∃x:Ask,(∃c e fr,Mn w b=some (.cells c e fr)/\off+i*10+10<=c.size/\c.extract (off+i*10) (off+i*10+10)=x.a)/\x.ok:=λi hi=>by
   obtain⟨s,k,z⟩:=j i (by omega);rw[He,add_lit]at k;obtain⟨x,f,I⟩:=Yx z;obtain⟨M,t,c,e,fr,q1,q2,q3,q4⟩:=To (by omega) k;simp only[Addr.mk.injEq]at q1;obtain⟨rfl,rfl,_⟩:=q1;exact⟨x,⟨c,e,fr,q2,q3,Array.toList_inj.1 (q4.trans f)⟩,I⟩
  obtain⟨F,y⟩:=choose_lt one;refine⟨(List.range len).map F,⟨some ⟨b,off,none⟩,cap,by simp,by simpa using G,λi x f=>?_⟩,λx f=>?_⟩
  ·rw[List.getElem?_map]at f
   by_cases hi:i<len
   ·rw[List.getElem?_range hi]at f
    cases f;obtain⟨⟨c,e,fr,q2,q3,q4⟩,_⟩:=y i hi;exact⟨b,off,c,e,fr,rfl,q2,q3,q4⟩
   ·rw[List.getElem?_eq_none (by simp;omega)]at f
    cases f
  ·obtain⟨i,hi,rfl⟩:=List.mem_map.1 f
   exact (y i (List.mem_range.1 hi)).2
end
open Go Go.Proofs
theorem bK (a b:List Int):C9 (a++b)=C9 a++C9 b:=by simp[C9]
structure Auc.pre (A:Auc):Prop where
 sup:1<=A.sup/\A.sup<=1048576
 sta:0<=A.sta/\A.sta<=1099511627776
 stp:1<=A.stp/\A.stp<=1099511627776
 rnd:0<=A.rnd/\A.rnd<=9007199254740992
 ste:0<=A.ste/\A.ste<=9007199254740992
 n:1<=A.n/\A.n<=16
 was:∀i,i<A.n->0<=A.was i/\A.was i<=9007199254740992
 now:∀i,i<A.n->0<=A.now i/\A.now i<=9007199254740992
section
variable {h g:PH} {qh ql n gd x:Nat} {hd:Nat->Int} {lk:Nat->Nat->Int} {so:Value} {l:List Ord} {nm:Nm} {S:Hs}
theorem qu {o:Ord} (h:B0 o=true):0<=o.pr*o.am/\o.pr*o.am<=1152921504606846976:=by
 have:=Am.1 h
 constructor
 ·exact Int.mul_nonneg (by omega) (by omega)
 ·have a:o.pr*o.am<=1099511627776*o.am:=Int.mul_le_mul_of_nonneg_right (by omega) (by omega)
  omega
end
section
variable {h g:PH} {R:RT} {qh ql n gd x:Nat} {hd:Nat->Int} {lk:Nat->Nat->Int} {so:Value} {l:List Ord} {nm:Nm} {S:Hs}
end
structure Hs.pre (S:Hs):Prop where
 led:Inv S.L
 n1:1<=S.L.n
 bk:∀i,i<S.G->(S.bk i).ok
 au:∀i A w,i<S.G->S.au i=some (A,w)->A.ok/\0<=w/\w<S.L.n
 now:0<=S.now/\S.now<=9007199254740992
theorem Hs.pre.g {S:Hs} (h:S.pre):S.L.goods=S.G/\1<=S.G/\S.G<=4:=by
 have b:=h.led.g0;have a:=h.led.gd;unfold Hs.G;omega
section
variable {h g:PH} {qh ql n gd x d:Nat} {hd:Nat->Int} {lk:Nat->Nat->Int} {nm:Nm} {S:Hs}
theorem Wx {i g:Nat} (a:S.pre) (b:g<S.G):0<=auW S i g/\auW S i g<=1152921504606846976:=by
 unfold auW;cases h:S.au g with
 | none=>simp
 | some p=>
  obtain⟨A,w⟩:=p;exact Dr (a.au g A w b h).1 i
theorem Y5 {i g:Nat} (a:S.pre) (b:g<S.G):0<=CM S i g:=by
 have j:=Cg (f:=DB i) (l:=(S.bk g).l) λo c=>Ga ((a.bk g b).right o c);have e:=Wx (i:=i) a b;unfold CM;omega
end
structure rM (c g:Nat) (l:List Rec) (T:Hs):Prop where
 ok:T.ok
 snd:Snd T
 zer:Zer T.L
 mute:Qz T.L
 n:T.L.n=c
 g:T.L.goods=g
 recs:Im T=l
theorem rM.G {c g:Nat} {l:List Rec} {T:Hs} (h:rM c g l T):T.G=g:=by unfold Hs.G;rw[h.g];rfl
section
variable {h g:PH} {R:RT}
theorem Hv.ld {v:Value} {l:List Ask} (k:Hv h v l) {i:Nat} {a:Ask} (j:l[i]?=some a) {K:Value->Prop} (n:K a.v):AR 10 v (.int .i64 i) λt=>A0 (some 10) t h K:=by
 obtain⟨p,cap,rfl,f,d⟩:=k;obtain⟨b,off,c,e,fr,rfl,q,m,o⟩:=d i a j;have hi:=(Bc.1 j).1;rw[B9,show off+(i:Int).toNat*10=off+i*10 by omega,AI q m,o];exact⟨by omega,by omega,n⟩
theorem Hv.len {v:Value} {l:List Ask} (a:Hv h v l) {K:Value->Prop}:Ap v K↔K (.int .i64 l.length):=by
 obtain⟨p,cap,rfl,_⟩:=a;exact BQ _ _ _
end
section
variable {h g:PH} {R:RT} {e:TypeId} {esz n:Nat} {s:Value} {l:List Value} {C:PH->Prop} {x:Nat} {nm:Nm} {S:Hs}
theorem QN {j:Nat} {v:Value} (H:(OS e esz s n l•C) h) (D:j<n*esz) (A:v.oneCell'=true):∃b cap,s = .slice (some ⟨b,0,none⟩) n cap/\∀K:PH->Prop,(∀y,(OS e esz s n (l.set j v)•C) y->K y)->A9 1 (.pointer (some ⟨b,j,none⟩)) v h K:=by
 obtain⟨E,w,d,r,z,o,c⟩:=H
 rcases o.buf with⟨_,F,_⟩ | ⟨b,G,cap,rfl,u,q,f,m⟩
 ·rw[F,Nat.zero_mul]at D;omega
 ·have t:n*esz<=cap*esz:=Nat.mul_le_mul_right _ f
  have i:w b=none:=d b (by rw[u];simp);refine⟨b,cap,rfl,λK B=>(Aw (r _ _ u) (by omega) A).2 (B _ ?_)⟩;refine⟨ins E b (.cells (G.setIfInBounds j v) e (0,0)),w,λx a=>?_,r.both,λx p a=>?_,⟨by rw[List.length_set];exact o.len,.inr ⟨b,_,cap,rfl,AD _ _ _,by rw[Array.size_setIfInBounds];exact q,f,?_⟩⟩,c⟩
  ·by_cases k:x=b
   ·subst k;exact i
   ·rw[Aq _ _ k]at a;exact d x a
  ·rw[Aq _ _ (λk=>by rw[k,i]at a;cases a)];exact z _ _ a
  ·rw[Array.toList_setIfInBounds,List.take_set,m]
set_option maxRecDepth 100000 in
theorem eR {K:Value->Prop} (o:Ord):A6 Tryz.prog .neq 78 o.v o.v K↔K (.bool false):=by
 refine Km λx y w=>?_;have k:=Tryz.underlying3;have v:=Tryz.isAgg3;have i:=Tryz.sizeOf3;have j:=Tryz.underlying4;have ab:=Tryz.isAgg4;have f:=Tryz.sizeOf4;have d:Tryz.prog.underlying 78=some (.struct (Tryz.prog.fieldsOf 78)):=by kernel_rfl
 have b:Tryz.prog.stoodInHeld 78=false:=by kernel_rfl
 have a:=run_eqGuard_agg (P:=Tryz.prog) w .neq 78 x y o.a o.a (by kernel_rfl);have u:o.a[0]?=some (.int .i64 o.id):=rfl;have t:o.a[1]?=some (.int .i64 o.own):=rfl;have r:o.a[2]?=some (.int .i64 o.pr):=rfl;have q:o.a[3]?=some (.int .i64 o.am):=rfl;have p:o.a[4]?=some (.int .i64 o.pl):=rfl;have m:o.a[5]?=some (.bool o.buys):=rfl
 have c:(Op.equalIn 10000 78 (.agg o.a) (.agg o.a)).run Tryz.prog w = .ok true w:=by
  rw[show (10000:Nat)=9999+1 from rfl,run_equalIn_agg w 9999 78 _ _ d b];simp only[Program.fieldsOf,Tryz.underlying78];clear a
  go_simp
 rw[Sem.run_bind,a];show (binOp .neq 78 _ _).run Tryz.prog w=_;rw[run_neq_struct,c]
 rfl
end
def YI (p:Nat):Nat:=if p=0 then 0 else p+1
def BZ (L:Led) (i p:Nat) (n:Int):Led:=L.set i (YI p) (Ay L i p+n)
theorem RA (L:Led) (i c:Nat) (v:Int) (a b:Nat):(L.set i c v).f a b=if a=i/\b=c then v else L.f a b:=rfl
theorem Tn {L:Led} {i p:Nat} {n:Int} (g:p<5) (a:Nat):(if a=i then (clC L i).set p (.int .i64 (Ay L i p+n))else clC L a)=clC (BZ L i p n) a:=by
 have b:∀q,q<5->Ay (BZ L i p n) a q=if a=i/\q=p then Ay L i p+n else Ay L a q:=λq j=>by
  unfold Ay BZ;rw[RA];unfold Ay YI
  by_cases e:a=i/\q=p
  ·rw[if_pos e,if_pos ⟨e.1,by rw[e.2]⟩]
  ·rw[if_neg e,if_neg]
   intro h;refine e ⟨h.1,?_⟩;have d:=h.2
   split at d <;> split at d <;> omega
 have c:(BZ L i p n).f a 10=L.f a 10:=by
  unfold BZ;rw[RA,if_neg];rintro⟨_,h⟩;unfold YI at h;split at h <;> omega
 have f:(BZ L i p n).r a=L.r a:=rfl;unfold clC;rw[b 0 (by omega),b 1 (by omega),b 2 (by omega),b 3 (by omega),b 4 (by omega),c,f]
 by_cases e:a=i
 ·subst e
  rw[if_pos rfl]
  match p,g with
  | 0,_=>simp
  | 1,_=>simp
  | 2,_=>simp
  | 3,_=>simp
  | 4,_=>simp
 ·simp[e]
section
variable {h g:PH} {R:RT} {C:PH->Prop} {S:Hs} {Lv Bv Sv:Value} {bs ss:Nat->Value}
theorem RHp.has (H:RHp h S Lv Bv Sv bs ss) {i p:Nat} (hi:i<S.L.n) (d:p<5):∃b o,(∀K,AR 7 Lv (.int .i64 i) K↔K (.pointer (some ⟨b,o,none⟩)))/\(∀K,Cp 5 1 (.pointer (some ⟨b,o,none⟩)) (.int .i64 p) K↔K (.pointer (some ⟨b,o+p,none⟩))) /\
  ∀G,Sub h G->∀K,A0 none (.pointer (some ⟨b,o+p,none⟩)) G K↔K (.int .i64 (Ay S.L i p)):=by
 obtain⟨b,o,f,e⟩:=H.L.el hi;refine⟨b,o,f,λK=>?_,λG c K=>(e G c).1 p _ (by omega) ?_ K⟩
 ·rw[EX,BR,Nat.mul_one]
  exact⟨λa=>a.2.2,λa=>⟨by omega,by omega,a⟩⟩
 ·rw[C4 (Ft S.L) _ _ _ hi (by omega)]
  exact Wo d
theorem XR {p:Nat} (H:RHp h S Lv Bv Sv bs ss) (v:p<5) (D:S.L.n<=16) (n:∀i,i<S.L.n->0<=Ay S.L i p/\Ay S.L i p<=1099511627776) (x:R (.ret (.int .i64 (AS (λi=>Ay S.L i p) S.L.n))) h) :
  A7 Tryz.prog 124 #[.agg (rhA S.L.goods S.now Lv Bv Sv),.int .i64 p] h R:=by
 refine A7.drop (im ?_);unfold l8 eXW ivW pnW;rw[show Value.cells (.agg (rhA S.L.goods S.now Lv Bv Sv))=rhA S.L.goods S.now Lv Bv Sv from rfl];refine Ai λc G F l f=>?_;have q:=H.sub l;have t:=λK=>A5 (K:=K) f (show (rhA S.L.goods S.now Lv Bv Sv)[2]?=some Lv from rfl);refine AL (λm j g=>∃i:Nat,j=(.int .i64 (AS (λi=>Ay S.L i p) i),.int .i64 i)/\m=S.L.n-i/\i<=S.L.n/\g=G) S.L.n ⟨0,rfl,rfl,by omega,rfl⟩ ?_;rintro m j g ⟨i,rfl,rfl,hi,rfl⟩;unfold Ve ivW;simp only[AH,Ad,t,q.L.lens];have B:=Ib (g:=λi=>Ay S.L i p) (M:=1099511627776) (by omega) i (λk E=>n k (by omega));have s:(i:Int)*1099511627776<=16*1099511627776:=Int.mul_le_mul_of_nonneg_right (by omega) (by omega)
 by_cases a:i<S.L.n
 ·have d:(i:Int)<(S.L.n:Int):=by omega
  simp only[AC,d,B6,AB];refine nT ?_;obtain⟨b,o,A,z,y⟩:=q.has a v;have w:=n i a;rw[A,AH,Nat.add_zero,z,y _ (Sub.refl _)];simp only[AG];rw[w64 (by omega) (by omega),w64 (by omega) (by omega)];exact⟨by trivial,S.L.n-(i+1),by omega,i+1,rfl,rfl,by omega,by trivial⟩
 ·have e:i=S.L.n:=by omega
  subst e;simp only[AC,AB];refine nF ?_;intro r u;rw[show r 5=_ from u];exact⟨h,l,x⟩
theorem O4 {i p:Nat} {n:Int} (H:RHp h S Lv Bv Sv bs ss) (hi:i<S.L.n) (N:p<5) (hn:S.L.n<=16) (hG:S.G<=4) (Z:-9223372036854775808<=Ay S.L i p+n/\Ay S.L i p+n<=9223372036854775807)
  (hR:∀g v,Sub h g->RH g v (S.setL (BZ S.L i p n))->R (.ret v) g) :
  A7 Tryz.prog 125 #[.agg (rhA S.L.goods S.now Lv Bv Sv),.int .i64 i,.int .i64 p,.int .i64 n] h R:=by
 refine il ?_;unfold ky Xw zq1 pnW;rw[show Value.cells (.agg (rhA S.L.goods S.now Lv Bv Sv))=rhA S.L.goods S.now Lv Bv Sv from rfl];refine Ai λt4 r _ m k1=>?_;refine AX λt8 h8=>?_;have E:(pt t8 (rhO 0 0 (.slice none 0 0) (.slice none 0 0) (.slice none 0 0))•Own r) (ins r t8 (rhO 0 0 (.slice none 0 0) (.slice none 0 0) (.slice none 0 0))):=Ar h8 (Sub.refl r);revert E;generalize ins r t8 (rhO 0 0 (.slice none 0 0) (.slice none 0 0) (.slice none 0 0))=g2;intro E;have U:Sub r g2:=AF Own.mono E;rw[AI (U _ _ k1) (off:=0) (n:=5) (by show 0+5<=5;omega),show (rhA S.L.goods S.now Lv Bv Sv).extract 0 (0+5)=rhA S.L.goods S.now Lv Bv Sv from rfl];have f:=H.sub (m.trans U);refine O9 f.L f.B f.A (by omega) (by omega) (by omega) λg3 c e d z=>?_;simp only[AK.elim];refine AX λt9 h9=>?_;have W:=BL (AJ OS.mono z);have X:=BL (AJ OS.mono (AF (A8 _ _) z));have Y:=BL (AJ OS.mono (AF (A8 _ _) (AF (A8 _ _) z)));refine AN (cs:=rhA S.L.goods S.now c e d) (AD _ _ _) (by rfl) (by rfl) (by simp[rhA,W,X,Y];exact⟨rfl,rfl⟩) ?_;rw[An];have H3':=AU z (λ_ h=>h) λ_ h=>AU h (λ_ h=>h) λ_ h=>AU h (λ_ h=>h) λ_ hs=>EF E hs;have k:=Ar (o:=rhO S.L.goods S.now c e d) h9 H3';revert k;generalize ins g3 t9 (rhO S.L.goods S.now c e d)=g4;intro k;have k9:g4 t9=some (rhO S.L.goods S.now c e d):=AM k;have l2:=λK=>A5 (K:=K) k9 (show (rhA S.L.goods S.now c e d)[2]?=some c from rfl);simp only[AH,Ad,l2];have e4:∀s A B D t Q:PH->Prop,s•A•B•D•t•Q=A•(B•D•s•t•Q):=λ_ _ _ _ _ _=>by ac_rfl
 rw[e4]at k;have c1:∀x∈BU (clC S.L) S.L.n,x.oneCell'=true:=H.L.one;have q:=CC (AJ OS.mono k) c1;obtain⟨b,o,q1,q2⟩:=q.el hi;obtain⟨b2,cap2,M,L⟩:=QN (j:=i*7+p) (v:=.int .i64 (Ay S.L i p+n)) k (by omega) rfl
 have T:b=b2/\o=i*7:=by
  have:=(q1 (λv=>v = .pointer (some ⟨b,o,none⟩))).2 rfl;rw[M,B9]at this;have h3:=this.2.2;simp only[Value.pointer.injEq,Option.some.injEq,Addr.mk.injEq]at h3;omega
 obtain⟨rfl,rfl⟩:=T
 have l:∀K,Cp 5 1 (.pointer (some ⟨b,i*7,none⟩)) (.int .i64 p) K↔K (.pointer (some ⟨b,i*7+p,none⟩)):=λK=>by
  rw[EX,BR,Nat.mul_one];exact⟨λO=>O.2.2,λO=>⟨by omega,by omega,O⟩⟩
 have G:=(q2 g4 (Sub.refl g4)).1 p (.int .i64 (Ay S.L i p)) (by omega) (by rw[C4 (Ft S.L) _ _ _ hi (by omega)];exact Wo N);rw[q1,AH,Nat.add_zero,l,G,AG,w64 Z.1 Z.2,q1,AH,Nat.add_zero,l];refine L _ λg5 y=>?_;rw[QF (Ft S.L) hi (by omega)]at y;have e5:∀A B D s t Q:PH->Prop,A•(B•D•s•t•Q)=s•t•(A•B•D•Q):=λ_ _ _ _ _ _=>by ac_rfl
 rw[e5]at y;have I:g5 t9=some (rhO S.L.goods S.now c e d):=AM y;rw[AI I (off:=0) (n:=5) (by show 0+5<=5;omega),show (rhA S.L.goods S.now c e d).extract 0 (0+5)=rhA S.L.goods S.now c e d from rfl];have H6:=AF (A8 _ _) y;refine AN (cs:=rhA S.L.goods S.now c e d) (AM H6) (by rfl) (by rfl) (by simp[rhA,W,X,Y];exact⟨rfl,rfl⟩) ?_;have H7:=Bb (p:=rhO S.L.goods S.now c e d) H6;rw[AI (AD _ _ _) (off:=0) (n:=5) (by show 0+5<=5;omega),show (rhA S.L.goods S.now c e d).extract 0 (0+5)=rhA S.L.goods S.now c e d from rfl];have u:=AF (A8 _ _) H7;have F:Sub h _:=m.trans (AF Own.mono (AF (A8 _ _) (AF (A8 _ _) u)));refine hR _ _ F ⟨c,e,d,bs,ss,rfl,?_,?_,?_,λg P=>(H.b g P).sub F,λg A w P ha=>(H.a g A w P ha).sub F⟩
 ·have V:=CC (AJ OS.mono u) (QH λa x J=>by
   rw[Tn N]at J;simp only[clC,List.mem_cons,List.not_mem_nil,or_false]at J
   rcases J with rfl | rfl | rfl | rfl | rfl | rfl | rfl <;> rfl)
  rw[G7 (g:=clC (BZ S.L i p n)) λa _=>Tn N a]at V;exact V
 ·exact CC (AJ OS.mono (AF (A8 _ _) u)) H.B.one
 ·exact CC (AJ OS.mono (AF (A8 _ _) (AF (A8 _ _) u))) H.A.one
end
abbrev raA (A:Auc) (v:Value):Array Value:=#[.int .i64 A.sup,.int .i64 A.sta,.int .i64 A.stp,.int .i64 A.ste,v]
theorem G8 {f:Nat->Int} {n i:Nat} (hi:i<n):(D5 f n)[i]?=some (.int .i64 (f i)):=by
 unfold D5;rw[List.getElem?_map,List.getElem?_range hi];rfl
section
variable {h g:PH} {R:RT} {A:Auc} {rv:Value}
theorem EW (H:Dl h rv A) (m:A.ok) (n:∀s,BG h s 1 A.n (D5 A.now A.n)->R (.ret s) h):A7 Tryz.prog 138 #[.agg (raA A rv)] h R:=by
 refine A7.drop (Wq ?_);unfold ZA ivW;rw[show Value.cells (.agg (raA A rv))=raA A rv from rfl];refine Ai λc G _ j a=>?_;obtain⟨k,f,e,d,l,p⟩:=H;have q:=m.rndB;simp only[AH,Ad];rw[A5 a (v:=rv) rfl,A5 a (v:=rv) rfl,d.lens,Ao,w64 (by omega) (by omega)];obtain⟨b,o,q1,q2⟩:=(d.sub j).ptr1 (i:=k) (x:=f k) (by omega) (by rw[List.getElem?_map,List.getElem?_range (by omega)];rfl);rw[show ((k+1:Nat):Int)-1=(k:Int)by omega,q1,q2 G (Sub.refl G)];exact⟨h,j,n _ l⟩
theorem LA {i:Nat} (H:Dl h rv A) (m:A.ok) (hi:i<A.n) (j:R (.ret (.int .i64 (A.was i))) h):A7 Tryz.prog 139 #[.agg (raA A rv),.int .i64 i] h R:=by
 refine A7.drop (iR ?_);unfold kh ivW;rw[show Value.cells (.agg (raA A rv))=raA A rv from rfl];refine Ai λc G _ a d=>?_;obtain⟨k,f,e,l,s,n⟩:=H;have u:=m.rndB;have p:=λK=>A5 (K:=K) d (show (raA A rv)[4]?=some rv from rfl);simp only[AH,Ad,p,l.lens,AC,AB,CF,D9];refine⟨λq=>?_,λr=>?_⟩
 ·have h0:=m.one (by omega) i hi
  rw[h0]at j;exact⟨h,a,j⟩
 ·rw[Ao,w64 (by omega) (by omega)]
  obtain⟨b,o,q1,q2⟩:=(l.sub a).ptr1 (i:=k-1) (x:=f (k-1)) (by omega) (by rw[List.getElem?_map,List.getElem?_range (by omega)];rfl);rw[show ((k+1:Nat):Int)-2=((k-1:Nat):Int)by omega,q1,q2 G (Sub.refl G)];obtain⟨b2,t,q3,q4⟩:=((n (by omega)).sub a).ptr1 hi (G8 hi);rw[q3,q4 G (Sub.refl G)];exact⟨h,a,j⟩
theorem IB (H:Dl h rv A) (b:A.ok) (d:R (.ret (.int .i64 A.price)) h):A7 Tryz.prog 161 #[.agg (raA A rv)] h R:=by
 refine A7.drop (hU ?_);unfold kK ivW;rw[show Value.cells (.agg (raA A rv))=raA A rv from rfl];refine Ai λc G _ l a=>?_;obtain⟨k,f,e,j,o,n⟩:=H;have p:=b.rndB;have m:=b.mulB;have i:=b.priceB;have r:=b.sta;have q:=b.stp;unfold Auc.price at i d;rw[show A.rnd-1=(k:Int)by omega]at m i d;simp only[AH,Ad];rw[A5 a (v:=.int .i64 A.sta) rfl,A5 a (v:=rv) rfl,j.lens,Ao,w64 (by omega) (by omega),show ((k+1:Nat):Int)-1=(k:Int)by omega,A5 a (v:=.int .i64 A.stp) rfl];rw[CG,w64 (by omega) (by omega),AG,w64 (by omega) (by omega)];exact⟨h,l,d⟩
theorem ZP (H:Dl h rv A) (d:A.ok) (b:R (.ret (.int .i64 A.last)) h):A7 Tryz.prog 167 #[.agg (raA A rv)] h R:=by
 refine A7.drop (gx ?_);unfold kE ivW pnW;rw[show Value.cells (.agg (raA A rv))=raA A rv from rfl];refine Ai λc G _ i a=>?_;have H':=H;obtain⟨k,f,e,l,r,q⟩:=H;have t:=d.rndB;have s:=d.priceB;have u:=d.stp;unfold Auc.last at b;have m:=λK=>A5 (K:=K) a (show (raA A rv)[4]?=some rv from rfl);have j:=λK=>A5 (K:=K) a (show (raA A rv)[2]?=some (.int .i64 A.stp)from rfl);simp only[AH,Ad,m,l.lens,AC,AB,CF,D9];refine⟨λo=>?_,λp=>?_⟩
 ·rw[if_pos (by omega)]at b
  exact⟨h,i,b⟩
 ·rw[if_neg (by omega)]at b
  rw[AI a (off:=0) (n:=5) (by show 0+5<=5;omega),show (raA A rv).extract 0 (0+5)=raA A rv from rfl,j];refine IB (H'.sub i) d ?_;simp only[AK.elim,j,Ao];rw[w64 (by omega) (by omega)];exact⟨by trivial,h,i,b⟩
theorem NR {v:Value} {n:Nat} {f:Nat->Int} (H:BG h v 1 n (D5 f n)) (w:n<=16) (d:∀i,i<n->0<=f i/\f i<=1099511627776) (t:R (.ret (.int .i64 (AS f n))) h):A7 Tryz.prog 182 #[v] h R:=by
 refine gW ?_;unfold js eXW ivW pnW;refine AL (λm c g=>∃i:Nat,c=(.int .i64 (AS f i),.int .i64 i)/\m=n-i/\i<=n/\g=h) n ⟨0,rfl,rfl,by omega,rfl⟩ ?_;rintro m c g ⟨i,rfl,rfl,hi,rfl⟩;unfold Vd ivW;have u:=Ib (g:=f) (M:=1099511627776) (by omega) i (λk x=>d k (by omega));have j:(i:Int)*1099511627776<=16*1099511627776:=Int.mul_le_mul_of_nonneg_right (by omega) (by omega);simp only[H.lens,AC,AB,CF,D9];refine⟨λp=>?_,λq=>?_⟩
 ·have a:i<n:=by omega
  obtain⟨b,o,q1,q2⟩:=H.ptr1 a (G8 a);have s:=d i a;rw[q1,q2 _ (Sub.refl _)];simp only[AG];rw[w64 (by omega) (by omega),w64 (by omega) (by omega)];exact⟨by trivial,n-(i+1),by omega,i+1,rfl,rfl,by omega,by trivial⟩
 ·have e:i=n:=by omega
  subst e;intro r l;rw[show r 3=_ from l];exact t
theorem Ss {i:Nat} {w:Value} (H:Dl h rv A) (a:A.ok) (hi:i<A.n) (u:R (.ret (.int .i64 (Ae A i))) h) :
  A7 Tryz.prog 135 #[.agg #[.bool true,w,.int .i64 A.sup,.int .i64 A.sta,.int .i64 A.stp,.int .i64 A.ste,rv],.int .i64 i] h R:=by
 refine A7.drop (iU ?_);unfold km pnW;rw[show Value.cells (.agg #[.bool true,w,.int .i64 A.sup,.int .i64 A.sta,.int .i64 A.stp,.int .i64 A.ste,rv])=#[.bool true,w,.int .i64 A.sup,.int .i64 A.sta,.int .i64 A.stp,.int .i64 A.ste,rv]from rfl];refine Ai λc G _ t r=>?_
 have d:∀K,A0 (some 5) (.pointer (some ⟨c,2,none⟩)) G K↔K (.agg (raA A rv)):=λK=>by
  rw[AI r (off:=2) (n:=5) (by show 2+5<=7;omega)];rfl
 simp only[AH,Ad,d];have f:=H.sub t;have j:B4 A (i:Int)=(A.was i,A.now i):=by unfold B4;rw[if_neg (by omega),BR]
 have k:=a.was i hi;have p:=a.now i hi;have q:=Jf a;have m:=a.priceB;have x:=Dc (B:=1099511627776) k q;have v:=Dc (B:=1099511627776) p m;refine LA f a hi ?_;simp only[AK.elim,d];refine⟨trivial,trivial,trivial,?_⟩;refine ZP f a ?_;simp only[AK.elim,d];refine⟨trivial,trivial,?_⟩;rw[CG,w64 (by omega) (by omega)];refine EW f a λs l=>?_;simp only[AK.elim,d];refine⟨trivial,?_⟩;obtain⟨b,o,q1,q2⟩:=l.ptr1 hi (G8 hi);rw[q1,q2 G (Sub.refl G)];refine IB f a ?_;simp only[AK.elim];rw[q2 G (Sub.refl G)];refine⟨rfl,?_⟩;rw[CG,w64 (by omega) (by omega),E7]
 have e:(if (if true then A.now i*A.price>A.was i*A.last else A.now i*A.price<A.was i*A.last)then A.now i*A.price else A.was i*A.last)=Ae A i:=by
  unfold Ae;rw[j];simp only[if_true]
  split <;> omega
 rw[e];exact⟨h,t,u⟩
end
def EA (i p g:Nat) (o:Ord):Int:=if p=0 then DB i o else if p=g+1 then Bz i o else 0
def DM (S:Hs) (i p g:Nat):Int:=if p=0 then CM S i g else if p=g+1 then DV S i g else 0
def Ez (S:Hs) (i p:Nat):Int:=AS (DM S i p) S.G
section
variable {h g:PH} {R:RT} {S:Hs} {Lv Bv Sv:Value} {bs ss:Nat->Value}
theorem WK {i p g:Nat} {o:Ord} (a:B0 o=true):0<=EA i p g o:=by
 unfold EA
 split
 ·exact Ga a
 ·split
  ·exact I8 a
  ·omega
theorem VJ {i p gd k:Nat} {o:Ord} {l:List Ord} {B c:Value} {n:Int} {Kp:KP} {x2:V5->PH->Prop} {D:V5->V2->PH->Prop}
  (H:BG g B 6 l.length (ordsC l)) (F:l[k]?=some o) (T:l.length<=1000) (M:gd<4) (E:B0 o=true) (hi:i<16) (O:p<5) (P:0<=n) (I:n+EA i p gd o<=4611686018427387904)
  (d:D (.int .i64 i,.int .i64 p,c,.int .i64 gd,B) (.int .i64 (n+EA i p gd o),.int .i64 ((k:Int)+1)) g) :
  Qs Kp x2 (.int .i64 i,.int .i64 p,c,.int .i64 gd,B) D (.int .i64 n,.int .i64 k) g:=by
 unfold Qs gAW gGW ivW;have y:k<l.length:=(Bc.1 F).1;have w:(k:Int)<(l.length:Int):=by omega
 simp only[H.lens,AC,w,B6,AB];refine nT ?_;obtain⟨b,off,q1,q2⟩:=H.el y;have t:=λj x (G:j<6) hx=>(q2 g (Sub.refl g)).1 j x G ((Ex l k o F j G).trans hx);have m:=t 1 (.int .i64 o.own) (by omega) rfl;have K:=t 2 (.int .i64 o.pr) (by omega) rfl;have C:=t 3 (.int .i64 o.am) (by omega) rfl;have r:=t 5 (.bool o.buys) (by omega) rfl;have q:IntKind.i64.wrap ((k:Int)+1)=(k:Int)+1:=w64 (by omega) (by omega);have s:IntKind.i64.wrap (1+(gd:Int))=1+(gd:Int):=w64 (by omega) (by omega);have N:=Am.1 E;have Q:=qu E;have L:IntKind.i64.wrap (o.pr*o.am)=o.pr*o.am:=w64 (by omega) (by omega)
 by_cases f:o.own=(i:Int)
 case' neg=>
  have e:EA i p gd o=0:=by
   have A:DB i o=0:=by unfold DB;rw[if_neg (λh=>f h.1)]
   have z:Bz i o=0:=by unfold Bz;rw[if_neg (λh=>f h.1)]
   unfold EA;rw[A,z]
   split
   ·rfl
   ·split <;> rfl
  rw[e,Int.add_zero]at d;simp[-B9,q1,m,f,q,d]
 cases a:o.buys with
 | true=>
  have z:Bz i o=0:=by unfold Bz;rw[a];simp
  by_cases u:p=0
  ·have e:EA i p gd o=o.pr*o.am:=by unfold EA DB;rw[if_pos u,if_pos ⟨f,a⟩]
   rw[e]at d I;have v:IntKind.i64.wrap (n+o.pr*o.am)=n+o.pr*o.am:=w64 (by omega) (by omega);subst u;simp[-B9,q1,m,f,r,a,K,C,q,L,v,s];exact d
  ·have e:EA i p gd o=0:=by
    unfold EA;rw[if_neg u,z];split <;> rfl
   rw[e,Int.add_zero]at d;have c2':¬(p:Int)=0:=by omega
   simp[-B9,q1,m,f,r,a,u,c2',q,s,d]
 | false=>
  have A:DB i o=0:=by unfold DB;rw[a];simp
  by_cases J:p=gd+1
  ·have e:EA i p gd o=o.am:=by unfold EA Bz;rw[if_neg (by omega),if_pos J,if_pos ⟨f,a⟩]
   rw[e]at d I;have v:IntKind.i64.wrap (n+o.am)=n+o.am:=w64 (by omega) (by omega);have c3':(p:Int)=1+(gd:Int):=by omega
   simp[-B9,q1,m,f,r,a,C,c3',q,s,v,d]
   first | exact d | (rw[<-c3'];exact d) | skip
  ·have e:EA i p gd o=0:=by
    unfold EA;rw[A,if_neg J]
    split <;> rfl
   rw[e,Int.add_zero]at d;have c3':¬(p:Int)=1+(gd:Int):=by omega
   simp[-B9,q1,m,f,r,a,c3',q,s,d]
end
theorem XI {i p gd:Nat} (l:List Ord):Ah (EA i p gd) l=if p=0 then Ah (DB i) l else if p=gd+1 then Ah (Bz i) l else 0:=by
 by_cases h0:p=0
 ·rw[if_pos h0]
  exact FY λo _=>by unfold EA;rw[if_pos h0]
 ·rw[if_neg h0]
  by_cases a:p=gd+1
  ·rw[if_pos a]
   exact FY λo _=>by unfold EA;rw[if_neg h0,if_pos a]
  ·rw[if_neg a]
   have:∀l:List Ord,Ah (EA i p gd) l=0:=λl=>by
    induction l with
    | nil=>rfl
    | cons o l ih=>
     simp only[Ah];rw[ih];unfold EA;rw[if_neg h0,if_neg a];rfl
   exact this l
section
variable {h g:PH} {R:RT} {S:Hs} {Lv Bv Sv:Value} {bs ss:Nat->Value}
theorem fW {i p gd:Nat} {l:List Ord} {w c:Value} {n:Int} {Kp:KP} {x2:V5->PH->Prop}
  (H:BG g w 6 l.length (ordsC l)) (y:l.length<=1000) (s:gd<4) (v:∀o∈l,B0 o=true) (hi:i<16) (x:p<5) (B:0<=n) (C:n+Ah (EA i p gd) l<=4611686018427387904)
  (z:x2 (.int .i64 i,.int .i64 p,c,.int .i64 (n+Ah (EA i p gd) l),.int .i64 gd) g) :
  lf (Qs Kp x2) (Value.int .i64 i,Value.int .i64 p,c,Value.int .i64 gd,w) (.int .i64 n,.int .i64 0) g:=by
 have u:∀o∈l,0<=EA i p gd o:=λo a=>WK (v o a);refine AL (λm t g'=>∃k:Nat,t=(.int .i64 (n+Ah (EA i p gd) (l.take k)),.int .i64 k)/\m=l.length-k/\k<=l.length/\g'=g) l.length ⟨0,by simp[Ah],rfl,by omega,rfl⟩ ?_;rintro m t g' ⟨k,rfl,rfl,hkl,rfl⟩
 have q:∀j,n+Ah (EA i p gd) (l.take j)<=4611686018427387904:=λj=>by
  have A:=I2 (EA i p gd) (l.take j) (l.drop j);rw[List.take_append_drop]at A;have D:=Cg (f:=EA i p gd) (l:=l.drop j) λo a=>u o (List.mem_of_mem_drop a);omega
 have h0:=Cg (f:=EA i p gd) (l:=l.take k) λo a=>u o (List.mem_of_mem_take a)
 by_cases r:k<l.length
 ·obtain⟨o,a⟩:=Bp (l:=l) (k:=k) r
  have e:n+Ah (EA i p gd) (l.take (k+1))=n+Ah (EA i p gd) (l.take k)+EA i p gd o:=by rw[I1 _ a];omega
  have b:=q (k+1);rw[e]at b;refine VJ H a y s (v o (List.mem_of_getElem? a)) hi x (by omega) b ?_;exact⟨by trivial,l.length-(k+1),by omega,k+1,by rw[e];rfl,rfl,by omega,rfl⟩
 ·have e:k=l.length:=by omega
  subst e;unfold Qs gAW gGW ivW;have d:¬(l.length:Int)<(l.length:Int):=by omega
  simp only[H.lens,AC,d,BW,AB];refine nF ?_;rw[List.take_length];exact z
theorem Of (a:S.pre) {i p g:Nat} (b:g<S.G):0<=DM S i p g:=by
 unfold DM
 split
 ·exact Y5 a b
 ·split
  ·have j:=Cg (f:=Bz i) (l:=(S.bk g).l) λo c=>I8 ((a.bk g b).right o c)
   have e:0<=auK S i g:=by
    unfold auK;cases d:S.au g with
    | none=>simp
    | some q=>
     obtain⟨A,w⟩:=q;have:=(a.au g A w b d).1.sup;simp only
     split <;> omega
   unfold DV;omega
  ·omega
theorem Su {i p:Nat} (H:RHp h S Lv Bv Sv bs ss) (Z:p<5) (a:S.pre) (hi:i<S.L.n) (han:∀g A w,g<S.G->S.au g=some (A,w)->i<A.n) (hb:Ez S i p<=4611686018427387904) (hR:R (.ret (.int .i64 (Ez S i p))) h) :
  A7 Tryz.prog 87 #[.agg (rhA S.L.goods S.now Lv Bv Sv),.int .i64 i,.int .i64 p] h R:=by
 refine A7.drop (nP ?_);unfold pP eXW ivW pnW;rw[show Value.cells (.agg (rhA S.L.goods S.now Lv Bv Sv))=rhA S.L.goods S.now Lv Bv Sv from rfl];refine Ai λc G _ C hcc=>?_;have M:=a.g;have hcl:=a.led.cl;refine AL (λm s' g=>∃gd:Nat,s'=(.int .i64 (AS (DM S i p) gd),.int .i64 gd)/\m=S.G-gd/\gd<=S.G/\Sub G g) S.G ⟨0,rfl,rfl,by omega,Sub.refl G⟩ ?_;rintro m s' g ⟨gd,rfl,rfl,hgd,hsg⟩;have N:=H.sub (C.trans hsg);have y:=hsg _ _ hcc;have sb:=Kx (f:=DM S i p) gd λk hk=>Of a (by omega)
 by_cases d:gd<S.G
 ·have key:∀(V:V3->V2->PH->Prop) x0,(∀g3,Sub G g3->V (.int .i64 i,.int .i64 p,ptr c) (.int .i64 (AS (DM S i p) gd+DM S i p gd),.int .i64 ((gd:Int)+1)) g3) ->
    U0 (λc h=>∃g,Sub g h/\R (.pan c) g) x0 (.int .i64 i,.int .i64 p,ptr c) V (.int .i64 (AS (DM S i p) gd),.int .i64 gd) g:=by
   intro V x0 L;unfold U0 IX eXW gAW gGW ivW;simp only[AH,Ad];rw[A5 y (v:=.int .i64 S.L.goods) rfl,M.1,AC,AB];refine⟨λ_=>?_,λe=>absurd (of_decide_eq_false e) (by omega)⟩
   have F:AS (DM S i p) gd+DM S i p gd<=4611686018427387904:=by
    have h1:=M9 (f:=DM S i p) (k:=gd+1) (n:=S.G) (λk hk=>Of a hk) (by omega);simp only[AS]at h1;unfold Ez at hb;omega
   have u:DM S i p gd=Ah (EA i p gd) (S.bk gd).l+(if p=0 then auW S i gd else if p=gd+1 then auK S i gd else 0):=by
    rw[XI];unfold DM CM DV
    split
    ·rfl
    ·split <;> rfl
   have nnx:0<=(if p=0 then auW S i gd else if p=gd+1 then auK S i gd else 0):=by
    split
    ·exact (Wx a d).1
    ·split
     ·unfold auK
      cases z:S.au gd with
      | none=>simp
      | some q=>
       obtain⟨A,w⟩:=q;have:=(a.au gd A w d z).1.sup;simp only
       split <;> omega
     ·omega
   have nno:=Cg (f:=EA i p gd) (l:=(S.bk gd).l) λo ho=>WK ((a.bk gd d).right o ho);rw[A5 y (v:=Bv) rfl];obtain⟨b,o,q1,q2⟩:=N.B.el d;have lb:=(q2 g (Sub.refl g)).1 0 (bs gd) (by omega) (by rw[C4 (Na bs S) _ _ _ d (by omega)];rfl);rw[Nat.add_zero]at lb;rw[q1,AH,Nat.add_zero,lb];refine fW (N.b gd d) (by have:=(a.bk gd d).len;omega) (by omega) (a.bk gd d).right (by omega) Z sb (by omega) ?_;intro r E;rw[show r 1=Value.int .i64 i from congrArg (·.1) E,show r 2=Value.int .i64 p from congrArg (·.2.1) E,show r 3=ptr c from congrArg (·.2.2.1) E,show r 7=Value.int .i64 (AS (DM S i p) gd+Ah (EA i p gd) (S.bk gd).l)from congrArg (·.2.2.2.1) E,show r 8=Value.int .i64 gd from congrArg (·.2.2.2.2) E];simp only[AH,Ad];rw[A5 y (v:=Sv) rfl];obtain⟨b2,o2,q3,q4⟩:=N.A.el d;have ls:=(q4 g (Sub.refl g)).2 0 7 (by omega);rw[Nat.add_zero,Nat.add_zero,MD (Em ss S) d]at ls;rw[q3,ls];refine AX λt11 h11=>?_;have oS:∀x∈saC ss S gd,x.oneCell'=true:=λx W=>N.A.one x (List.mem_flatMap.2 ⟨gd,List.mem_range.2 d,W⟩);refine AN (cs:=(saC ss S gd).toArray) (AD _ _ _) (by rfl) (by simp[Em]) (by simpa using oS) ?_;rw[An];have s:ins g t11 (.cells (saC ss S gd).toArray 115 (0,0)) t11=some (.cells (saC ss S gd).toArray 115 (0,0)):=AD _ _ _;have t:=AT (.cells (saC ss S gd).toArray 115 (0,0)) h11;revert s t;generalize ins g t11 (.cells (saC ss S gd).toArray 115 (0,0))=g2;intro s t;have J:IntKind.i64.wrap ((gd:Int)+1)=(gd:Int)+1:=w64 (by omega) (by omega)
   have O:IntKind.i64.wrap (1+(gd:Int))=1+(gd:Int):=w64 (by omega) (by omega);cases z:S.au gd with
   | none=>
    have z0:(saC ss S gd).toArray[0]?=some (.bool false):=by unfold saC;rw[z];rfl
    have W:(if p=0 then auW S i gd else if p=gd+1 then auK S i gd else 0)=0:=by
     unfold auW auK;rw[z]
     split
     ·rfl
     ·split <;> rfl
    rw[W]at u;have D:=λK=>A5 (K:=K) s z0;have:=L g2 (hsg.trans t);rw[u,Int.add_zero]at this;simp[D,J];exact this
   | some q=>
    obtain⟨A,w⟩:=q;obtain⟨I,hw0,hwn⟩:=a.au gd A w d z;have hiA:=han gd A w d z;have Y:=(N.a gd A w d z).sub t;have ez:(saC ss S gd).toArray=#[.bool true,.int .i64 w,.int .i64 A.sup,.int .i64 A.sta,.int .i64 A.stp,.int .i64 A.ste,ss gd]:=by unfold saC;rw[z]
    rw[ez]at s;have D:=λg (C:Sub g2 g) K=>A5 (K:=K) (C _ _ s) (v:=.bool true) (off:=0) rfl;have y1:=λg (C:Sub g2 g) K=>A5 (K:=K) (C _ _ s) (v:=.int .i64 w) (off:=1) rfl;have y2:=λg (C:Sub g2 g) K=>A5 (K:=K) (C _ _ s) (v:=.int .i64 A.sup) (off:=2) rfl
    have y7:∀K,A0 (some 7) (.pointer (some ⟨t11,0,none⟩)) g2 K↔K (.agg #[.bool true,.int .i64 w,.int .i64 A.sup,.int .i64 A.sta,.int .i64 A.stp,.int .i64 A.ste,ss gd]):=λK=>by
     rw[AI s (off:=0) (n:=7) (by show 0+7<=7;omega)];rfl
    have B:=Sub.refl g2;have j:=L g2 (hsg.trans t);have eA:auW S i gd=Ae A i/\auK S i gd=if w=i then A.sup else 0:=by unfold auW auK;rw[z];exact⟨rfl,rfl⟩
    rw[eA.1,eA.2]at u;have hsup:=I.sup;have hnb:=Dr I (i:Int)
    by_cases T:p=0
    ·rw[if_pos T]at u
     subst T;rw[u]at j F;have U:IntKind.i64.wrap (AS (DM S i 0) gd+Ah (EA i 0 gd) (S.bk gd).l+Ae A i)=AS (DM S i 0) gd+(Ah (EA i 0 gd) (S.bk gd).l+Ae A i):=by rw[w64 (by omega) (by omega)];omega
     have Q:¬(0:Int)=1+(gd:Int):=by omega
     simp[D g2 B,y7];refine Ss Y I hiA ?_;have wg':IntKind.i64.wrap (1+(gd:Int))=1+(gd:Int):=O;simp[AK.elim,D g2 B,U,J,wg',Q];exact j
    ·rw[if_neg T]at u
     have c0':¬(p:Int)=0:=by omega
     by_cases Q:p=gd+1
     ·rw[if_pos Q]at u
      rw[u]at j F;have c1':(p:Int)=1+(gd:Int):=by omega
      have c0'':¬1+(gd:Int)=0:=by omega
      by_cases P:w=(i:Int)
      ·rw[if_pos P]at j F
       have U:IntKind.i64.wrap (AS (DM S i p) gd+Ah (EA i p gd) (S.bk gd).l+A.sup)=AS (DM S i p) gd+(Ah (EA i p gd) (S.bk gd).l+A.sup):=by rw[w64 (by omega) (by omega)];omega
       simp[D g2 B,y1 g2 B,y2 g2 B,c1',c0'',O,P,U,J];rw[<-c1'];exact j
      ·rw[if_neg P,Int.add_zero]at j
       simp[D g2 B,y1 g2 B,c1',c0'',O,P,J];rw[<-c1'];exact j
     ·rw[if_neg Q,Int.add_zero]at u
      rw[u]at j;have c1':¬(p:Int)=1+(gd:Int):=by omega
      simp[D g2 B,c1',T,c0',O,J];exact j
  exact key _ _ λg3 X=>⟨rfl,S.G-(gd+1),by omega,gd+1,rfl,rfl,by omega,X⟩
 ·have e:gd=S.G:=by omega
  subst e;unfold U0 IX eXW gAW gGW ivW;simp only[AH,Ad];rw[A5 y (v:=.int .i64 S.L.goods) rfl,M.1,AC,AB];refine⟨λe=>absurd (of_decide_eq_true e) (by omega),λ_=>?_⟩;intro r E;rw[show r 7=_ from E];exact⟨h,C.trans hsg,hR⟩
end
theorem HV {S:Hs} (c:S.ok) (a:Snd S) {i:Nat} (hi:i<S.L.n):Ez S i 0=S.L.f i 1/\∀g,g<S.G->Ez S i (g+1)=S.L.f i (6+g):=by
 refine⟨?_,λg b=>?_⟩
 ·rw[a.held i hi]
  unfold Ez Wa;exact DF _ λj _=>by unfold DM;rw[if_pos rfl]
 ·have d:=c.g
  rw[a.lock i g hi (by omega),if_pos b];unfold Ez;rw[Kw (f:=DM S i (g+1)) b]
  have h0:AS (λj=>if j=g then 0 else DM S i (g+1) j) S.G=0:=by
   have:∀n,AS (λj=>if j=g then 0 else DM S i (g+1) j) n=0:=λn=>by
    induction n with
    | zero=>rfl
    | succ n ih=>
     simp only[AS];rw[ih]
     by_cases e:n=g
     ·rw[if_pos e];rfl
     ·rw[if_neg e]
      unfold DM;rw[if_neg (by omega),if_neg (by omega)];rfl
   exact this _
  rw[h0];unfold DM;rw[if_neg (by omega),if_pos rfl];omega
theorem OJ {S:Hs} (a:S.ok):S.pre:=⟨a.led,a.n1,a.bk,λi A w hi b=>⟨(a.au i A w hi b).1,(a.au i A w hi b).2.2.2⟩,a.now⟩
section
variable {h g:PH} {R:RT} {S:Hs} {Lv Bv Sv:Value} {bs ss:Nat->Value}
theorem ID {i p:Nat} (H:RHp h S Lv Bv Sv bs ss) (d:p<5) (a:S.pre) (hi:i<S.L.n) (f:∀g A w,g<S.G->S.au g=some (A,w)->i<A.n) (s:Ez S i p<=4611686018427387904) (m:0<=Ay S.L i p/\Ay S.L i p<=1099511627776) (t:R (.ret (.int .i64 (Ay S.L i p-Ez S i p))) h) :
  A7 Tryz.prog 126 #[.agg (rhA S.L.goods S.now Lv Bv Sv),.int .i64 i,.int .i64 p] h R:=by
 refine A7.drop (ik ?_);unfold kx pnW;rw[show Value.cells (.agg (rhA S.L.goods S.now Lv Bv Sv))=rhA S.L.goods S.now Lv Bv Sv from rfl];refine Ai λc G _ l e=>?_;have q:=H.sub l;have j:=λK=>A5 (K:=K) e (show (rhA S.L.goods S.now Lv Bv Sv)[2]?=some Lv from rfl);obtain⟨b,o,q1,q2,q3⟩:=q.has hi d;simp only[AH,Ad,j,q1,Nat.add_zero,q2,q3 G (Sub.refl G)];rw[AI e (off:=0) (n:=5) (by show 0+5<=5;omega),show (rhA S.L.goods S.now Lv Bv Sv).extract 0 (0+5)=rhA S.L.goods S.now Lv Bv Sv from rfl];refine Su q d a hi f s ?_;have u:0<=Ez S i p:=Kx _ λk r=>Of a r;simp only[AK.elim,j,q3 G (Sub.refl G)];refine⟨trivial,trivial,?_⟩;rw[Ao,w64 (by omega) (by omega)];exact⟨h,l,t⟩
theorem rT {c:Nat} {o:Array Value} {e:TypeId} {cs:Array Value} {C:PH->Prop} {K:Value->PH->Prop} (H:(pt c (.cells o e (0,0))•C) g) (i:C3 C) (f:o.size=5) (a:cs.size=5) (k:∀x∈cs.toList,x.oneCell'=true) (j:∀g',C g'->K (.agg cs) g') :
  A9 5 (.pointer (some ⟨c,0,none⟩)) (.agg cs) g λb=>A0 (some 5) (.pointer (some ⟨c,0,none⟩)) b λd=>K d b:=by
 refine AN (cs:=cs) (AM H) f a (by rw[List.all_eq_true];exact k) ?_;rw[AI (AD _ _ _) (off:=0) (n:=5) (by omega)]
 have l:cs.extract 0 (0+5)=cs:=by
  rw[show 0+5=cs.size by omega,Array.extract_size]
 rw[l];exact j _ (AF i (Bb (p:=.cells cs e (0,0)) H))
theorem Gm {v:Value} (H:RH h v S):∃cs:Array Value,v = .agg cs/\cs.size=5/\∀x∈cs.toList,x.oneCell'=true:=by
 obtain⟨Lv,Bv,Sv,bs,ss,rfl,H⟩:=H
 have one:∀{v:Value} {esz n:Nat} {cs:List Value},BG h v esz n cs->v.oneCell'=true:=λH=>by
  rcases H.at_ with⟨cap,rfl,_⟩ | ⟨b,off,cap,c,e,fr,rfl,_⟩ <;> rfl
 refine⟨_,rfl,rfl,λx a=>?_⟩;simp only[rhA,List.mem_cons,List.not_mem_nil,or_false]at a
 rcases a with rfl | rfl | rfl | rfl | rfl
 ·rfl
 ·rfl
 ·exact one H.L
 ·exact one H.B
 ·exact one H.A
end
def OR (S:Hs) (i p:Nat) (kind am:Int):Int×Led:=
 if am<1\/1099511627776<am then (1,S.L)else
 if kind=2\/kind=4 then (if 1099511627776-am<AS (λi=>Ay S.L i p) S.L.n then (62,S.L)else (0,BZ S.L i p am))
 else (if Ay S.L i p-Ez S i p<am then (61,S.L)else (0,BZ S.L i p (0-am)))
section
variable {h g:PH} {R:RT} {S:Hs} {Lv Bv Sv:Value} {bs ss:Nat->Value} {o:OpV}
structure BM (h g:PH) (S:Hs) (Lv Bv Sv:Value) (bs ss:Nat->Value) (t3 t5:Nat) (o:OpV):Prop where
 rh:RHp g S Lv Bv Sv bs ss
 k3:g t3=some (rhO S.L.goods S.now Lv Bv Sv)
 k5:g t5=some (.cells o.a 25 (0,0))
 sub:Sub h g
theorem BM.mono {t3 t5:Nat}:C3 λg=>BM h g S Lv Bv Sv bs ss t3 t5 o:=λa b c H=>⟨H.rh.sub c,c _ _ H.k3,c _ _ H.k5,H.sub.trans c⟩
theorem ZU {c:Nat} {z cs:Array Value} {e:TypeId} {A:PH->Prop} {K:Value->PH->Prop} (H:(A•pt c (.cells z e (0,0))) g) (i:C3 A) (f:z.size=5) (a:cs.size=5) (k:∀x∈cs.toList,x.oneCell'=true) (j:∀g',A g'->K (.agg cs) g') :
  A9 5 (.pointer (some ⟨c,0,none⟩)) (.agg cs) g λb=>A0 (some 5) (.pointer (some ⟨c,0,none⟩)) b λd=>K d b:=rT (BX H) i f a k j
theorem OQ {i p:Nat} {t3 t5 t6:Nat} {z:Array Value} (E:p<5) (q:S.pre) (hi:i<S.L.n) (han:∀g A w,g<S.G->S.au g=some (A,w)->i<A.n) (hb:Ez S i p<=4611686018427387904)
  (r:∀i,i<S.L.n->0<=Ay S.L i p/\Ay S.L i p<=1099511627776) (ho:o.ok) (hz:z.size=5)
  (H:((λg=>BM h g S Lv Bv Sv bs ss t3 t5 o)•pt t6 (.cells z 52 (0,0))) g)
  (j:∀g v,Sub h g->RH g v (S.setL (OR S i p o.kind o.am).2)->R (.ret (.tuple #[v,.int .i64 (OR S i p o.kind o.am).1])) g) :
  QV (ptr t3) (ptr t5) (ptr t6) (.int .i64 p) (.int .i64 i) g R:=by
 have hcl:=q.led.cl;have hgG:=q.g;have d:=AJ BM.mono H
 have k:∀g,BM h g S Lv Bv Sv bs ss t3 t5 o->∀K,A0 (some 5) (.pointer (some ⟨t3,0,none⟩)) g K↔K (.agg (rhA S.L.goods S.now Lv Bv Sv)):=λg d K=>by
  rw[AI d.k3 (off:=0) (n:=5) (by show 0+5<=5;omega)];rfl
 have C:∀g,BM h g S Lv Bv Sv bs ss t3 t5 o->∀K,A0 none (.pointer (some ⟨t5,0,none⟩)) g K↔K (.int .i64 o.kind):=λg d K=>A5 d.k5 rfl;have l:∀g,BM h g S Lv Bv Sv bs ss t3 t5 o->∀K,A0 none (.pointer (some ⟨t5,2,none⟩)) g K↔K (.int .i64 o.am):=λg d K=>A5 d.k5 rfl;have t:∀g,BM h g S Lv Bv Sv bs ss t3 t5 o->RH g (.agg (rhA S.L.goods S.now Lv Bv Sv)) S:=λg d=>⟨Lv,Bv,Sv,bs,ss,rfl,d.rh⟩;obtain⟨cs,hcs,hc5,hc1⟩:=Gm (t g d);have hcs':rhA S.L.goods S.now Lv Bv Sv=cs:=by injection hcs
 have m:∀e:Int,∀g,((λg=>BM h g S Lv Bv Sv bs ss t3 t5 o)•pt t6 (.cells z 52 (0,0))) g->(∀g v,Sub h g->RH g v S->R (.ret (.tuple #[v,.int .i64 e])) g) ->
   A9 5 (.pointer (some ⟨t6,0,none⟩)) (.agg (rhA S.L.goods S.now Lv Bv Sv)) g λG=>A0 (some 5) (.pointer (some ⟨t6,0,none⟩)) G λO=>R (.ret (.tuple #[O,.int .i64 e])) G:=λe g Hg hr=>
  ZU (K:=λO G=>R (.ret (.tuple #[O,.int .i64 e])) G) Hg BM.mono hz rfl (by rw[hcs'];exact hc1) λg' Z=>hr g' _ Z.sub (t g' Z)
 have W:∀(n:Int) (g:PH),-1099511627776<=n->n<=1099511627776->((λg=>BM h g S Lv Bv Sv bs ss t3 t5 o)•pt t6 (.cells z 52 (0,0))) g->(∀g v,Sub h g->RH g v (S.setL (BZ S.L i p n))->R (.ret (.tuple #[v,.int .i64 0])) g) ->
   AA Tryz.prog 125 #[.agg (rhA S.L.goods S.now Lv Bv Sv),.int .i64 i,.int .i64 p,.int .i64 n] g (λt66 U=>A9 5 (.pointer (some ⟨t6,0,none⟩)) t66 U λx=>A0 (some 5) (.pointer (some ⟨t6,0,none⟩)) x λL=>R (.ret (.tuple #[L,(.int .i64 0)])) x) (λc h=>R (.pan c) h):=λn g hn1 hn2 Hg hr=>by
  have hh:=r i hi;refine A7.sep (Q:=λe g=>∃v,e = .ret v/\Sub h g/\RH g v (S.setL (BZ S.L i p n))) Hg (λg1 Y=>O4 Y.rh hi E (by omega) (by omega) ⟨by omega,by omega⟩ λg2 v hs2 hv=>⟨v,rfl,Y.sub.trans hs2,hv⟩) λe g2 J=>?_;obtain⟨v,J⟩:=Nz.1 J;obtain⟨he,J⟩:=L7.1 J;rw[he];have m2:C3 λg=>Sub h g/\RH g v (S.setL (BZ S.L i p n)):=λa b hs H=>⟨H.1.trans hs,H.2.sub hs⟩;obtain⟨cs2,rfl,P,T⟩:=Gm (AJ m2 J).2;simp only[AK.elim];exact ZU (K:=λO G=>R (.ret (.tuple #[O,.int .i64 0])) G) J m2 hz P T λg' H'=>hr g' _ H'.1 H'.2
 unfold QV jq2 N9 VE IN K9 jq8 gGW ivW pnW;unfold OR at j;simp only[AH,Ad];rw[l g d];have s:S.setL S.L=S:=rfl
 by_cases I:o.am<1
 ·rw[if_pos (.inl I)]at j
  have:=m 1 g H (by rw[<-s];exact j);simp[I,k g d];exact this
 by_cases X:1099511627776<o.am
 ·rw[if_pos (.inr X)]at j
  have:=m 1 g H (by rw[<-s];exact j);simp[I,l g d,X,k g d];exact this
 rw[if_neg (by omega)]at j
 by_cases F:o.kind=2\/o.kind=4
 ·rw[if_pos F]at j
  have c3':o.kind=2\/(¬o.kind=2/\o.kind=4):=by omega
  have w1:IntKind.i64.wrap (1099511627776-o.am)=1099511627776-o.am:=w64 (by omega) (by omega)
  have u:AA Tryz.prog 124 #[.agg (rhA S.L.goods S.now Lv Bv Sv),.int .i64 p] g (λt40 f=>(A0 none (.pointer (some ⟨t5,2,none⟩)) f λu_6=>Value.int .i64 o.am=u_6) /\
    A6 Tryz.prog .gtr 3 t40 (.int .i64 (1099511627776-o.am)) λt44=>dIf t44 (A0 (some 5) (.pointer (some ⟨t3,0,none⟩)) f λt45=>A9 5 (.pointer (some ⟨t6,0,none⟩)) t45 f λB=>A0 (some 5) (.pointer (some ⟨t6,0,none⟩)) B λN=>R (.ret (.tuple #[N,(.int .i64 62)])) B)
    (A0 (some 5) (.pointer (some ⟨t3,0,none⟩)) f λt46=>A0 none (.pointer (some ⟨t5,2,none⟩)) f λt50=>AA Tryz.prog 125 #[t46,.int .i64 i,.int .i64 p,t50] f (λt51 V=>A9 5 (.pointer (some ⟨t6,0,none⟩)) t51 V λy=>A0 (some 5) (.pointer (some ⟨t6,0,none⟩)) y λM=>R (.ret (.tuple #[M,(.int .i64 0)])) y) (λc h=>R (.pan c) h))) (λc h=>R (.pan c) h):=by
   refine XR d.rh E (by omega) r ?_;simp only[AK.elim];simp only[l g d,k g d];refine⟨trivial,?_⟩;simp only[At,AB,CF,D9];refine⟨λD=>?_,λD=>?_⟩
   ·rw[if_pos D]at j
    exact m 62 g H (by rw[<-s];exact j)
   ·rw[if_neg D]at j
    exact W o.am g (by omega) (by omega) H j
  rcases c3' with F | ⟨F,c4⟩
  ·simp[I,l g d,X,C g d,F,k g d,w1]
   exact u
  ·simp[I,l g d,X,C g d,c4,k g d,w1]
   exact u
 ·rw[if_neg F]at j
  have c4:¬o.kind=2:=λh=>F (.inl h);have c5:¬o.kind=4:=λh=>F (.inr h);simp[I,l g d,X,C g d,c4,c5,k g d];refine ID d.rh E q hi han hb (r i hi) ?_;simp only[AK.elim];simp only[l g d,k g d];refine⟨trivial,?_⟩;simp only[AC,AB,CF,D9];refine⟨λD=>?_,λD=>?_⟩
  ·rw[if_pos D]at j
   exact m 61 g H (by rw[<-s];exact j)
  ·rw[if_neg D]at j
   rw[Ao,w64 (by omega) (by omega)];exact W (0-o.am) g (by omega) (by omega) H j
end
def FI (S:Hs) (i:Nat) (o:OpV):Int×Led:=if o.kind=2 then GW S.L i o.am else if o.kind=3 then EE S.L i o.am else if o.kind=4 then DG S.L i o.good o.am else DL S.L i o.good o.am
section
variable {h g:PH} {R:RT} {S:Hs} {Lv Bv Sv:Value} {bs ss:Nat->Value} {o:OpV}
theorem CY {t3 t5 t6:Nat} {z:Array Value} {K:Value->PH->Prop} (H:((λg=>BM h g S Lv Bv Sv bs ss t3 t5 o)•pt t6 (.cells z 52 (0,0))) g) (j:z.size=5) (k:∀g v,Sub h g->RH g v S->K v g) :
  A0 (some 5) (.pointer (some ⟨t3,0,none⟩)) g λt=>A9 5 (.pointer (some ⟨t6,0,none⟩)) t g λf=>A0 (some 5) (.pointer (some ⟨t6,0,none⟩)) f λi=>K i f:=by
 have c:=AJ BM.mono H;rw[AI c.k3 (off:=0) (n:=5) (by show 0+5<=5;omega),show (rhA S.L.goods S.now Lv Bv Sv).extract 0 (0+5)=rhA S.L.goods S.now Lv Bv Sv from rfl];have a:∀g,BM h g S Lv Bv Sv bs ss t3 t5 o->RH g (.agg (rhA S.L.goods S.now Lv Bv Sv)) S:=λg c=>⟨Lv,Bv,Sv,bs,ss,rfl,c.rh⟩;obtain⟨cs,d,l,e⟩:=Gm (a g c);have hcs':rhA S.L.goods S.now Lv Bv Sv=cs:=by injection d
 exact ZU H BM.mono j rfl (by rw[hcs'];exact e) λg' b=>k g' _ b.sub (a g' b)
theorem MR (a:S.ok) {i p:Nat} (hi:i<S.L.n) (b:p<5):0<=Ay S.L i p/\Ay S.L i p<=1099511627776:=by
 unfold Ay
 split
 ·exact a.led.small.num i 0 hi (by omega)
 ·exact a.led.small.num i (p+1) hi (by omega)
theorem T9 (w:S.ok) (x:Snd S) {i p:Nat} (hi:i<S.L.n) (v:(o.kind=2\/o.kind=3)/\p=0\/(o.kind=4\/o.kind=5)/\(p:Int)=o.good+1/\o.good<S.L.goods) (y:o.ok):OR S i p o.kind o.am=FI S i o:=by
 obtain⟨h0,A⟩:=HV w x hi;have B:=w.g;have z:=y.good
 have t:∀gd:Int,0<=gd->gd<S.L.goods->CR S.L gd o.am=if o.am<1\/1099511627776<o.am then 1 else 0:=λgd a b=>by
  unfold CR
  by_cases c:o.am<1\/1099511627776<o.am
  ·rw[if_neg (by omega),if_pos c]
  ·rw[if_pos (by omega),if_neg c]
 unfold OR FI
 rcases v with⟨e,rfl⟩ | ⟨e,v,r⟩
 ·have l:Ay S.L i 0=S.L.f i 0:=rfl
  have s:AS (λi=>Ay S.L i 0) S.L.n=ED S.L:=rfl;have k:∀n,BZ S.L i 0 n=S.L.set i 0 (S.L.f i 0+n):=λn=>rfl;have f:=t 0 (by omega) (by omega);rw[h0,l,s,k,k]
  by_cases c:o.am<1\/1099511627776<o.am
  ·rw[if_pos c]at f ⊢
   rcases e with e | e
   ·rw[if_pos e];unfold GW;rw[f];rfl
   ·rw[if_neg (show ¬o.kind=2 by omega),if_pos e];unfold EE;rw[f];rfl
  ·rw[if_neg c]at f ⊢
   rcases e with e | e
   ·rw[if_pos (.inl e),if_pos e];unfold GW;simp only[f,ne_eq,Bx,if_false]
    by_cases d:1099511627776-o.am<ED S.L
    ·rw[if_pos d,if_pos (by omega)]
    ·rw[if_neg d,if_neg (by omega)]
   ·rw[if_neg (show ¬(o.kind=2\/o.kind=4)by omega),if_neg (show ¬o.kind=2 by omega),if_pos e];unfold EE;simp only[f,ne_eq,Bx,if_false]
    by_cases d:S.L.f i 0-S.L.f i 1<o.am
    ·rw[if_pos d,if_pos d]
    ·rw[if_neg d,if_neg d,show S.L.f i 0+(0-o.am)=S.L.f i 0-o.am by omega]
 ·obtain⟨q,u⟩:∃q:Nat,o.good=q:=⟨o.good.toNat,by omega⟩
  have m:p=q+1:=by omega
  subst m;have l:Ay S.L i (q+1)=S.L.f i (2+q):=by unfold Ay;rw[if_neg (by omega),show q+1+1=2+q by omega]
  have s:AS (λi=>Ay S.L i (q+1)) S.L.n=EB S.L q:=DF _ λj _=>by unfold Ay;rw[if_neg (by omega),show q+1+1=2+q by omega]
  have k:∀n,BZ S.L i (q+1) n=S.L.set i (2+q) (S.L.f i (2+q)+n):=λn=>by
   unfold BZ YI;rw[l,if_neg (by omega),show q+1+1=2+q by omega]
  have f:=t o.good (by omega) r;rw[A q (by omega),l,s,k,k]
  by_cases c:o.am<1\/1099511627776<o.am
  ·rw[if_pos c]at f ⊢
   rcases e with e | e
   ·rw[if_neg (show ¬o.kind=2 by omega),if_neg (show ¬o.kind=3 by omega),if_pos e];unfold DG;rw[f];rfl
   ·rw[if_neg (show ¬o.kind=2 by omega),if_neg (show ¬o.kind=3 by omega),if_neg (show ¬o.kind=4 by omega)];unfold DL;rw[f];rfl
  ·rw[if_neg c]at f ⊢
   rcases e with e | e
   ·rw[if_pos (.inr e),if_neg (show ¬o.kind=2 by omega),if_neg (show ¬o.kind=3 by omega),if_pos e];unfold DG;simp only[f,ne_eq,Bx,if_false];rw[u,BR]
    by_cases d:1099511627776-o.am<EB S.L q
    ·rw[if_pos d,if_pos (by omega)]
    ·rw[if_neg d,if_neg (by omega)]
   ·rw[if_neg (show ¬(o.kind=2\/o.kind=4)by omega),if_neg (show ¬o.kind=2 by omega),if_neg (show ¬o.kind=3 by omega),if_neg (show ¬o.kind=4 by omega)];unfold DL;simp only[f,ne_eq,Bx,if_false];rw[u,BR]
    by_cases d:S.L.f i (2+q)-S.L.f i (6+q)<o.am
    ·rw[if_pos d,if_pos d]
    ·rw[if_neg d,if_neg d,show S.L.f i (2+q)+(0-o.am)=S.L.f i (2+q)-o.am by omega]
theorem LR (a:S.ok) (b:Snd S) {i p:Nat} (hi:i<S.L.n) (d:p<=S.G):Ez S i p<=4611686018427387904:=by
 obtain⟨h0,c⟩:=HV a b hi;have f:=a.g
 rcases Nat.eq_zero_or_pos p with e | e
 ·subst e;rw[h0];have:=a.led.small.num i 1 hi (by omega);omega
 ·obtain⟨q,rfl⟩:∃q,p=q+1:=⟨p-1,by omega⟩
  rw[c q (by omega)];have:=a.led.small.num i (6+q) hi (by omega);omega
theorem JX {i:Nat} (H:RHp h S Lv Bv Sv bs ss) (a:S.ok) (n:Snd S) (hi:i<S.L.n) (f:o.ok) (D:o.kind=2\/o.kind=3\/o.kind=4\/o.kind=5)
  (b:∀g v,Sub h g->RH g v (S.setL (FI S i o).2)->R (.ret (.tuple #[v,.int .i64 (FI S i o).1])) g) :
  A7 Tryz.prog 82 #[.agg (rhA S.L.goods S.now Lv Bv Sv),.int .i64 i,o.v] h R:=by
 refine nV ?_;unfold pT jq2 N9 VE IN K9 jq8 zq1 gGW ivW pnW;rw[show Value.cells (.agg (rhA S.L.goods S.now Lv Bv Sv))=rhA S.L.goods S.now Lv Bv Sv from rfl,show Value.cells o.v=o.a from rfl];refine Ai λt3 N _ u C=>Ai λt5 s _ q B=>AX λt6 J=>?_;have F:=a.g;have l:∀g A w,g<S.G->S.au g=some (A,w)->i<A.n:=λg A w G I=>by have:=(a.au g A w G I).2.2.1;omega
 have M:BM h s S Lv Bv Sv bs ss t3 t5 o:=⟨H.sub (u.trans q),q _ _ C,B,u.trans q⟩;have d:((λg=>BM h g S Lv Bv Sv bs ss t3 t5 o)•pt t6 (rhO 0 0 (.slice none 0 0) (.slice none 0 0) (.slice none 0 0))) (ins s t6 (rhO 0 0 (.slice none 0 0) (.slice none 0 0) (.slice none 0 0))):=BX (Ar J M);revert d;generalize ins s t6 (rhO 0 0 (.slice none 0 0) (.slice none 0 0) (.slice none 0 0))=g3;intro d;have S3:=AJ BM.mono d;have z:=λK=>A5 (K:=K) S3.k5 (show o.a[0]?=some (.int .i64 o.kind)from rfl);have m:=λK=>A5 (K:=K) S3.k5 (show o.a[1]?=some (.int .i64 o.good)from rfl);rw[AH,Nat.add_zero,z,By,AB];have E:=f.good;refine⟨λk=>?_,λj=>?_⟩
 ·have k:=of_decide_eq_true k
  by_cases c:S.L.goods<=o.good
  ·have e:FI S i o=(1,S.L):=by
    unfold FI;have x:CR S.L o.good o.am=1:=by unfold CR;rw[if_neg (by omega)]
    rw[if_neg (by omega),if_neg (by omega)]
    split
    ·unfold DG;rw[x];rfl
    ·unfold DL;rw[x];rfl
   rw[e]at b;have t:IntKind.i64.wrap (1+o.good)=1+o.good:=w64 (by omega) (by omega);have r:=λK=>A5 (K:=K) S3.k3 (show (rhA S.L.goods S.now Lv Bv Sv)[0]?=some (.int .i64 S.L.goods)from rfl);rw[AH,Ad,m,AG,AH,Ad,m,AH,Nat.add_zero,r,By,AB];refine⟨λ_=>CY (K:=λy L=>R (.ret (.tuple #[y,.int .i64 1])) L) d rfl b,λe=>absurd (of_decide_eq_false e) (by omega)⟩
  ·have e:=T9 (o:=o) (p:=o.good.toNat+1) a n hi (.inr ⟨by omega,by omega,by omega⟩) f
   rw[<-e]at b;have t:IntKind.i64.wrap (1+o.good)=((o.good.toNat+1:Nat):Int):=by rw[w64 (by omega) (by omega)];omega
   have r:=λK=>A5 (K:=K) S3.k3 (show (rhA S.L.goods S.now Lv Bv Sv)[0]?=some (.int .i64 S.L.goods)from rfl);rw[AH,Ad,m,AG,AH,Ad,m,AH,Nat.add_zero,r,By,AB];refine⟨λe=>absurd (of_decide_eq_true e) (by omega),λ_=>?_⟩;rw[t];exact OQ (p:=o.good.toNat+1) (by omega) (OJ a) hi l (LR a n hi (by omega)) (λi hi=>MR a hi (by omega)) f rfl d b
 ·have j:=of_decide_eq_false j
  have e:=T9 (o:=o) (p:=0) a n hi (.inl ⟨by omega,rfl⟩) f;rw[<-e]at b;exact OQ (p:=0) (by omega) (OJ a) hi l (LR a n hi (by omega)) (λi hi=>MR a hi (by omega)) f rfl d b
end
abbrev rbA (bv:Value) (nx:Int):Array Value:=#[bv,.int .i64 nx]
section
variable {h g:PH} {R:RT} {l:List Ord} {bv:Value} {nx:Int}
theorem EV {o:Ord} {i:Nat} (H:BG h bv 6 l.length (ordsC l)) (c:l[i]?=some o):∃b off,(∀K,AR 6 bv (.int .i64 i) K↔K (.pointer (some ⟨b,off,none⟩)))/\∀G,Sub h G->(∀j x,j<6->o.cells[j]?=some x->∀K,A0 none (.pointer (some ⟨b,off+j,none⟩)) G K↔K x)/\∀K,A0 (some 6) (.pointer (some ⟨b,off,none⟩)) G K↔K o.v:=by
 have hi:=(Bc.1 c).1;obtain⟨b,off,q1,q2⟩:=H.el hi;refine⟨b,off,q1,λG d=>⟨λj x a f K=>(q2 G d).1 j x a ((Ex l i o c j a).trans f) K,λK=>?_⟩⟩;have:=(q2 G d).2 0 6 (by omega) K;rw[Nat.add_zero,Nat.add_zero]at this;rw[this]
 have e:((ordsC l).drop (i*6)).take 6=o.a.toList:=by
  apply List.ext_getElem?;intro j;rw[List.getElem?_take]
  split
  ·rename_i a
   rw[List.getElem?_drop,Ex l i o c j a];rfl
  ·rename_i a
   rw[List.getElem?_eq_none (by show 6<=j;omega)]
 rw[e,Array.toArray_toList]
theorem Re {o:Ord} {l:List Ord} {n:Int} (h:o.id≠n):idx (o::l) n=(idx l n).map (· + 1):=by
 show (if o.id=n then some 0 else (idx l n).map (· + 1))=_;rw[if_neg h]
theorem TP {n:Int}:∀{l:List Ord} {i:Nat},(∀j,j<i->∀o,l[j]?=some o->o.id≠n)->(∀o,l[i]?=some o->o.id=n->idx l n=some i)/\(l.length<=i->idx l n=none)
 | [],i,_=>⟨λo h _=>by simp at h,λ_=>rfl⟩
 | a::l,0,_=>⟨λo h e=>by simp at h;subst h;unfold idx;rw[if_pos e],λh=>absurd h (by simp)⟩
 | a::l,i+1,hb=>by
  have h0:=hb 0 (by omega) a rfl;obtain⟨f,d⟩:=TP (n:=n) (l:=l) (i:=i) λj k o b=>hb (j+1) (by omega) o (by simpa using b);rw[Re h0];refine⟨λo b e=>?_,λc=>?_⟩
  ·rw[f o (by simpa using b) e];rfl
  ·rw[d (by simp at c;omega)];rfl
theorem RJ {n:Int} (H:BG h bv 6 l.length (ordsC l)) (I:l.length<=1000) (f:R (.ret (.int .i64 (Rf l n))) h):A7 Tryz.prog 130 #[.agg (rbA bv nx),.int .i64 n] h R:=by
 refine A7.drop (ic ?_);unfold ks eXW ivW pnW;rw[show Value.cells (.agg (rbA bv nx))=rbA bv nx from rfl];refine Ai λc G _ s w=>?_;have x:=H.sub s;have B:=λK=>A5 (K:=K) w (show (rbA bv nx)[0]?=some bv from rfl);refine AL (λm A g=>∃i:Nat,A=(.int .i64 0,.int .i64 i)/\m=l.length-i/\i<=l.length/\(∀j,j<i->∀o,l[j]?=some o->o.id≠n)/\g=G) l.length ⟨0,rfl,rfl,by omega,λj D=>absurd D (by omega),rfl⟩ ?_;rintro m A g ⟨i,rfl,rfl,hi,hb,rfl⟩;obtain⟨f1,f2⟩:=TP hb
 by_cases v:i<l.length
 ·obtain⟨o,t⟩:=Bp (l:=l) (k:=i) v
  have key:∀(q:V2->V2->PH->Prop) z p,(o.id=n->p (.int .i64 i) g)->(o.id≠n->q (.int .i64 n,ptr c) (.int .i64 0,.int .i64 ((i:Int)+1)) g)->Pe (λc h=>∃g,Sub g h/\R (.pan c) g) z p (.int .i64 n,ptr c) q (.int .i64 0,.int .i64 i) g:=by
   intro q z p F E;unfold Pe GB ivW;have d:(i:Int)<(l.length:Int):=by omega
   simp only[AH,Ad,B,x.lens,AC,d,B6,AB];refine nT ?_;obtain⟨b,off,q1,q2⟩:=EV x t;have y:=(q2 g (Sub.refl g)).1 0 (.int .i64 o.id) (by omega) rfl;rw[Nat.add_zero]at y;rw[q1,AH,Nat.add_zero,y,BC,AB];refine⟨λe=>F (of_decide_eq_true e),λe=>?_⟩;rw[AG,w64 (by omega) (by omega)];exact E (of_decide_eq_false e)
  refine key _ _ _ (λe r C=>?_) λu=>⟨rfl,l.length-(i+1),by omega,i+1,rfl,rfl,by omega,λj D o' a=>?_,rfl⟩
  ·show ∃g',Sub g' g/\R (.ret (r 4)) g'
   rw[show r 4=Value.int .i64 i from C];have:=f1 o t e;rw[FJ this]at f;exact⟨h,s,f⟩
  ·rcases Nat.lt_or_ge j i with h | h
   ·exact hb j h o' a
   ·have:j=i:=by omega
    subst this;rw[t]at a;cases a;exact u
 ·unfold Pe GB ivW
  have d:¬(i:Int)<(l.length:Int):=by omega
  simp only[AH,Ad,B,x.lens,AC,d,BW,AB];refine⟨λe=>absurd e (by simp),λ_ r C=>?_⟩;rw[Gv (f2 (by omega))]at f;exact⟨h,s,f⟩
end
section
variable {h g:PH} {R:RT} {l:List Ord} {bv:Value} {nx:Int}
def Zg (l:List Ord) (id own:Int):Int×Int:=match idx l id with
 | none=>(0,3)
 | some k=>match l[k]? with
  | none=>(0,3)
  | some o=>if o.own=own then (k,0)else (0,80)
theorem W8 {id own:Int} (H:BG h bv 6 l.length (ordsC l)) (s:l.length<=1000) (a:R (.ret (.tuple #[.int .i64 (Zg l id own).1,.int .i64 (Zg l id own).2])) h):A7 Tryz.prog 164 #[.agg (rbA bv nx),.int .i64 id,.int .i64 own] h R:=by
 refine A7.drop (hE ?_);unfold kH fK Pp ivW pnW;rw[show Value.cells (.agg (rbA bv nx))=rbA bv nx from rfl];refine Ai λc G _ i f=>?_;have r:=H.sub i;rw[AI f (off:=0) (n:=2) (by show 0+2<=2;omega),show (rbA bv nx).extract 0 (0+2)=rbA bv nx from rfl];refine RJ r s ?_;simp only[AK.elim];unfold Zg at a;cases d:idx l id with
 | none=>
  rw[d]at a;rw[Gv d];simp;exact⟨h,i,a⟩
 | some k=>
  obtain⟨t,⟨o,q,_⟩,_⟩:=Dt d;rw[d]at a;simp only[q]at a;rw[FJ d];obtain⟨b,off,q1,q2⟩:=EV r q;have m:=(q2 G (Sub.refl G)).1 1 (.int .i64 o.own) (by omega) rfl;have p:=λK=>A5 (K:=K) f (show (rbA bv nx)[0]?=some bv from rfl);have e:¬(k:Int)<0:=by omega
  by_cases j:o.own=own
  ·rw[if_pos j]at a
   simp[-B9,e,p,q1,m,j];exact⟨h,i,a⟩
  ·rw[if_neg j]at a
   simp[-B9,e,p,q1,m,j];exact⟨h,i,a⟩
def Ev (l:List Ord) (at_:Int):List Ord:=if at_<0 then l else l.eraseIdx at_.toNat
theorem X7 {l:List Ord} {i:Nat} {o:Ord} {at_:Int} (a:l[i]?=some o):Ev (l.take (i+1)) at_=if (i:Int)=at_ then Ev (l.take i) at_ else Ev (l.take i) at_ ++ [o]:=by
 have hi:=(Bc.1 a).1;have e:l.take (i+1)=l.take i ++ [o]:=by rw[List.take_add_one,a];rfl
 have b:(l.take i).length=i:=by rw[List.length_take];omega
 unfold Ev
 by_cases h:at_<0
 ·rw[if_pos h,if_neg (by omega),if_pos h];exact e
 ·rw[if_neg h,if_neg h,e]
  by_cases c:(i:Int)=at_
  ·rw[if_pos c,List.eraseIdx_append_of_length_le (by omega),b,show at_.toNat-i=0 by omega,show [o].eraseIdx 0 = []from rfl,List.append_nil,List.eraseIdx_of_length_le (by omega)]
  ·rw[if_neg c]
   rcases Nat.lt_or_ge at_.toNat i with h3 | h3
   ·rw[List.eraseIdx_append_of_lt_length (by omega)]
   ·rw[List.eraseIdx_append_of_length_le (by omega),b,List.eraseIdx_of_length_le (l:=l.take i) (by omega)]
    congr 1
    exact List.eraseIdx_of_length_le (by show 1<=_;omega)
theorem Sj {at_:Int} (H:BG h bv 6 l.length (ordsC l)) (T:l.length<=1000) (P:∀g s,OB 78 6 h (Ev l at_).length (ordsC (Ev l at_)) g s->R (.ret s) g):A7 Tryz.prog 166 #[bv,.int .i64 at_] h R:=by
 refine gy ?_;unfold kF eXW ivW pnW
 refine AL (λm C g=>∃(i:Nat) (n:Value),C=(n,.int .i64 i)/\m=l.length-i/\i<=l.length/\OB 78 6 h (Ev (l.take i) at_).length (ordsC (Ev (l.take i) at_)) g n) l.length
  ⟨0,.slice none 0 0,rfl,rfl,by omega,by
   have e:Ev (l.take 0) at_ = []:=by unfold Ev;simp
   rw[e];exact⟨Sub.refl h,rfl,.inl ⟨rfl,rfl,rfl⟩⟩⟩ ?_
 rintro m C g ⟨i,n,rfl,rfl,hi,ob⟩;have z:=H.sub ob.sub
 by_cases x:i<l.length
 ·obtain⟨o,E⟩:=Bp (l:=l) (k:=i) x
  have u:=X7 (at_:=at_) E
  have M:(Ev (l.take i) at_).length<=1000:=by
   have:(l.take i).length<=i:=by rw[List.length_take];omega
   unfold Ev
   split
   ·omega
   ·have:=List.length_eraseIdx_le (l.take i) at_.toNat
    omega
  have key:∀(t:V2->V2->PH->Prop) A,(∀g s,OB 78 6 h (Ev (l.take (i+1)) at_).length (ordsC (Ev (l.take (i+1)) at_)) g s->t (bv,.int .i64 at_) (s,.int .i64 ((i:Int)+1)) g) ->
    PX (λc h=>R (.pan c) h) A (bv,.int .i64 at_) t (n,.int .i64 i) g:=by
   intro t A a;unfold PX GB CO FP ivW;have j:(i:Int)<(l.length:Int):=by omega
   simp only[z.lens,AC,j,B6,AB];refine nT ?_;rw[u]at a;have B:IntKind.i64.wrap ((i:Int)+1)=(i:Int)+1:=w64 (by omega) (by omega)
   by_cases c:(i:Int)=at_
   ·rw[if_pos c]at a
    have:=a g n ob;simp[c];rw[<-c,B];rw[<-c]at this;exact this
   ·rw[if_neg c]at a
    obtain⟨b,off,q1,q2⟩:=EV z E;have K:=(q2 g (Sub.refl g)).2;simp[-B9,c,q1,K,B];refine⟨_,GF o,λd F=>?_⟩
    refine Db (m:=1) (news:=o.a.toList) (ob.up (AT _ F)) (by simp only[roomBytes];omega) (by omega) rfl
     (λY w=>.inr (.inr ⟨rfl,d,0,1,1,_,_,_,rfl,AD _ _ _,by show 0+1*6<=6;omega,?_,w⟩)) (λX D S V L U cap f=>?_) λQ J p=>?_
    ·intro v N
     have:v∈ordsC [o]:=N;exact Cy v this
    ·cases L
     intro e
     rcases ob.buf with⟨y,_⟩ | ⟨g',W,I,y,G,_⟩
     ·rw[y]at f;cases f
     ·rw[y]at f;cases f;rw[<-e,F]at G;cases G
    ·refine a Q J ?_
     rw[Gq]at p;rw[List.length_append];exact p
  exact key _ _ λg s q=>⟨rfl,l.length-(i+1),by omega,i+1,s,rfl,rfl,by omega,q⟩
 ·have e:i=l.length:=by omega
  subst e;unfold PX GB CO FP ivW;have j:¬(l.length:Int)<(l.length:Int):=by omega
  simp only[z.lens,AC,j,BW,AB];refine⟨λe=>absurd e (by simp),λ_ r O=>?_⟩;rw[List.take_length]at ob;rw[show r 5=_ from O];exact P g n ob
end
def RB (h:PH) (v:Value) (B:Bk):Prop:=∃a,v = .agg (rbA a B.next)/\BG h a 6 B.l.length (ordsC B.l)
theorem BG.v1 {h:PH} {v:Value} {esz n:Nat} {cs:List Value} (H:BG h v esz n cs):v.oneCell'=true:=by
 rcases H.at_ with⟨cap,rfl,_⟩ | ⟨b,off,cap,c,e,fr,rfl,_⟩ <;> rfl
section
variable {h g:PH} {R:RT} {B:Bk} {bv:Value} {C:PH->Prop}
theorem RB.sub {v:Value} (H:RB h v B) (a:Sub h g):RB g v B:=by
 obtain⟨bv,e,H⟩:=H;exact⟨bv,e,H.sub a⟩
theorem Cc {c n:Nat} {z cs:Array Value} {e:TypeId} {K:Value->PH->Prop} (H:(pt c (.cells z e (0,0))•C) g) (i:C3 C) (f:z.size=n) (a:cs.size=n) (k:∀x∈cs.toList,x.oneCell'=true) (j:∀g',C g'->K (.agg cs) g') :
  A9 n (.pointer (some ⟨c,0,none⟩)) (.agg cs) g λb=>A0 (some n) (.pointer (some ⟨c,0,none⟩)) b λd=>K d b:=by
 refine AN (cs:=cs) (AM H) f a (by rw[List.all_eq_true];exact k) ?_;rw[AI (AD _ _ _) (off:=0) (n:=n) (by omega)]
 have l:cs.extract 0 (0+n)=cs:=by
  rw[show 0+n=cs.size by omega,Array.extract_size]
 rw[l];exact j _ (AF i (Bb (p:=.cells cs e (0,0)) H))
theorem IA {o:Ord} (v:R (.ret (.bool (B0 o))) h):A7 Tryz.prog 165 #[o.v] h R:=by
 refine A7.drop (gz ?_);unfold kG jq3 gGW ivW;refine Ai λc G w u d=>?_;have l:=λK=>A5 (K:=K) d (show o.a[0]?=some (.int .i64 o.id)from rfl);have k:=λK=>A5 (K:=K) d (show o.a[1]?=some (.int .i64 o.own)from rfl);have j:=λK=>A5 (K:=K) d (show o.a[2]?=some (.int .i64 o.pr)from rfl);have i:=λK=>A5 (K:=K) d (show o.a[3]?=some (.int .i64 o.am)from rfl);have a:∀{t:Bool},B0 o=t->(∃g,Sub g G/\R (.ret (.bool t)) g):=λ{t} e=>⟨h,u,by rw[<-e];exact v⟩;have q:o.own<=15↔o.own<16:=by omega
 by_cases b:0<=o.id
 ·by_cases f:o.id<=9007199254740992
  ·by_cases m:0<=o.own
   ·by_cases n:o.own<16
    ·by_cases p:0<=o.pr
     ·by_cases r:o.pr<=1099511627776
      ·by_cases s:1<=o.am
       ·simp[l,k,j,i,b,f,m,q,n,p,r,s]
        exact a (by unfold B0;congr 1;simp[b,f,m,n,p,r,s])
       ·simp[l,k,j,i,b,f,m,q,n,p,r,s]
        exact a (by simp[B0,s])
      ·simp[l,k,j,i,b,f,m,q,n,p,r]
       exact a (by simp[B0,r])
     ·simp[l,k,j,i,b,f,m,q,n,p]
      exact a (by simp[B0,p])
    ·simp[l,k,j,i,b,f,m,q,n]
     exact a (by simp[B0,n])
   ·simp[l,k,j,i,b,f,m]
    exact a (by simp[B0,m])
  ·simp[l,k,j,i,b,f]
   exact a (by simp[B0,f])
 ·simp[l,k,j,i,b]
  exact a (by simp[B0,b])
theorem Nf {l:List Ord} {s:Value} {o:Ord} {K:Value->PH->Prop} (H:(OS 78 6 s l.length (ordsC l)•C) g) (D:l.length<=1000) (x:∀g' j,(OS 78 6 j (l ++ [o]).length (ordsC (l ++ [o]))•C) g'->K j g') :
  Aj 78 6 1 #[.int .i64 0,.int .i64 0,.int .i64 0,.int .i64 0,.int .i64 0,.bool false] [(0,o.v)] g λt38 c=>Ab false 78 6 48 s t38 c K:=by
 refine⟨_,GF o,λd p=>?_⟩;obtain⟨h0,y,n⟩:=Iw H
 refine Db (m:=1) (news:=o.a.toList) (n.up (AT _ p)) (by simp only[roomBytes];omega) (by omega) rfl
  (λJ f=>.inr (.inr ⟨rfl,d,0,1,1,_,_,_,rfl,AD _ _ _,by show 0+1*6<=6;omega,?_,f⟩)) (λI k A F u E cap a=>?_) λz t b=>?_
 ·intro v w
  have:v∈ordsC [o]:=w;exact Cy v this
 ·cases u
  intro e
  rcases n.buf with⟨i,_⟩ | ⟨g',G,r,i,q,_⟩
  ·rw[i]at a;cases a
  ·rw[i]at a;cases a;rw[<-e,p]at q;cases q
 ·rw[Gq]at b
  refine x z t (D0 y ?_);rw[List.length_append];exact b
theorem Jp {s:Value} (a:s.oneCell'=true) (n:Int):Instr.fill (λi=>[(0,1),(1,1)][i]?) #[Value.slice none 0 0,Value.int .i64 0] [(0,s),(1,.int .i64 n)]=some #[s,.int .i64 n]:=by
 cases s
 case agg=>simp[Value.oneCell']at a
 all_goals simp[Instr.fill,Value.cells]
theorem SQ (l:List Ord):Ev l (-1)=l:=by unfold Ev;rw[if_pos (by omega)]
theorem GT {l:List Ord} {at_:Int} {K:Value->PH->Prop} (H:C g) (f:C3 C) (b:BG g bv 6 l.length (ordsC l)) (d:l.length<=1000) (e:∀g' s,(OS 78 6 s (Ev l at_).length (ordsC (Ev l at_))•C) g'->K s g') :
  AA Tryz.prog 166 #[bv,.int .i64 at_] g K (λc h=>R (.pan c) h):=by
 refine Sj b d λg' s a=>?_;simp only[AK.elim];exact e g' s (D0 H a)
theorem di {o:Ord} (H:BG h bv 6 B.l.length (ordsC B.l)) (hlen:B.l.length<=64) (hnx:1<=B.next/\B.next<=9007199254740992) (c:∀g v,Sub h g->RB g v (E4 B o).2->R (.ret (.tuple #[v,.int .i64 (E4 B o).1])) g) :
  A7 Tryz.prog 133 #[.agg (rbA bv B.next),o.v] h R:=by
 refine iW ?_;unfold kp VD Ep CO FP gGW ivW pnW;rw[show Value.cells (.agg (rbA bv B.next))=rbA bv B.next from rfl,show Value.cells o.v=o.a from rfl];refine Ai λt2 d _ r z=>AX λt3 h3=>?_;have U:(pt t3 (.cells o.a 78 (0,0))•Own d) (ins d t3 (.cells o.a 78 (0,0))):=Ar h3 (Sub.refl d);revert U;generalize ins d t3 (.cells o.a 78 (0,0))=g2;intro U;refine AX λt4 h4=>?_;have w:=Ar (o:=.cells #[.slice none 0 0,.int .i64 0] 110 (0,0)) h4 U;revert w;generalize ins g2 t4 (.cells #[.slice none 0 0,.int .i64 0] 110 (0,0))=g3;intro w;have S:∀X Y Z:PH->Prop,X•Y•Z=Y•X•Z:=λ_ _ _=>by ac_rfl
 have m:=w;rw[S]at m;have y:=AM m;have b:Sub d g3:=AF Own.mono (AF (A8 _ _) w);have k2':=b _ _ z;have l6:=λK=>AI (K:=K) y (off:=0) (n:=6) (by show 0+6<=6;omega);have P:o.a.extract 0 (0+6)=o.a:=rfl;rw[P]at l6;have l4:=λK=>A5 (K:=K) y (show o.a[4]?=some (.int .i64 o.pl)from rfl);have l0:=λK=>A5 (K:=K) y (show o.a[0]?=some (.int .i64 o.id)from rfl)
 have b2:∀g,Sub d g->∀K,A0 (some 2) (.pointer (some ⟨t2,0,none⟩)) g K↔K (.agg (rbA bv B.next)):=λg t K=>by
  rw[AI (t _ _ z) (off:=0) (n:=2) (by show 0+2<=2;omega)];rfl
 have E:∀g,Sub d g->∀K,A0 none (.pointer (some ⟨t2,0,none⟩)) g K↔K bv:=λg t K=>A5 (t _ _ z) rfl;have b1:∀g,Sub d g->∀K,A0 none (.pointer (some ⟨t2,1,none⟩)) g K↔K (.int .i64 B.next):=λg t K=>A5 (t _ _ z) rfl
 have one2:∀{v:Value} {n:Int},v.oneCell'=true->∀x∈(#[v,.int .i64 n]:Array Value).toList,x.oneCell'=true:=λhv x hx=>by
  simp only[List.mem_cons,List.not_mem_nil,or_false]at hx
  rcases hx with rfl | rfl
  ·exact hv
  ·rfl
 have a:∀e:Int,(∀g v,Sub h g->RB g v B->R (.ret (.tuple #[v,.int .i64 e])) g)->A9 2 (.pointer (some ⟨t4,0,none⟩)) (.agg (rbA bv B.next)) g3 λq=>A0 (some 2) (.pointer (some ⟨t4,0,none⟩)) q λs=>R (.ret (.tuple #[s,.int .i64 e])) q:=λe D=>
  Cc (K:=λs q=>R (.ret (.tuple #[s,.int .i64 e])) q) w (A8 _ _) rfl rfl (one2 H.v1) λg' H'=>by
   have s':Sub d g':=AF Own.mono H';exact D g' _ (r.trans s') ⟨bv,rfl,H.sub (r.trans s')⟩
 have j:=H.sub (r.trans b);unfold E4 at c;rw[l6];refine IA ?_;simp only[AK.elim];cases D:B0 o with
 | false=>
  rw[if_pos (.inl D)]at c;have:=a 1 c;simp[b2 g3 b];exact this
 | true=>
  by_cases f:o.pl=0
  ·rw[if_neg (by simp[D,f])]at c
   simp[l4,f,l0,b2 g3 b];refine RJ j (by omega) ?_;simp only[AK.elim];cases i:idx B.l o.id with
   | some k=>
    rw[i]at c;rw[FJ i];have:=a 63 (by simpa using c);simp[b2 g3 b];exact this
   | none=>
    rw[i]at c;rw[Gv i]
    by_cases N:B.l.length=64
    ·rw[if_neg (by simp),if_pos (.inl N)]at c
     have:=a 2 c;have h64':(64:Int)<=(B.l.length:Int):=by omega
     simp[E g3 b,b1 g3 b,b2 g3 b,j.lens,h64'];exact this
    ·by_cases M:9007199254740992<=B.next
     ·rw[if_neg (by simp),if_pos (.inr M)]at c
      have:=a 2 c;have h64':¬(64:Int)<=(B.l.length:Int):=by omega
      simp[E g3 b,b1 g3 b,b2 g3 b,j.lens,h64',M];exact this
     ·rw[if_neg (by simp),if_neg (by omega)]at c
      have h64':¬(64:Int)<=(B.l.length:Int):=by omega
      have w1:IntKind.i64.wrap (B.next+1)=B.next+1:=w64 (by omega) (by omega);simp only[AH,Ad,E g3 b,b1 g3 b,b2 g3 b,j.lens,By,AZ,C7,Al,AB,h64',M,BW,B6,cond_true,cond_false,Ba,C1,CI,ne_eq,Bx,CJ,true_and,and_true,reduceCtorEq];refine⟨λe=>absurd e (by decide),λ_=>?_⟩;rw[Aw y (by show 4<6;omega) rfl];have u:=Bb (p:=.cells (Ord.a {o with pl:=B.next}) 78 (0,0)) m;revert u;rw[show o.a.setIfInBounds 4 (.int .i64 B.next)=Ord.a {o with pl:=B.next} from rfl];generalize ins g3 t3 (.cells (Ord.a {o with pl:=B.next}) 78 (0,0))=g4;intro u;have L:=AM u;have l:Sub d g4:=AF Own.mono (AF (A8 _ _) u)
      have W:∀g,g t3=some (.cells (Ord.a {o with pl:=B.next}) 78 (0,0))->∀K,A0 (some 6) (.pointer (some ⟨t3,0,none⟩)) g K↔K (Ord.v {o with pl:=B.next}):=λg k K=>by
       rw[AI k (off:=0) (n:=6) (by show 0+6<=6;omega)];rfl
      rw[E g4 l,W g4 L,b1 g4 l,AG,w1];refine⟨⟨_,GF _,λ_ _=>trivial⟩,?_⟩;refine GT u (A8 _ _) (H.sub (r.trans l)) (by omega) λO s5 T=>?_;rw[SQ]at T;have H6':=AF (A8 _ _) T;have J:Sub d O:=AF Own.mono (AF (A8 _ _) H6');rw[W O (AM H6'),b1 O J];refine⟨rfl,rfl,?_⟩;refine Nf (o:={o with pl:=B.next}) T (by omega) λg6 s6 F=>?_;have H7':=AF (A8 _ _) F;have I:Sub d g6:=AF Own.mono (AF (A8 _ _) H7');rw[b1 g6 I];have V:=BL (AJ OS.mono F);refine⟨rfl,_,Jp V _,?_⟩;have e7:∀A P3 P4 Q:PH->Prop,A•P3•P4•Q=P4•A•P3•Q:=λ_ _ _ _=>by ac_rfl
      rw[e7]at F;refine Cc (K:=λs q=>R (.ret (.tuple #[s,.int .i64 0])) q) F (A8 _ _) rfl rfl (one2 V) λg7 H8=>?_;have G:Sub d g7:=AF Own.mono (AF (A8 _ _) H8);exact c g7 _ (r.trans G) ⟨s6,rfl,CC (AJ OS.mono H8) Cy⟩
  ·rw[if_pos (.inr f)]at c
   have:=a 1 c;simp[l4,f,b2 g3 b];exact this
end
theorem fr {f:FuncId} {args:Array Value} {h:PH} {A C:PH->Prop} {K:Value->PH->Prop} {Kp:KP} {X:Type} {val:X->Value} {Q:X->PH->Prop}
  (H:(A•C) h) (d:C3 A) (k:∀g,A g->∀R:RT,(∀g' x,Sub g g'->Q x g'->R (.ret (val x)) g')->A7 Tryz.prog f args g R)
  (i:∀x g',((λq=>Q x q/\A q)•C) g'->K (val x) g'):AA Tryz.prog f args h K Kp:=by
 refine A7.sep (Q:=λe g=>∃x,e = .ret (val x)/\(Q x g/\A g)) H (λg b=>k g b _ λg' x c a=>⟨x,rfl,a,d _ _ c b⟩) λe g a=>?_;obtain⟨x,m⟩:=Nz.1 a;obtain⟨j,l⟩:=L7.1 m;rw[j];exact i x g l
theorem B3 {A B:PH->Prop} (e:C3 A) (d:C3 B):C3 λq=>A q/\B q:=λa b c H=>⟨e _ _ c H.1,d _ _ c H.2⟩
theorem BG.mono {v:Value} {esz n:Nat} {cs:List Value}:C3 λq=>BG q v esz n cs:=λa b c H=>H.sub c
theorem RB.mono {v:Value} {B:Bk}:C3 λq=>RB q v B:=λa b c H=>H.sub c
theorem RH.mono {v:Value} {S:Hs}:C3 λq=>RH q v S:=λa b c H=>H.sub c
theorem Dl.mono {v:Value} {A:Auc}:C3 λq=>Dl q v A:=λa b c H=>H.sub c
theorem Dl.v1 {h:PH} {v:Value} {A:Auc} (H:Dl h v A):v.oneCell'=true:=by
 obtain⟨k,b,_,a,_⟩:=H;exact a.v1
def Xg (l:List Value) (j:Nat) (vs:List Value):List Value:=l.take j++vs++l.drop (j+vs.length)
theorem T1 {l vs:List Value} {j i:Nat} (h:j+vs.length<=l.length):(Xg l j vs)[i]?=if j<=i/\i<j+vs.length then vs[i-j]? else l[i]?:=by
 unfold Xg;rw[List.append_assoc,List.getElem?_append,List.length_take,Nat.min_eq_left (by omega)]
 split
 ·rename_i c
  rw[if_neg (by omega),List.getElem?_take,if_pos c]
 ·rw[List.getElem?_append]
  split
  ·rw[if_pos (by omega)]
  ·rw[if_neg (by omega),List.getElem?_drop];congr 1;omega
theorem Zc {l vs:List Value} {j:Nat} (h:j+vs.length<=l.length):(Xg l j vs).length=l.length:=by
 unfold Xg;rw[List.length_append,List.length_append,List.length_take,List.length_drop];omega
theorem QG {f:Nat->List Value} {vs:List Value} {k n i:Nat} (d:∀a,(f a).length=k) (e:vs.length=k) (h0:0<k) (hi:i<n):Xg (BU f n) (i*k) vs=BU (λa=>if a=i then vs else f a) n:=by
 have h:∀a,((λa=>if a=i then vs else f a) a).length=k:=λa=>by
  show (if a=i then vs else f a).length=k
  split
  ·exact e
  ·exact d a
 have q:i*k+k<=n*k:=by
  have:(i+1)*k<=n*k:=Nat.mul_le_mul_right _ hi;rw[Nat.add_mul,Nat.one_mul]at this;exact this
 have t:=Fb d n;have p:=Fb h n;apply List.ext_getElem?;intro m;rw[T1 (by omega),e]
 rcases Nat.lt_or_ge m (n*k)with hm | hm
 ·have b:m/k<n:=(Nat.div_lt_iff_lt_mul h0).2 hm
  have g:m%k<k:=Nat.mod_lt _ h0;have j:m/k*k+m%k=m:=by rw[Nat.mul_comm];exact Nat.div_add_mod m k
  have o:=C4 d n (m/k) (m%k) b g;have l:=C4 h n (m/k) (m%k) b g;rw[j]at o l;rw[o,l]
  by_cases c:m/k=i
  ·rw[c]at j ⊢
   rw[if_pos (by omega)];simp only[if_true]
   congr 1;omega
  ·have:¬(i*k<=m/\m<i*k+k):=by
    rintro⟨s,r⟩;apply c;rw[Nat.div_eq_iff h0];rw[Nat.mul_comm]at s r;have:=Nat.mul_comm i k;omega
   rw[if_neg this];simp only[c,if_false]
 ·rw[if_neg (by omega),List.getElem?_eq_none (by omega),List.getElem?_eq_none (by omega)]
section
variable {h g:PH} {e:TypeId} {esz n:Nat} {s:Value} {l:List Value} {C:PH->Prop}
theorem Zj {j m:Nat} {cs:Array Value} (H:(OS e esz s n l•C) h) (z:cs.size=m) (L:j+m<=n*esz) (h0:0<m) (I:∀x∈cs.toList,x.oneCell'=true) :
  ∃b cap,s = .slice (some ⟨b,0,none⟩) n cap/\∀K:PH->Prop,(∀F,(OS e esz s n (Xg l j cs.toList)•C) F->K F)->A9 m (.pointer (some ⟨b,j,none⟩)) (.agg cs) h K:=by
 obtain⟨N,E,d,y,G,o,c⟩:=H;have A:=o.len
 rcases o.buf with⟨_,O,_⟩ | ⟨b,P,cap,rfl,D,u,f,t⟩
 ·rw[O,Nat.zero_mul]at L;omega
 ·have B:n*esz<=cap*esz:=Nat.mul_le_mul_right _ f
  have k:E b=none:=d b (by rw[D];simp);have M:cs.toList.length=m:=by rw[Array.length_toList,z]
  refine⟨b,cap,rfl,λK J=>(Hx (v:=.agg cs) (y _ _ D) z (by omega) (by rw[List.all_eq_true];exact I)).2 (J _ ?_)⟩;refine⟨ins N b (.cells (wr P j cs.toList) e (0,0)),E,λx a=>?_,y.both,λx p a=>?_,⟨by rw[Zc (by omega)];exact o.len,.inr ⟨b,_,cap,rfl,AD _ _ _,by rw[FA];exact u,f,?_⟩⟩,c⟩
  ·by_cases r:x=b
   ·subst r;exact k
   ·rw[Aq _ _ r]at a;exact d x a
  ·rw[Aq _ _ (λr=>by rw[r,k]at a;cases a)];exact G _ _ a
  ·apply List.ext_getElem?
   intro i;rw[T1 (by omega),List.getElem?_take,Array.getElem?_toList,EH]
   by_cases w:i<n*esz
   ·rw[if_pos w]
    by_cases q:j<=i/\i<j+cs.toList.length
    ·rw[if_pos ⟨q.1,q.2,by omega⟩,if_pos q]
    ·rw[if_neg (λh=>q ⟨h.1,h.2.1⟩),if_neg q,<-t,List.getElem?_take,if_pos w,Array.getElem?_toList]
   ·rw[if_neg w,if_neg (by omega),List.getElem?_eq_none (by omega)]
end
def CP (t:Nat) (S:Hs) (b c a:Value) (bs ss:Nat->Value):PH->Prop:=
 pt t (rhO S.L.goods S.now b c a)•OS 108 7 b S.L.n (BU (clC S.L) S.L.n)•OS 110 2 c S.G (BU (bkC bs S) S.G)•OS 115 7 a S.G (BU (saC ss S) S.G)
structure Ps (h:PH) (S:Hs) (bs ss:Nat->Value):Prop where
 b:∀g,g<S.G->BG h (bs g) 6 (S.bk g).l.length (ordsC (S.bk g).l)
 a:∀g A w,g<S.G->S.au g=some (A,w)->Dl h (ss g) A
def F8 (f:Nat->Value) (i:Nat) (v:Value):Nat->Value:=λk=>if k=i then v else f k
section
variable {h g:PH} {R:RT} {C:PH->Prop} {S:Hs} {Lv Bv Sv:Value} {bs ss:Nat->Value} {t:Nat}
theorem RHp.side (H:RHp h S Lv Bv Sv bs ss):Ps h S bs ss:=⟨H.b,H.a⟩
theorem CP.mono:C3 (CP t S Lv Bv Sv bs ss):=A8 _ _
theorem Ry (L:Led) (n:Nat):∀x∈BU (clC L) n,x.oneCell'=true:=QH λa x b=>by
 simp only[clC,List.mem_cons,List.not_mem_nil,or_false]at b
 rcases b with rfl | rfl | rfl | rfl | rfl | rfl | rfl <;> rfl
theorem KR {f:Nat->List Value} {n:Nat} (h:∀i,i<n->∀x∈f i,x.oneCell'=true):∀x∈BU f n,x.oneCell'=true:=by
 intro x a;obtain⟨i,b,hi⟩:=List.mem_flatMap.1 a;exact h i (List.mem_range.1 b) x hi
theorem Ws (H:Ps h S bs ss):∀x∈BU (bkC bs S) S.G,x.oneCell'=true:=KR λi hi x a=>by
 simp only[bkC,List.mem_cons,List.not_mem_nil,or_false]at a
 rcases a with rfl | rfl
 ·exact (H.b i hi).v1
 ·rfl
theorem L9 (H:Ps h S bs ss) {i:Nat} (hi:i<S.G):∀x∈saC ss S i,x.oneCell'=true:=λx a=>by
 unfold saC at a;cases b:S.au i with
 | none=>
  rw[b]at a;simp only[List.mem_cons,List.not_mem_nil,or_false]at a
  rcases a with rfl | rfl | rfl | rfl | rfl | rfl | rfl <;> rfl
 | some q=>
  obtain⟨A,w⟩:=q;rw[b]at a;simp only[List.mem_cons,List.not_mem_nil,or_false]at a
  rcases a with rfl | rfl | rfl | rfl | rfl | rfl | rfl
  all_goals first | rfl | exact (H.a i A w hi b).v1
theorem Jv (H:(CP t S Lv Bv Sv bs ss•C) h):(pt t (rhO S.L.goods S.now Lv Bv Sv)•OS 108 7 Lv S.L.n (BU (clC S.L) S.L.n)•OS 110 2 Bv S.G (BU (bkC bs S) S.G)•OS 115 7 Sv S.G (BU (saC ss S) S.G)•C) h:=by
 unfold CP at H;rw[Bf,Bf,Bf]at H;exact H
theorem Ju (H:(pt t (rhO S.L.goods S.now Lv Bv Sv)•OS 108 7 Lv S.L.n (BU (clC S.L) S.L.n)•OS 110 2 Bv S.G (BU (bkC bs S) S.G)•OS 115 7 Sv S.G (BU (saC ss S) S.G)•C) h):(CP t S Lv Bv Sv bs ss•C) h:=by
 unfold CP;rw[Bf,Bf,Bf];exact H
theorem CP.rh (H:CP t S Lv Bv Sv bs ss h) (Hs:Ps h S bs ss):RHp h S Lv Bv Sv bs ss:=by
 have b:=AF (A8 _ _) H;have a:=AF (A8 _ _) b;exact⟨CC (AJ OS.mono b) (Ry _ _),CC (AJ OS.mono a) (Ws Hs),CC (AF OS.mono a) (KR λi hi=>L9 Hs hi),Hs.b,Hs.a⟩
theorem CP.k (H:(CP t S Lv Bv Sv bs ss•C) h):h t=some (rhO S.L.goods S.now Lv Bv Sv):=AM (Jv H)
theorem CP.ones (H:CP t S Lv Bv Sv bs ss h):Lv.oneCell'=true/\Bv.oneCell'=true/\Sv.oneCell'=true:=by
 have b:=AF (A8 _ _) H;have a:=AF (A8 _ _) b;exact⟨BL (AJ OS.mono b),BL (AJ OS.mono a),BL (AF OS.mono a)⟩
theorem Fo {gd now:Int} (c:Lv.oneCell'=true) (d:Bv.oneCell'=true) (b:Sv.oneCell'=true):∀x∈(rhA gd now Lv Bv Sv).toList,x.oneCell'=true:=λx a=>by
 simp only[rhA,List.mem_cons,List.not_mem_nil,or_false]at a
 rcases a with rfl | rfl | rfl | rfl | rfl
 ·rfl
 ·rfl
 ·exact c
 ·exact d
 ·exact b
theorem Io {K:Value->PH->Prop} {Kp:KP} (n:C h) (l:C3 C) (e:RHp h S Lv Bv Sv bs ss) (w:S.L.n<=16) (x:S.G<=4)
  (m:∀g t b c a,(CP t S b c a bs ss•C) g->K (ptr t) g) :
  AA Tryz.prog 46 #[.agg (rhA S.L.goods S.now Lv Bv Sv)] h (λv u=>Ag #[.int .i64 0,.int .i64 0,.slice none 0 0,.slice none 0 0,.slice none 0 0] 52 u λt s=>A9 5 t v s λr=>K t r) Kp:=by
 refine O9 e.L e.B e.A (by omega) (by omega) (by omega) λy b c a d=>?_;simp only[AK.elim];refine AX λt9 p=>?_;have f:=BL (AJ OS.mono d);have i:=BL (AJ OS.mono (AF (A8 _ _) d));have j:=BL (AJ OS.mono (AF (A8 _ _) (AF (A8 _ _) d)));refine AN (cs:=rhA S.L.goods S.now b c a) (AD _ _ _) (by rfl) (by rfl) (by rw[List.all_eq_true];exact Fo f i j) ?_;rw[An];have H3':=AU d (λ_ h=>h) λ_ h=>AU h (λ_ h=>h) λ_ h=>AU h (λ_ h=>h) λq k=>l _ _ k n;exact m _ _ _ _ _ (Ju (Ar (o:=rhO S.L.goods S.now b c a) p H3'))
theorem NY {gd:Nat} {B:Bk} {d:Value} {K:PH->Prop} (H:(CP t S Lv Bv Sv bs ss•C) h) (k:gd<S.G) (r:d.oneCell'=true) (q:∀g,(CP t (S.setBk gd B) Lv Bv Sv (F8 bs gd d) ss•C) g->K g) :
  AR 2 Bv (.int .i64 gd) λp=>A9 2 p (.agg #[d,.int .i64 B.next]) h K:=by
 have o:=Jv H;have v:∀P A B D Q:PH->Prop,P•A•B•D•Q=B•(P•A•D•Q):=λ_ _ _ _ _=>by ac_rfl
 have u:∀P A B D Q:PH->Prop,B•(P•A•D•Q)=P•A•B•D•Q:=λ_ _ _ _ _=>by ac_rfl
 rw[v]at o
 obtain⟨b,cap,f,e⟩:=Zj (j:=gd*2) (m:=2) (cs:=#[d,.int .i64 B.next]) o rfl (by omega) (by omega) (λx n=>by
  simp only[List.mem_cons,List.not_mem_nil,or_false]at n
  rcases n with rfl | rfl
  ·exact r
  ·rfl)
 rw[f,B9];refine⟨by omega,by omega,?_⟩;rw[show 0+(gd:Int).toNat*2=gd*2 by omega];refine e _ λg l=>q g (Ju ?_);rw[QG (Na bs S) rfl (by omega) k]at l
 have s:BU (λa=>if a=gd then (#[d,Value.int .i64 B.next]:Array Value).toList else bkC bs S a) S.G=BU (bkC (F8 bs gd d) (S.setBk gd B)) (S.setBk gd B).G:=by
  refine G7 λi hi=>?_;unfold bkC F8 Hs.setBk
  by_cases c:i=gd
  ·subst c;simp
  ·simp[c]
 rw[s,u]at l;exact l
theorem NX {gd:Nat} {X:Option (Auc×Int)} {f:Value} {cs:Array Value} {K:PH->Prop} (H:(CP t S Lv Bv Sv bs ss•C) h) (o:gd<S.G) (y:f.oneCell'=true) (d:cs.toList=saC (F8 ss gd f) (S.setAu gd X) gd) (v:∀g,(CP t (S.setAu gd X) Lv Bv Sv bs (F8 ss gd f)•C) g->K g) :
  AR 7 Sv (.int .i64 gd) λp=>A9 7 p (.agg cs) h K:=by
 have u:=Jv H;have G:∀P A B D Q:PH->Prop,P•A•B•D•Q=D•(P•A•B•Q):=λ_ _ _ _ _=>by ac_rfl
 have F:∀P A B D Q:PH->Prop,D•(P•A•B•Q)=P•A•B•D•Q:=λ_ _ _ _ _=>by ac_rfl
 rw[G]at u;have k:cs.size=7:=by rw[<-Array.length_toList,d,Em]
 obtain⟨b,cap,n,l⟩:=Zj (j:=gd*7) (m:=7) (cs:=cs) u k (by omega) (by omega) (λx e=>by
  rw[d]at e;unfold saC at e;have z:F8 ss gd f gd=f:=if_pos rfl;cases s:(S.setAu gd X).au gd with
  | none=>
   rw[s]at e;simp only[List.mem_cons,List.not_mem_nil,or_false]at e
   rcases e with rfl | rfl | rfl | rfl | rfl | rfl | rfl <;> rfl
  | some q=>
   obtain⟨A,w⟩:=q;rw[s]at e;simp only[List.mem_cons,List.not_mem_nil,or_false,z]at e
   rcases e with rfl | rfl | rfl | rfl | rfl | rfl | rfl
   all_goals first | rfl | exact y)
 rw[n,B9];refine⟨by omega,by omega,?_⟩;rw[show 0+(gd:Int).toNat*7=gd*7 by omega];refine l _ λg r=>v g (Ju ?_);rw[QG (Em ss S) (by rw[d,Em]) (by omega) o]at r
 have E:BU (λa=>if a=gd then cs.toList else saC ss S a) S.G=BU (saC (F8 ss gd f) (S.setAu gd X)) (S.setAu gd X).G:=by
  refine G7 λi hi=>?_
  by_cases c:i=gd
  ·subst c;simp only[if_true];exact d
  ·have J:(S.setAu gd X).au i=S.au i:=by simp[Hs.setAu,c]
   have I:F8 ss gd f i=ss i:=if_neg c;simp only[c,if_false];unfold saC;rw[J,I]
 rw[E,F]at r;exact r
theorem MZ {t6:Nat} {z:Array Value} {A:PH->Prop} {K:Value->PH->Prop} (H:(CP t S Lv Bv Sv bs ss•A•pt t6 (.cells z 52 (0,0))) h) (o:C3 A) (l:z.size=5) (m:∀q,A q->Ps q S bs ss) (p:∀g v,A g->RH g v S->K v g) :
  A0 (some 5) (.pointer (some ⟨t,0,none⟩)) h λv=>A9 5 (.pointer (some ⟨t6,0,none⟩)) v h λc=>A0 (some 5) (.pointer (some ⟨t6,0,none⟩)) c λf=>K f c:=by
 have a:=CP.k H;rw[AI a (off:=0) (n:=5) (by show 0+5<=5;omega),show (rhA S.L.goods S.now Lv Bv Sv).extract 0 (0+5)=rhA S.L.goods S.now Lv Bv Sv from rfl];obtain⟨i,j,k⟩:=CP.ones (AJ CP.mono H);have e:∀P Q T:PH->Prop,P•Q•T=T•(P•Q):=λ_ _ _=>by ac_rfl
 rw[e]at H;refine Cc (K:=K) H (A8 _ _) l rfl (Fo i j k) λg' d=>?_;have b:=AF o d;exact p g' _ b ⟨Lv,Bv,Sv,bs,ss,rfl,CP.rh (AJ CP.mono d) (m _ b)⟩
end
section
variable {h g:PH} {R:RT} {B:Bk} {bv:Value} {C:PH->Prop} {id own:Int}
theorem one2 {v:Value} {n:Int} (b:v.oneCell'=true):∀x∈(#[v,.int .i64 n]:Array Value).toList,x.oneCell'=true:=λx a=>by
 simp only[List.mem_cons,List.not_mem_nil,or_false]at a
 rcases a with rfl | rfl
 ·exact b
 ·rfl
theorem Yh (l:List Ord) (k:Nat):Ev l (k:Int)=l.eraseIdx k:=by unfold Ev;rw[if_neg (by omega),BR]
theorem Up (H:BG h bv 6 B.l.length (ordsC B.l)) (z:B.l.length<=64) (b:∀g v,Sub h g->RB g v (CN B id own).2->R (.ret (.tuple #[v,.int .i64 (CN B id own).1])) g) :
  A7 Tryz.prog 134 #[.agg (rbA bv B.next),.int .i64 id,.int .i64 own] h R:=by
 refine iV ?_;unfold ko VD Ep ivW pnW;rw[show Value.cells (.agg (rbA bv B.next))=rbA bv B.next from rfl];refine Ai λt2 a _ q u=>AX λt4 J=>?_;have p:(pt t4 (.cells #[.slice none 0 0,.int .i64 0] 110 (0,0))•Own a) (ins a t4 (.cells #[.slice none 0 0,.int .i64 0] 110 (0,0))):=Ar J (Sub.refl a);revert p;generalize ins a t4 (.cells #[.slice none 0 0,.int .i64 0] 110 (0,0))=g3;intro p;have d:Sub a g3:=AF Own.mono p
 have b2:∀g,Sub a g->∀K,A0 (some 2) (.pointer (some ⟨t2,0,none⟩)) g K↔K (.agg (rbA bv B.next)):=λg j K=>by
  rw[AI (j _ _ u) (off:=0) (n:=2) (by show 0+2<=2;omega)];rfl
 have L:∀g,Sub a g->∀K,A0 none (.pointer (some ⟨t2,0,none⟩)) g K↔K bv:=λg j K=>A5 (j _ _ u) rfl;have b1:∀g,Sub a g->∀K,A0 none (.pointer (some ⟨t2,1,none⟩)) g K↔K (.int .i64 B.next):=λg j K=>A5 (j _ _ u) rfl
 have c:∀e:Int,(∀g v,Sub h g->RB g v B->R (.ret (.tuple #[v,.int .i64 e])) g)->A9 2 (.pointer (some ⟨t4,0,none⟩)) (.agg (rbA bv B.next)) g3 λf=>A0 (some 2) (.pointer (some ⟨t4,0,none⟩)) f λi=>R (.ret (.tuple #[i,.int .i64 e])) f:=λe G=>
  Cc (K:=λi f=>R (.ret (.tuple #[i,.int .i64 e])) f) p Own.mono rfl rfl (one2 H.v1) λg' x=>G g' _ (q.trans x) ⟨bv,rfl,H.sub (q.trans x)⟩
 have l:=H.sub (q.trans d);rw[b2 g3 d];refine W8 l (by omega) ?_;simp only[AK.elim,Av,Au];unfold CN at b;unfold Zg;cases w:idx B.l id with
 | none=>
  rw[w]at b;have:=c 3 b;simp[b2 g3 d];exact this
 | some k=>
  obtain⟨M,⟨o,I,_⟩,_⟩:=Dt w;rw[w]at b;simp only[I]at b ⊢
  by_cases r:o.own=own
  ·rw[if_neg (λe=>e r)]at b
   simp[L g3 d,b1 g3 d,r];refine GT p (A8 _ _) l (by omega) λD F m=>?_;have t:Sub a D:=AF Own.mono (AF (A8 _ _) m);rw[Yh]at m;have y:=BL (AJ OS.mono m);rw[b1 D t];refine⟨rfl,_,Jp y _,?_⟩;rw[Es]at m;refine Cc (K:=λi f=>R (.ret (.tuple #[i,.int .i64 0])) f) m (A8 _ _) rfl rfl (one2 y) λA E=>?_;have s:Sub a A:=AF Own.mono E;exact b A _ (q.trans s) ⟨F,rfl,CC (AJ OS.mono E) Cy⟩
  ·rw[if_pos r]at b
   have:=c 80 b;simp[b2 g3 d,r];exact this
theorem Xf {p m:Int} (H:BG h bv 6 B.l.length (ordsC B.l)) (hlen:B.l.length<=64) (hnx:1<=B.next/\B.next<=9007199254740992) (a:∀g v,Sub h g->RB g v (Bw B id own p m).2->R (.ret (.tuple #[v,.int .i64 (Bw B id own p m).1])) g) :
  A7 Tryz.prog 131 #[.agg (rbA bv B.next),.int .i64 id,.int .i64 own,.int .i64 p,.int .i64 m] h R:=by
 refine ib ?_;unfold kr VD Ep CO FP gAW gGW ivW pnW;rw[show Value.cells (.agg (rbA bv B.next))=rbA bv B.next from rfl];refine Ai λt2 c _ E k2=>AX λt4 h4=>?_;have H4:(pt t4 (.cells #[.slice none 0 0,.int .i64 0] 110 (0,0))•Own c) (ins c t4 (.cells #[.slice none 0 0,.int .i64 0] 110 (0,0))):=Ar h4 (Sub.refl c);revert H4;generalize ins c t4 (.cells #[.slice none 0 0,.int .i64 0] 110 (0,0))=g3;intro H4;have U:Sub c g3:=AF Own.mono H4
 have b2:∀g,Sub c g->∀K,A0 (some 2) (.pointer (some ⟨t2,0,none⟩)) g K↔K (.agg (rbA bv B.next)):=λg t K=>by
  rw[AI (t _ _ k2) (off:=0) (n:=2) (by show 0+2<=2;omega)];rfl
 have b0:∀g,Sub c g->∀K,A0 none (.pointer (some ⟨t2,0,none⟩)) g K↔K bv:=λg t K=>A5 (t _ _ k2) rfl;have b1:∀g,Sub c g->∀K,A0 none (.pointer (some ⟨t2,1,none⟩)) g K↔K (.int .i64 B.next):=λg t K=>A5 (t _ _ k2) rfl
 have f:∀(e:Int) (g:PH) (X:PH->Prop),(pt t4 (.cells #[.slice none 0 0,.int .i64 0] 110 (0,0))•X•Own c) g->(∀g v,Sub h g->RB g v B->R (.ret (.tuple #[v,.int .i64 e])) g)->A9 2 (.pointer (some ⟨t4,0,none⟩)) (.agg (rbA bv B.next)) g λx=>A0 (some 2) (.pointer (some ⟨t4,0,none⟩)) x λF=>R (.ret (.tuple #[F,.int .i64 e])) x:=λe g X Hg hr=>
  Cc (K:=λF x=>R (.ret (.tuple #[F,.int .i64 e])) x) Hg (A8 _ _) rfl rfl (one2 H.v1) λg' H'=>by
   have s':Sub c g':=AF Own.mono H';exact hr g' _ (E.trans s') ⟨bv,rfl,H.sub (E.trans s')⟩
 have H4e:(pt t4 (.cells #[.slice none 0 0,.int .i64 0] 110 (0,0))•emp•Own c) g3:=by
  have:=L6 H4;have e:∀X Y Z:PH->Prop,(X•Y)•Z=X•Z•Y:=λ_ _ _=>by ac_rfl
  rw[e]at this;exact this
 have Hg3:=H.sub (E.trans U);rw[b2 g3 U];refine W8 Hg3 (by omega) ?_;simp only[AK.elim,Av,Au];unfold Bw at a;unfold Zg;cases hx:idx B.l id with
 | none=>
  rw[hx]at a;have:=f 3 g3 emp H4e a;simp[b2 g3 U];exact this
 | some k=>
  obtain⟨hk,⟨o,ho,_⟩,_⟩:=Dt hx;rw[hx]at a;simp only[ho]at a ⊢
  by_cases c1:o.own=own
  case neg=>
   rw[if_pos c1]at a;have:=f 80 g3 emp H4e a;simp[b2 g3 U,c1];exact this
  rw[if_neg (λe=>e c1)]at a;obtain⟨b,off,q1,q2⟩:=EV Hg3 ho;simp only[c1,if_true,BB,AB,B6,Bool.not_true,AH,Ad,b0 g3 U,q1,(q2 g3 (Sub.refl g3)).2];refine nF ?_;refine AX λt14 h14=>?_;refine AN (cs:=o.a) (AD _ _ _) (by rfl) (by rfl) (by rfl) ?_;rw[An];have H5:=Ar (o:=.cells o.a 78 (0,0)) h14 H4;revert H5;generalize ins g3 t14 (.cells o.a 78 (0,0))=g4;intro H5;have k5:=AM H5;have l2:=λK=>A5 (K:=K) k5 (show o.a[2]?=some (.int .i64 o.pr)from rfl);have l3:=λK=>A5 (K:=K) k5 (show o.a[3]?=some (.int .i64 o.am)from rfl);obtain⟨st,j⟩:∃st,st=(decide (o.pr=p)&&decide (m<=o.am)):=⟨_,rfl⟩
  have J:∀T:Value->PH->Prop,T (.bool st) g4->gq (B5 (.bool (decide (o.pr=p)))) true (λK=>K (.int .i64 m) g4) (λt38 h_7=>gq (B5 (.bool (decide (o.pr=p)))) true (λK_1=>vFA 3 (ptr t14) λu=>K_1 u h_7) (λt39 I=>gq (B5 (.bool (decide (o.pr=p)))) true (λK_2=>A0 none t39 I λu_1=>K_2 u_1 I) (λt40 h_9=>gq (B5 (.bool (decide (o.pr=p)))) true (λK_3=>A6 Tryz.prog .leq 3 t38 t40 λu_2=>K_3 u_2 h_9) (λt41 h_10=>AP (.bool (decide (o.pr=p))) t41 (.bool false) λt42=>T t42 h_10) h_9) I) h_7) g4:=λT hT=>by
   rw[j]at hT
   by_cases c2:o.pr=p
   ·simp[c2,l3]at hT ⊢
    exact hT
   ·simp[c2]at hT ⊢
    exact hT
  rw[AH,Ad,l2,BC];refine J _ ?_;rw[AH,Ad,Aw k5 (by show 2<6;omega) rfl];have H6:=Bb (p:=.cells (Ord.a {o with pr:=p}) 78 (0,0)) H5;revert H6;rw[show o.a.setIfInBounds 2 (.int .i64 p)=Ord.a {o with pr:=p} from rfl];generalize ins g4 t14 (.cells (Ord.a {o with pr:=p}) 78 (0,0))=g5;intro H6;rw[AH,Ad,Aw (AM H6) (by show 3<6;omega) rfl];have w:=Bb (p:=.cells (Ord.a {o with pr:=p,am:=m}) 78 (0,0)) H6;revert w;rw[show (Ord.a {o with pr:=p}).setIfInBounds 3 (.int .i64 m)=Ord.a {o with pr:=p,am:=m} from rfl];generalize ins g5 t14 (.cells (Ord.a {o with pr:=p,am:=m}) 78 (0,0))=g6;intro w;obtain⟨l,ho2⟩:∃l:Ord,l = {o with pr:=p,am:=m}:=⟨_,rfl⟩;rw[<-ho2]at w a
  have m6:∀g,g t14=some (.cells l.a 78 (0,0))->∀K,A0 (some 6) (.pointer (some ⟨t14,0,none⟩)) g K↔K l.v:=λg k K=>by
   rw[AI k (off:=0) (n:=6) (by show 0+6<=6;omega)];rfl
  have i:Sub c g6:=AF Own.mono (AF (A8 _ _) w);have e7:∀X Y Z:PH->Prop,X•Y•Z=Y•X•Z:=λ_ _ _=>by ac_rfl
  have L:=w;rw[e7]at L;rw[m6 g6 (AM w)];refine IA ?_;simp only[AK.elim,Bm,AB];refine⟨λG=>?_,λG=>?_⟩
  ·have G:B0 l=false:=by simpa using G
   rw[if_pos G]at a;rw[b2 g6 i];exact f 1 g6 _ L a
  have G:B0 l=true:=by simpa using G
  rw[if_neg (by rw[G];simp)]at a;refine⟨λt=>?_,λt=>?_⟩
  ·have N:p=o.pr/\m<=o.am:=by
    rw[t]at j;have:=j.symm;simp only[Bool.and_eq_true,CF]at this;exact⟨this.1.symm,this.2⟩
   rw[if_pos N]at a;simp only[AH,Ad,b0 g6 i];refine GT w (A8 _ _) (H.sub (E.trans i)) (by omega) λP s7 s=>?_;rw[SQ]at s;rw[m6 P (AM (AF (A8 _ _) s))];obtain⟨h0,hc0,ob⟩:=Iw s;refine RN (o':=l) ob ho λO ob8=>?_;have y:=D0 hc0 ob8;have z:Sub c O:=AF Own.mono (AF (A8 _ _) (AF (A8 _ _) y));have o9:=BL (AJ OS.mono y);rw[b1 O z];refine⟨_,Jp o9 _,?_⟩;have e9:∀A r P4 Q:PH->Prop,A•r•P4•Q=P4•A•r•Q:=λ_ _ _ _=>by ac_rfl
   rw[e9]at y;refine Cc (K:=λF x=>R (.ret (.tuple #[F,.int .i64 0])) x) y (A8 _ _) rfl rfl (one2 o9) λg9 d=>?_;have q:Sub c g9:=AF Own.mono (AF (A8 _ _) d);refine a g9 _ (E.trans q) ⟨s7,rfl,?_⟩;have:=CC (AJ OS.mono d) Cy;rw[List.length_set];exact this
  ·have N:¬(p=o.pr/\m<=o.am):=by
    rw[t]at j;intro N;rw[N.1]at j;simp[N.2]at j
   rw[if_neg N]at a;simp only[AH,Ad,b0 g6 i,b1 g6 i,b2 g6 i,By,AB];refine⟨λhn=>?_,λhn=>?_⟩
   ·rw[if_pos (of_decide_eq_true hn)]at a
    exact f 2 g6 _ L a
   ·have hn:=of_decide_eq_false hn
    rw[if_neg hn]at a;have w1:IntKind.i64.wrap (B.next+1)=B.next+1:=w64 (by omega) (by omega);rw[Aw (AM w) (by show 4<6;omega) rfl];have s:=Bb (p:=.cells (Ord.a {l with pl:=B.next}) 78 (0,0)) w;revert s;rw[show l.a.setIfInBounds 4 (.int .i64 B.next)=Ord.a {l with pl:=B.next} from rfl];generalize ins g6 t14 (.cells (Ord.a {l with pl:=B.next}) 78 (0,0))=P;intro s;obtain⟨M,W⟩:∃M:Ord,M = {l with pl:=B.next}:=⟨_,rfl⟩;have eo3:M = {o with pr:=p,am:=m,pl:=B.next}:=by rw[W,ho2]
    rw[<-W]at s;rw[<-eo3]at a
    have m7:∀g,g t14=some (.cells M.a 78 (0,0))->∀K,A0 (some 6) (.pointer (some ⟨t14,0,none⟩)) g K↔K M.v:=λg k K=>by
     rw[AI k (off:=0) (n:=6) (by show 0+6<=6;omega)];rfl
    have D:Sub c P:=AF Own.mono (AF (A8 _ _) s);rw[b0 P D,m7 P (AM s),b1 P D,AG,w1];refine⟨⟨by omega,_,GF _,λ_ _=>trivial⟩,?_⟩;refine GT s (A8 _ _) (H.sub (E.trans D)) (by omega) λO s8 y=>?_;rw[Yh]at y;have H9':=AF (A8 _ _) y;have z:Sub c O:=AF Own.mono (AF (A8 _ _) H9');rw[m7 O (AM H9'),b1 O z];have hle:=List.length_eraseIdx_le B.l k;simp only[show (1*6<=2^24)from by omega,show (0<6)from by omega,show (0<48)from by omega,show (Array.size #[(.int .i64 0:Value),(.int .i64 0:Value),(.int .i64 0:Value),(.int .i64 0:Value),(.int .i64 0:Value),(.bool false:Value)]=6)from rfl,true_and];refine Nf (o:=M) y (by omega) λg9 s9 d=>?_;have H10':=AF (A8 _ _) d;have q:Sub c g9:=AF Own.mono (AF (A8 _ _) H10');rw[b1 g9 q];have V:=BL (AJ OS.mono d);refine⟨rfl,_,Jp V _,?_⟩;have e10:∀A r P4 Q:PH->Prop,A•r•P4•Q=P4•A•r•Q:=λ_ _ _ _=>by ac_rfl
    rw[e10]at d;refine Cc (K:=λF x=>R (.ret (.tuple #[F,.int .i64 0])) x) d (A8 _ _) rfl rfl (one2 V) λg10 H11=>?_;have S:Sub c g10:=AF Own.mono (AF (A8 _ _) H11);exact a g10 _ (E.trans S) ⟨s9,rfl,CC (AJ OS.mono H11) Cy⟩
end
def IM (L M:Led):Prop:=M.n=L.n/\M.goods=L.goods/\M.r=L.r/\∀i c,c=0\/2<=c/\c<=5\/c=10->M.f i c=L.f i c
theorem Oa (L:Led):IM L L:=⟨rfl,rfl,rfl,λ_ _ _=>rfl⟩
theorem TK {A B C:Led} (h:IM A B) (k:IM B C):IM A C:=⟨k.1.trans h.1,k.2.1.trans h.2.1,k.2.2.1.trans h.2.2.1,λi c a=>(k.2.2.2 i c a).trans (h.2.2.2 i c a)⟩
theorem MM {L:Led} {k a:Nat} {v:Int} (h:a=1\/6<=a/\a<=9):IM L (L.set k a v):=⟨rfl,rfl,rfl,λi c b=>GL (by omega)⟩
theorem Ik (L:Led) (i:Nat) (n:Int):IM L (BN L i n):=by
 unfold BN IP IR
 (repeat' split) <;> first | exact Oa L | exact MM (by omega)
theorem KW {L:Led} (b:L.goods<=4) (i:Nat) (g n:Int):IM L (BY L i g n):=by
 have a:∀m,¬CR L g m≠0->g.toNat<4:=λm h=>by
  have:=Cd (Decidable.not_not.1 h);omega
 unfold BY CH ES
 (repeat' split) <;> first | exact Oa L | exact MM (by have:=a _ ‹_›;omega)
theorem aE {L M:Led} (h:IM L M) (i:Nat):clC M i=clC L i:=by
 have a:∀p,p<5->Ay M i p=Ay L i p:=λp b=>by
  unfold Ay;exact h.2.2.2 i _ (by split <;> omega)
 unfold clC;rw[a 0 (by omega),a 1 (by omega),a 2 (by omega),a 3 (by omega),a 4 (by omega),h.2.2.2 i 10 (by omega),h.2.2.1]
section
variable {h g:PH} {R:RT} {C:PH->Prop} {S:Hs} {Lv Bv Sv:Value} {bs ss:Nat->Value} {o:OpV}
theorem RHp.likeL {L:Led} (H:RHp h S Lv Bv Sv bs ss) (b:IM S.L L):RHp h (S.setL L) Lv Bv Sv bs ss:=by
 have a:(S.setL L).G=S.G:=by unfold Hs.G Hs.setL;rw[b.2.1]
 have d:clC L=clC S.L:=funext λi=>aE b i;refine⟨?_,by rw[a];exact H.B,by rw[a];exact H.A,λi hi=>H.b i (by rw[<-a];exact hi),λi A w hi c=>H.a i A w (by rw[<-a];exact hi) c⟩;show BG h Lv 7 L.n (BU (clC L) L.n);rw[d,b.1];exact H.L
theorem RH.likeL {L:Led} {v:Value} (H:RH h v S) (a:IM S.L L):RH h v (S.setL L):=by
 obtain⟨Lv,Bv,Sv,bs,ss,e,H⟩:=H;refine⟨Lv,Bv,Sv,bs,ss,?_,H.likeL a⟩;show v = .agg (rhA L.goods S.now Lv Bv Sv);rw[a.2.1];exact e
abbrev rh0:Array Value:=#[.int .i64 0,.int .i64 0,.slice none 0 0,.slice none 0 0,.slice none 0 0]
theorem RHp.book (H:RHp h S Lv Bv Sv bs ss) {gd:Nat} (a:gd<S.G):∃b off,(∀K,AR 2 Bv (.int .i64 gd) K↔K (.pointer (some ⟨b,off,none⟩)))/\∀G,Sub h G->(∀K,A0 (some 2) (.pointer (some ⟨b,off,none⟩)) G K↔K (.agg (rbA (bs gd) (S.bk gd).next)))/\∀K,A0 none (.pointer (some ⟨b,off,none⟩)) G K↔K (bs gd):=by
 obtain⟨b,off,q1,q2⟩:=H.B.el a;refine⟨b,off,q1,λG c=>⟨λK=>?_,λK=>?_⟩⟩
 ·have:=(q2 G c).2 0 2 (by omega) K
  rw[Nat.add_zero,Nat.add_zero,MD (Na bs S) a]at this;exact this
 ·have:=(q2 G c).1 0 (bs gd) (by omega) (by rw[C4 (Na bs S) _ _ _ a (by omega)];rfl) K
  rw[Nat.add_zero]at this;exact this
theorem Q7 {t3 t5 t6 t8 gd:Nat} {B':Bk} {a:Value} {K:Value->PH->Prop} {Kp:KP}
  (H:(pt t8 (.cells (rbA a B'.next) 110 (0,0))•(λq=>BG q a 6 B'.l.length (ordsC B'.l)/\BM h q S Lv Bv Sv bs ss t3 t5 o)•pt t6 (.cells rh0 52 (0,0))) g) (L:o.good=gd) (s:gd<S.G) (I:S.L.n<=16) (N:S.G<=4)
  (J:∀g v,Sub h g->RH g v (S.setBk gd B')->K v g) :
  A0 (some 5) (.pointer (some ⟨t3,0,none⟩)) g λt42=>AA Tryz.prog 46 #[t42] g (λt43 k=>Ag #[.int .i64 0,.int .i64 0,.slice none 0 0,.slice none 0 0,.slice none 0 0] 52 k λt10 j=>A9 5 t10 t43 j λb=>
   vFA 3 t10 λt44=>A0 none t44 b λt45=>A0 none (.pointer (some ⟨t5,1,none⟩)) b λt47=>A0 (some 2) (ptr t8) b λt48=>AR 2 t45 t47 λt49=>A9 2 t49 t48 b λe=>
   A0 (some 5) t10 e λt50=>A9 5 (ptr t6) t50 e λd=>A0 (some 5) (ptr t6) d λf=>K f d) Kp:=by
 have r:C3 λq=>BG q a 6 B'.l.length (ordsC B'.l)/\BM h q S Lv Bv Sv bs ss t3 t5 o:=B3 BG.mono BM.mono
 have x:∀g,(pt t8 (.cells (rbA a B'.next) 110 (0,0))•(λq=>BG q a 6 B'.l.length (ordsC B'.l)/\BM h q S Lv Bv Sv bs ss t3 t5 o)•pt t6 (.cells rh0 52 (0,0))) g->BG g a 6 B'.l.length (ordsC B'.l)/\BM h g S Lv Bv Sv bs ss t3 t5 o:=
  λg H=>AJ r (AF (A8 _ _) H)
 obtain⟨U,z⟩:=x g H;rw[AI z.k3 (off:=0) (n:=5) (by show 0+5<=5;omega),show (rhA S.L.goods S.now Lv Bv Sv).extract 0 (0+5)=rhA S.L.goods S.now Lv Bv Sv from rfl];refine Io H (A8 _ _) z.rh I N λP t10 T u Q t=>?_;have m:=CP.k t;have l:=AF (A8 _ _) t;obtain⟨F,S2⟩:=x P l;simp only[AH,Ad];rw[A5 m (v:=u) rfl,A5 S2.k5 (v:=.int .i64 o.good) rfl,L,AI (AM l) (off:=0) (n:=2) (by show 0+2<=2;omega),show (rbA a B'.next).extract 0 (0+2)=rbA a B'.next from rfl];refine NY (B:=B') t s F.v1 λV D=>?_;rw[<-Bf (pt t8 _)]at D;refine MZ (K:=K) D (A8 _ _) rfl (λq p=>?_) λO v p G=>?_
 ·obtain⟨E,y⟩:=AF r p
  refine⟨λi hi=>?_,λi A w hi M=>y.rh.a i A w hi M⟩;unfold F8 Hs.setBk
  by_cases c:i=gd
  ·subst c;simp only[if_true];exact E
  ·simp only[c,if_false];exact y.rh.b i hi
 ·exact J O v (AF r p).2.sub G
theorem RB.get {v:Value} {B:Bk} {C A:PH->Prop} (H:((λq=>RB q v B/\A q)•C) g) (j:C3 A):∃a,v = .agg (rbA a B.next)/\a.oneCell'=true/\((λq=>BG q a 6 B.l.length (ordsC B.l)/\A q)•C) g:=by
 obtain⟨⟨a,e,f⟩,_⟩:=AJ (B3 RB.mono j) H;refine⟨a,e,f.v1,AU H (λq i=>?_) λ_ h=>h⟩;obtain⟨⟨c,d,b⟩,ha⟩:=i;rw[e]at d
 have:a=c:=by
  injection d with e3
  injection e3 with e4
  injection e4
 rw[this];exact⟨b,ha⟩
theorem Sz {i:Nat} (H:RHp h S Lv Bv Sv bs ss) (t:S.ok) (A:Snd S) (hi:i<S.L.n) (T:o.ok)
  (c:∀g v,Sub h g->RH g v (DO S i o).2->R (.ret (.tuple #[v,.int .i64 (DO S i o).1])) g) :
  A7 Tryz.prog 86 #[.agg (rhA S.L.goods S.now Lv Bv Sv),.int .i64 i,o.v] h R:=by
 refine nQ ?_;unfold pQ jq4 aF IN Ob K9 jq8 zq1 Ep gGW ivW pnW;rw[show Value.cells (.agg (rhA S.L.goods S.now Lv Bv Sv))=rhA S.L.goods S.now Lv Bv Sv from rfl,show Value.cells o.v=o.a from rfl];refine Ai λt3 g1 _ N k3=>Ai λt5 G _ w k5=>AX λt6 h6=>?_;have hgG:=t.g;have D:=t.cl;have St:BM h G S Lv Bv Sv bs ss t3 t5 o:=⟨H.sub (N.trans w),w _ _ k3,k5,N.trans w⟩;have n:((λg=>BM h g S Lv Bv Sv bs ss t3 t5 o)•pt t6 (.cells rh0 52 (0,0))) (ins G t6 (.cells rh0 52 (0,0))):=BX (Ar h6 St);revert n;generalize ins G t6 (.cells rh0 52 (0,0))=g3;intro n;have S3:=AJ BM.mono n;have P:=λK=>A5 (K:=K) S3.k5 (show o.a[1]?=some (.int .i64 o.good)from rfl);have O:=λK=>A5 (K:=K) S3.k5 (show o.a[4]?=some (.int .i64 o.id)from rfl);have Y:=λK=>A5 (K:=K) S3.k3 (show (rhA S.L.goods S.now Lv Bv Sv)[0]?=some (.int .i64 S.L.goods)from rfl);have W:=λK=>A5 (K:=K) S3.k3 (show (rhA S.L.goods S.now Lv Bv Sv)[3]?=some Bv from rfl);have V:=T.good;have U:=T.id;unfold DO at c;simp only[AH,Ad,P,Y,By]
 by_cases u:S.L.goods<=o.good
 ·rw[if_pos (.inl u)]at c
  simp only[u,B6,AZ,C7,Option.some.injEq,Bool.true_eq_false,C1,true_and,ne_eq,CJ,CI,Al,cond_true,AB,Bx,and_true];exact CY (K:=λe j=>R (.ret (.tuple #[e,.int .i64 1])) j) n rfl c
 by_cases L:1048576<o.id
 ·rw[if_pos (.inr L)]at c
  simp only[u,L,B6,BW,AZ,C7,Option.some.injEq,Bool.true_eq_false,C1,true_and,ne_eq,CJ,CI,Al,cond_true,cond_false,AB,Bx,and_true,AH,Ad,O,At];exact CY (K:=λe j=>R (.ret (.tuple #[e,.int .i64 1])) j) n rfl c
 rw[if_neg (by omega)]at c;obtain⟨gd,f⟩:∃gd:Nat,o.good=gd:=⟨o.good.toNat,by omega⟩;have a:gd<S.G:=by omega
 have c1':¬S.L.goods<=(gd:Int):=by omega
 have w1:IntKind.i64.wrap (o.id*16)=o.id*16:=w64 (by omega) (by omega);have Z:IntKind.i64.wrap (o.id*16+(i:Int))=o.id*16+i:=w64 (by omega) (by omega);obtain⟨b,off,q1,q2⟩:=S3.rh.book a;simp only[u,c1',L,BW,AZ,C7,Option.some.injEq,Ba,C1,true_and,ne_eq,CJ,CI,Al,cond_false,AB,Bx,and_true,AH,Ad,O,At,W,P,f,q1,(q2 g3 (Sub.refl g3)).1,CG,w1,AG,Z];have E:=t.bk gd a;rw[f,BR]at c
 refine fr (X:=Value) (val:=λv=>.tuple #[v,.int .i64 (CN (S.bk gd) (o.id*16+i) i).1]) (Q:=λv q=>RB q v (CN (S.bk gd) (o.id*16+i) i).2) n BM.mono
  (λq B R' F=>Up (B.rh.b gd a) E.len λg' v A z=>F g' v A z) λv g4 H7=>?_
 obtain⟨m,rfl,o1,H8⟩:=RB.get H7 BM.mono;simp only[Av,Au];refine AX λt8 h8=>?_;refine AN (cs:=rbA m (CN (S.bk gd) (o.id*16+i) i).2.next) (AD _ _ _) (by rfl) (by rfl) (by rw[List.all_eq_true];exact one2 o1) ?_;rw[An];have s:=Ar (o:=.cells (rbA m (CN (S.bk gd) (o.id*16+i) i).2.next) 110 (0,0)) h8 H8;revert s;generalize ins g4 t8 (.cells (rbA m (CN (S.bk gd) (o.id*16+i) i).2.next) 110 (0,0))=g5;intro s;rw[BB,AB]
 -- whether the order is there
 cases d:idx (S.bk gd).l (o.id*16+i)with
 | none=>
  have J:EZ (S.bk gd).l (o.id*16+i)=(OH,false):=by unfold EZ;rw[d]
  have I:CN (S.bk gd) (o.id*16+i) i=(3,S.bk gd):=by unfold CN;rw[d]
  rw[J]at c;rw[I]at s ⊢;refine nT ?_;have M:=AU (AF (A8 _ _) s) (λq B=>B.2) λ_ h=>h;exact CY (K:=λe j=>R (.ret (.tuple #[e,.int .i64 3])) j) M rfl c
 | some k=>
  obtain⟨hkl,⟨x,y,hxi⟩,_⟩:=Dt d;have J:EZ (S.bk gd).l (o.id*16+i)=(x,true):=by unfold EZ;rw[d];simp only[y]
  have r:x.own=i:=by
   have:=(A.ids gd a x (List.mem_of_getElem? y)).1;omega
  have I:CN (S.bk gd) (o.id*16+i) i=(0,{S.bk gd with l:=(S.bk gd).l.eraseIdx k}):=by
   unfold CN;rw[d];simp only[y];rw[if_neg (by simp[r])]
  rw[J]at c;rw[if_neg (by simp)]at c;have e3:(CN (S.bk gd) (o.id*16+i) i).1=0:=by rw[I]
  rw[e3];refine nF ?_;refine Q7 (K:=λe j=>R (.ret (.tuple #[e,.int .i64 0])) j) s f a D (by omega) λg v p z=>?_;refine c g v p (z.likeL ?_);show IM S.L _;simp only
  split
  ·exact Ik _ _ _
  ·exact KW t.led.gd _ _ _
end
theorem DT {L:Led} {i p:Nat} {n:Int} (d:p<5) (a:Nat) {q:Nat} (c:q<5):Ay (BZ L i p n) a q=if a=i/\q=p then Ay L i p+n else Ay L a q:=by
 unfold Ay BZ;rw[RA];unfold Ay YI
 by_cases e:a=i/\q=p
 ·rw[if_pos e,if_pos ⟨e.1,by rw[e.2]⟩]
 ·rw[if_neg e,if_neg]
  intro h;refine e ⟨h.1,?_⟩;have b:=h.2
  split at b <;> split at b <;> omega
def IL (L M:Led):Prop:=M.n=L.n/\M.goods=L.goods/\M.r=L.r/\∀i,M.f i 10=L.f i 10
theorem OZ (L:Led):IL L L:=⟨rfl,rfl,rfl,λ_=>rfl⟩
theorem Dw {A B C:Led} (h:IL A B) (k:IL B C):IL A C:=⟨k.1.trans h.1,k.2.1.trans h.2.1,k.2.2.1.trans h.2.2.1,λi=>(k.2.2.2 i).trans (h.2.2.2 i)⟩
theorem Fh {L:Led} {i p:Nat} {n:Int} (b:p<5):IL L (BZ L i p n):=by
 refine⟨rfl,rfl,rfl,λa=>?_⟩;unfold BZ;rw[RA,if_neg];rintro⟨_,h⟩;unfold YI at h
 split at h <;> omega
def eqC (L M:Led):Prop:=M.n=L.n/\M.goods=L.goods/\∀i,i<L.n->clC M i=clC L i
theorem bI {L M:Led} (c:M.n=L.n) (d:M.goods=L.goods) (h:∀i,i<L.n->∀q,q<5->Ay M i q=Ay L i q) (a:∀i,M.f i 10=L.f i 10) (b:M.r=L.r):eqC L M:=⟨c,d,λi hi=>by
 unfold clC;rw[h i hi 0 (by omega),h i hi 1 (by omega),h i hi 2 (by omega),h i hi 3 (by omega),h i hi 4 (by omega),a,b]⟩
theorem RHp.eqL {h:PH} {S:Hs} {c e d:Value} {bs ss:Nat->Value} {L:Led} (H:RHp h S c e d bs ss) (b:eqC S.L L):RHp h (S.setL L) c e d bs ss:=by
 have a:(S.setL L).G=S.G:=by unfold Hs.G Hs.setL;rw[b.2.1]
 refine⟨?_,by rw[a];exact H.B,by rw[a];exact H.A,λi hi=>H.b i (by rw[<-a];exact hi),λi A w hi f=>H.a i A w (by rw[<-a];exact hi) f⟩;show BG h c 7 L.n (BU (clC L) L.n);rw[b.1,G7 b.2.2];exact H.L
theorem RH.eqL {h:PH} {S:Hs} {L:Led} {v:Value} (H:RH h v S) (a:eqC S.L L):RH h v (S.setL L):=by
 obtain⟨c,d,b,bs,ss,e,H⟩:=H;refine⟨c,d,b,bs,ss,?_,H.eqL a⟩;show v = .agg (rhA L.goods S.now c d b);rw[a.2.1];exact e
def KG (f:Fil) (o:Ord):Int:=if o.buys then f.am else 0-f.am
def Ix (gd:Nat) (p:Int) (L:Led) (f:Fil) (o:Ord):Led:=BZ (BZ L o.own.toNat (gd+1) (KG f o)) o.own.toNat 0 (0-p*KG f o)
def inC (gd:Nat) (p:Int) (f:Fil) (was:List Ord) (L:Led):Led:=was.foldl (λL o=>if o.id=f.id then Ix gd p L f o else L) L
def GA (gd:Nat) (p:Int) (was:List Ord) (fs:List Fil) (L:Led):Led:=fs.foldl (λL f=>inC gd p f was L) L
theorem Od {gd:Nat} {p:Int} {f:Fil}:∀{was:List Ord} {L:Led},(∀o∈was,o.id≠f.id)->inC gd p f was L=L
 | [],L,_=>rfl
 | o::was,L,h=>by
  unfold inC;rw[List.foldl_cons,if_neg (h o (by simp))];exact Od λx a=>h x (by simp[a])
theorem WW {gd:Nat} {p:Int} {f:Fil}:∀{was:List Ord} {L:Led} {o:Ord},Ids was->o∈was->o.id=f.id->inC gd p f was L=Ix gd p L f o
 | [],_,_,_,h,_=>by cases h
 | x::was,L,o,hI,h,he=>by
  have a:=List.pairwise_cons.1 hI;unfold inC;rw[List.foldl_cons]
  rcases List.mem_cons.1 h with rfl | h
  ·rw[if_pos he]
   exact Od λy b e=>a.1 y b (by rw[e,he])
  ·rw[if_neg (λe=>a.1 o h (by rw[e,he]))]
   exact WW a.2 h he
theorem ax {gd:Nat} {p:Int} {L:Led} {f:Fil} {o:Ord} (c:gd<4) (a:Nat):Ay (Ix gd p L f o) a 0=Ay L a 0-(if o.own.toNat=a then p*KG f o else 0) /\
  (∀q,q<4->Ay (Ix gd p L f o) a (q+1)=Ay L a (q+1)+if o.own.toNat=a/\q=gd then KG f o else 0)/\IL L (Ix gd p L f o):=by
 refine⟨?_,λq b=>?_,Dw (Fh (by omega)) (Fh (by omega))⟩
 ·unfold Ix
  rw[DT (by omega) a (by omega),DT (by omega) _ (by omega),DT (by omega) a (by omega)]
  by_cases e:a=o.own.toNat
  ·subst e
   rw[if_pos ⟨rfl,rfl⟩,if_pos rfl,if_neg (by omega)];omega
  ·rw[if_neg (λh=>e h.1),if_neg (λh=>e h.1),if_neg (λh=>e h.symm)];omega
 ·unfold Ix
  rw[DT (by omega) a (by omega),if_neg (by omega),DT (by omega) a (by omega)]
  by_cases e:a=o.own.toNat/\q=gd
  ·rw[if_pos ⟨e.1,by omega⟩,if_pos ⟨e.1.symm,e.2⟩,e.1,e.2]
  ·rw[if_neg (by omega),if_neg (λh=>e ⟨h.1.symm,h.2⟩)];omega
theorem IG {gd:Nat} {p q0:Int} {was:List Ord} (n:Ids was) (l:gd<4) (e:∀o∈was,0<=o.own) {b:Bool}:∀(fs:List Fil) (L:Led),(∀f∈fs,Ea was b q0 f)->∀a:Nat,
  Ay (GA gd p was fs L) a 0=Ay L a 0-(if b then p*amF a fs else 0-p*amF a fs)/\(∀q,q<4->Ay (GA gd p was fs L) a (q+1)=Ay L a (q+1)+if q=gd then (if b then amF a fs else 0-amF a fs)else 0)/\IL L (GA gd p was fs L)
 | [],L,_,a=>by
  refine⟨?_,λq _=>?_,OZ L⟩
  ·show Ay L a 0=_
   simp[amF]
  ·show Ay L a (q+1)=_
   simp[amF]
 | f::fs,L,h,a=>by
  obtain⟨o,j,y,_,z,C,B,A⟩:=h f (by simp);have k:=e o j
  have g:GA gd p was (f::fs) L=GA gd p was fs (Ix gd p L f o):=by
   unfold GA;rw[List.foldl_cons,WW n j z.symm]
  obtain⟨v,u,t⟩:=IG (p:=p) (q0:=q0) n l e fs (Ix gd p L f o) (λx w=>h x (by simp[w])) a;obtain⟨f1,f2,f3⟩:=ax (p:=p) (L:=L) (f:=f) (o:=o) l a;have m:(o.own.toNat=a)=(f.own=(a:Int)):=propext (by omega);have s:amF a (f::fs)=(if f.own=a then f.am else 0)+amF a fs:=rfl;have r:KG f o=if b then f.am else 0-f.am:=by unfold KG;rw[y]
  rw[g];refine⟨?_,λq i=>?_,Dw f3 t⟩
  ·rw[v,f1,r,s]
   simp only[m];cases b <;> by_cases c:f.own=(a:Int) <;> simp only[c,if_true,if_false,Ba,Int.mul_add,Int.mul_sub,Int.mul_zero] <;> omega
  ·rw[u q i,f2 q i,r,s]
   simp only[m]
   by_cases d:q=gd
   ·cases b <;> by_cases c:f.own=(a:Int) <;> simp only[c,d,and_self,and_true,if_true,if_false,Ba] <;> omega
   ·simp only[d,and_false,if_false];omega
section
variable {L:Led} {i j g:Nat} {n p:Int}
theorem Vv (e:Inv L) (hi:i<L.n) (s:j<L.n) (C:(g:Int)<L.goods) (B:0<=n) (A:0<=p) (E:n<=L.f i (6+g)) (D:p*n<=L.f j 1) :
  (∀a,(BJ L i j g p n).f a 0=L.f a 0+(if a=i then p*n else 0)-if a=j then p*n else 0)/\∀a k,k<4->(BJ L i j g p n).f a (2+k)=L.f a (2+k)+(if a=j/\k=g then n else 0)-if a=i/\k=g then n else 0:=by
 have t:=e.gd;have b1:=e.small.num i (6+g) hi (by omega);have b2:=e.small.num j 1 s (by omega);have F:=e.g0;unfold BJ
 by_cases m:0<n
 ·rw[if_pos m]
  have w:EG L i j g n=(0,D6 L i j g n):=by
   unfold EG;have:CR L g n=0:=by unfold CR;rw[if_pos (by omega)]
   rw[if_neg (by simp[this]),BR,if_neg (by omega)]
  rw[w];simp only
  have f1:∀a,(D6 L i j g n).f a 1=L.f a 1:=λa=>by
   unfold D6;simp only[FR];rw[if_neg (by omega),if_neg (by omega),if_neg (by omega)]
  have f0:∀a,(D6 L i j g n).f a 0=L.f a 0:=λa=>by
   unfold D6;simp only[FR];rw[if_neg (by omega),if_neg (by omega),if_neg (by omega)]
  have f2:∀a k,k<4->(D6 L i j g n).f a (2+k)=L.f a (2+k)+(if a=j/\k=g then n else 0)-if a=i/\k=g then n else 0:=λa k h=>by
   unfold D6;simp only[FR];have o:¬(2+g=6+g):=by omega
   have r:¬(2+k=6+g):=by omega
   have u:(2+k=2+g)=(k=g):=propext (by omega);simp only[o,r,u,and_false,if_false]
   by_cases d:k=g
   ·subst d
    by_cases z:a=j <;> by_cases y:a=i <;> by_cases x:j=i <;> simp_all <;> omega
   ·simp[d]
  by_cases l:0<p
  ·rw[if_pos l]
   have f:1<=p*n:=by
    have:=Int.mul_le_mul (a:=1) (b:=1) (c:=p) (d:=n) (by omega) (by omega) (by omega) (by omega);omega
   have v:GS (D6 L i j g n) j i (p*n)=(0,GO (D6 L i j g n) j i (p*n)):=by
    unfold GS
    have:CR (D6 L i j g n) 0 (p*n)=0:=by
     unfold CR;rw[if_pos ⟨by omega,by show (0:Int)<L.goods;omega,f,by omega⟩]
    rw[if_neg (by simp[this]),f1,if_neg (by omega)]
   rw[v];simp only;refine⟨λa=>?_,λa k h=>?_⟩
   ·unfold GO
    simp only[FR,f0,f1];have q:¬((0:Nat)=1):=by omega
    simp only[q,and_false,if_false,and_true]
    by_cases z:a=j <;> by_cases y:a=i <;> by_cases x:i=j <;> simp_all <;> omega
   ·unfold GO
    simp only[FR];rw[if_neg (by omega),if_neg (by omega),if_neg (by omega),f2 a k h]
  ·rw[if_neg l]
   have:p=0:=by omega
   subst this;refine⟨λa=>?_,f2⟩;rw[f0];simp
 ·rw[if_neg m]
  have:n=0:=by omega
  subst this;refine⟨λa=>by simp,λa k _=>by simp⟩
end
theorem R5 {n:Nat}:∀(l:List Fil),BH n l->0<=Cn l
 | [],_=>by simp[Cn]
 | a::l,h=>by
  have d:=R5 l λx b=>h x (by simp[b]);have c:=h a (by simp);simp only[Cn];omega
theorem WQ {gd:Nat} {p:Int} {n:Nat} (A:0<=p):∀(k:Nat) (L:Led) (bu f:List Fil),bu.length+f.length<=k->Cn bu=Cn f->Inv L->L.n=n->(gd:Int)<L.goods->BH n bu->BH n f->(∀i,i<n->p*amF i bu<=L.f i 1)->(∀i,i<n->amF i f<=L.f i (6+gd)) ->
  (∀i,i<n->(CD gd p k L bu f).f i 0=L.f i 0-p*amF i bu+p*amF i f)/\∀i j,i<n->j<4->(CD gd p k L bu f).f i (2+j)=if j=gd then L.f i (2+j)+amF i bu-amF i f else L.f i (2+j)
 | k,L,[],f,hk,ht,hv,hn,hg,hb,hs,_,_=>by
  rw[Ff]
  have:f = []:=by
   cases f with
   | nil=>rfl
   | cons s ss=>
    have T:=hs s (by simp);have S:=R5 ss λx q=>hs x (by simp[q]);simp only[Cn]at ht;omega
  subst this;refine⟨λi _=>by simp[amF],λi j _ _=>by simp[amF]⟩
 | k,L,b::bs,[],hk,ht,hv,hn,hg,hb,hs,_,_=>by
  exfalso
  have T:=hb b (by simp);have S:=R5 bs λx q=>hb x (by simp[q]);simp only[Cn]at ht;omega
 | 0,L,b::bs,s::ss,hk,ht,hv,hn,hg,hb,hs,_,_=>by simp at hk
 | k+1,L,b::bs,s::ss,hk,ht,hv,hn,hg,hb,hs,hB,hS=>by
  have T:=hb b (by simp);have S:=hs s (by simp);have I:0<min b.am s.am/\min b.am s.am<=b.am:=by omega
  have H:0<min b.am s.am/\min b.am s.am<=s.am:=by omega
  obtain⟨d,l⟩:∃d:Nat,s.own=d:=⟨s.own.toNat,by omega⟩;obtain⟨a,o⟩:∃a:Nat,b.own=a:=⟨b.own.toNat,by omega⟩;have v:d<n:=by omega
  have z:a<n:=by omega
  have w:(if b.am-min b.am s.am=0 then bs else {b with am:=b.am-min b.am s.am} :: bs).length+(if s.am-min b.am s.am=0 then ss else {s with am:=s.am-min b.am s.am} :: ss).length<=k:=by
   simp only[List.length_cons]at hk
   by_cases hle:b.am<=s.am
   ·rw[if_pos (by omega)]
    split <;> (try simp only[List.length_cons]) <;> omega
   ·rw[if_neg (by omega),if_pos (by omega)]
    simp only[List.length_cons];omega
  have J:=hb.next I;have G:=hs.next H;generalize hm:min b.am s.am=m at *;have D:∀i,0<=amF i bs:=λi=>Kk λx q=>by have:=hb x (by simp[q]);omega
  have C:∀i,0<=amF i ss:=λi=>Kk λx q=>by have:=hs x (by simp[q]);omega
  have M:=hB a z;have K:=hS d v;have V:=D a;have U:=C d;simp only[amF,o,if_true]at M;simp only[amF,l,if_true]at K;have Z:p*m<=p*(b.am+amF a bs):=Int.mul_le_mul_of_nonneg_left (by omega) A;obtain⟨t1,t6⟩:=R4 (i:=d) (j:=a) (g:=gd) (n:=m) (p:=p) hv (by omega) (by omega) hg (by omega) A (by omega) (by omega);obtain⟨c0,c2⟩:=Vv (i:=d) (j:=a) (g:=gd) (n:=m) (p:=p) hv (by omega) (by omega) hg (by omega) A (by omega) (by omega);have y:=EU L d a gd p m;have u:∀i,amF i (if b.am-m=0 then bs else {b with am:=b.am-m} :: bs)=amF i (b::bs)-(if b.own=i then m else 0):=λi=>GH.1;have t:∀i,amF i (if s.am-m=0 then ss else {s with am:=s.am-m} :: ss)=amF i (s::ss)-(if s.own=i then m else 0):=λi=>GH.1;have F:Cn (if b.am-m=0 then bs else {b with am:=b.am-m} :: bs)=Cn (b::bs)-m:=(GH (i:=0)).2;have E:Cn (if s.am-m=0 then ss else {s with am:=s.am-m} :: ss)=Cn (s::ss)-m:=(GH (i:=0)).2
  have r:CD gd p (k+1) L (b::bs) (s::ss)=CD gd p k (BJ L d a gd p m) (if b.am-m=0 then bs else {b with am:=b.am-m} :: bs) (if s.am-m=0 then ss else {s with am:=s.am-m} :: ss):=by
   show CD gd p k (BJ L s.own.toNat b.own.toNat gd p (min b.am s.am)) _ _=_;rw[l,o,hm,BR,BR]
  have W:=WQ A k (BJ L d a gd p m) _ _ w (by rw[F,E,ht]) (Et hv (by omega) (by omega) _ _ _) (y.2.trans hn) (by rw[y.1];exact hg) J G
   (λi hi=>by
    rw[u,t1,o];have Q:=hB i hi
    by_cases c:i=a
    ·subst c;rw[if_pos rfl,if_pos rfl,Int.mul_sub];omega
    ·rw[if_neg c,if_neg (by omega)];simpa using Q)
   (λi hi=>by
    rw[t,t6 i gd (by have:=hv.gd;omega),l];have Q:=hS i hi
    by_cases c:i=d
    ·subst c;rw[if_pos rfl,if_pos ⟨rfl,rfl⟩];omega
    ·rw[if_neg (by omega),if_neg (λh=>c h.1)];omega)
  rw[r];obtain⟨Y,X⟩:=W;refine⟨λi hi=>?_,λi j hi P=>?_⟩
  ·rw[Y i hi,u,t,c0,o,l]
   have O:((a:Int)=i)=(i=a):=propext (by omega);have N:((d:Int)=i)=(i=d):=propext (by omega);simp only[O,N,Int.mul_sub]
   by_cases B:i=d <;> by_cases x2:i=a <;> simp only[B,x2,if_true,if_false,Int.mul_zero] <;> (try omega) <;> (split <;> (try simp only[Int.mul_zero]) <;> omega)
  ·rw[X i j hi P,u,t,c2 i j P,o,l]
   have O:((a:Int)=i)=(i=a):=propext (by omega);have N:((d:Int)=i)=(i=d):=propext (by omega);simp only[O,N]
   by_cases e:j=gd
   ·simp only[e,and_true,if_true]
    by_cases B:i=d <;> by_cases x2:i=a <;> simp only[B,x2,if_true,if_false] <;> (try omega) <;> (split <;> omega)
   ·simp only[e,and_false,if_false];omega
theorem Wl {l:List Ord} (b:Ids l) (e:∀o∈l,B0 o=true) {p:Int} (i:Nat):∀{fs:List Fil},(∀f∈fs,Ea l true p f)->p*amF i fs<=GY l i fs
 | [],_=>by simp[amF,GY];exact Cg λo _=>by simp[B1]
 | f::fs,h=>by
  have r:=Wl b e i (fs:=fs) λx d=>h x (by simp[d]);obtain⟨o,n,q,g,v,m,u,t,k,s⟩:=NW b (h f (by simp)) i;have a:=g rfl;rw[IV,k];have j:amF i (f::fs)=(if f.own=i then f.am else 0)+amF i fs:=rfl;rw[j,Int.mul_add,m]
  by_cases c:o.own=(i:Int)
  ·rw[if_pos c,if_pos ⟨rfl,c⟩]
   have:=Int.mul_le_mul_of_nonneg_right a (show 0<=f.am by omega);omega
  ·rw[if_neg c,if_neg (λh=>c h.2),Int.mul_zero];omega
theorem X1 {n:Nat}:∀{fs:List Fil},BH n fs->AS (λi=>amF i fs) n=Cn fs
 | [],_=>by
  have z:∀k,AS (λ_=>(0:Int)) k=0:=λk=>by
   induction k with
   | zero=>rfl
   | succ k ih=>simp only[AS,ih];rfl
  exact z n
 | f::fs,h=>by
  have g:=X1 (n:=n) (fs:=fs) λx b=>h x (by simp[b]);have l:=h f (by simp);obtain⟨w,d⟩:∃w:Nat,f.own=w:=⟨f.own.toNat,by omega⟩
  have e:AS (λi=>amF i (f::fs)) n=AS (λi=>(if i=w then f.am else 0)+amF i fs) n:=DF n λi _=>by
   show (if f.own=(i:Int)then f.am else 0)+amF i fs=_;rw[d]
   by_cases c:i=w
   ·rw[if_pos c,if_pos (by omega)]
   ·rw[if_neg c,if_neg (by omega)]
  have a:∀(u v:Nat->Int) k,AS (λi=>u i+v i) k=AS u k+AS v k:=λu v k=>by
   induction k with
   | zero=>rfl
   | succ k ih=>simp only[AS,ih];omega
  rw[e,a,g]
  have one:AS (λi=>if i=w then f.am else 0) n=f.am:=by
   rw[Kw (f:=λi=>if i=w then f.am else 0) (k:=w) (by omega)];have:AS (λj=>if j=w then 0 else if j=w then f.am else 0) n=AS (λ_=>0) n:=DF n λj _=>by split <;> rfl
   rw[this]
   have z:∀k,AS (λ_=>(0:Int)) k=0:=λk=>by
    induction k with
    | zero=>rfl
    | succ k ih=>simp only[AS,ih];rfl
   rw[z,if_pos rfl];omega
  rw[one];rfl
structure pE (S:Hs) (gd:Nat) (FB FS:List Fil):Prop where
 fs:(AE (S.bk gd)).fs=FB++FS
 oB:∀f∈FB,Ea (S.bk gd).l true (AE (S.bk gd)).p f
 oS:∀f∈FS,Ea (S.bk gd).l false (AE (S.bk gd)).p f
 okB:BH S.L.n FB
 okS:BH S.L.n FS
 tot:Cn FB=Cn FS
 p0:0<=(AE (S.bk gd)).p/\(AE (S.bk gd)).p<=1099511627776
 capB:∀i,i<S.L.n->(AE (S.bk gd)).p*amF i FB<=S.L.f i 1
 cash:∀i,i<S.L.n->(CU S gd).L.f i 0=S.L.f i 0-(AE (S.bk gd)).p*amF i FB+(AE (S.bk gd)).p*amF i FS
 goods:∀i j,i<S.L.n->j<4->(CU S gd).L.f i (2+j)=if j=gd then S.L.f i (2+j)+amF i FB-amF i FS else S.L.f i (2+j)
theorem Tk {S:Hs} (v:S.ok) (hs:Snd S) {gd:Nat} (g:gd<S.G):∃a c,pE S gd a c:=by
 have hg:=v.g;have N:=v.bk gd g;have t:=N.right;have w:=N.ids;have s:=JB t;obtain⟨T,V⟩:=Lb N;have M:=Tg t;have u:=JJ (r:=(S.bk gd).l) N.len t
 -- the fills of the two sides
 obtain⟨a,D⟩:∃a,a=Ed (CT (CZ (S.bk gd).l true (AE (S.bk gd)).p)) (AE (S.bk gd)).n []:=⟨_,rfl⟩;obtain⟨c,C⟩:∃c,c=Ed (CT (CZ (S.bk gd).l false (AE (S.bk gd)).p)) (AE (S.bk gd)).n []:=⟨_,rfl⟩
 have k:(AE (S.bk gd)).fs=a++c:=by
  have:(AE (S.bk gd)).fs=DK (S.bk gd).l (AE (S.bk gd)).p (AE (S.bk gd)).n:=rfl;rw[this];unfold DK;rw[Sm,D,C]
 have H:∀f∈a,Ea (S.bk gd).l true (AE (S.bk gd)).p f:=by rw[D];exact NQ
 have G:∀f∈c,Ea (S.bk gd).l false (AE (S.bk gd)).p f:=by rw[C];exact NQ
 have K:(AE (S.bk gd)).p=(Cq (S.bk gd).l).1:=by
  show (Cq (Bj (S.bk gd).l)).1=_;rw[s]
 have h:(AE (S.bk gd)).n=(Cq (S.bk gd).l).2:=by
  show (Cq (Bj (S.bk gd).l)).2=_;rw[s]
 have Q:∀b o,o∈CT (CZ (S.bk gd).l b (AE (S.bk gd)).p)->1<=o.am:=λb o L=>by
  have:=Am.1 (I5 L).2.1;omega
 have tB:Cn a=(AE (S.bk gd)).n:=by
  rw[D];unfold Ed;rw[(IS _ _ (by show 0<=(AE (S.bk gd)).n;rw[h];exact u.1) (Q true)).2]
  have e:Ah amO (CT (CZ (S.bk gd).l true (AE (S.bk gd)).p))=Ah (DN (AE (S.bk gd)).p) (S.bk gd).l:=by
   rw[JT (Cj _)];unfold CZ;rw[s,Nw]
  rw[e];simp only[Cn];have:=M.1;rw[<-K,<-h]at this;have h0:=u.1;rw[<-h]at h0;omega
 have Z:Cn c=(AE (S.bk gd)).n:=by
  rw[C];unfold Ed;rw[(IS _ _ (by show 0<=(AE (S.bk gd)).n;rw[h];exact u.1) (Q false)).2]
  have e:Ah amO (CT (CZ (S.bk gd).l false (AE (S.bk gd)).p))=Ah (Bt (AE (S.bk gd)).p) (S.bk gd).l:=by
   rw[JT (Cj _)];unfold CZ;rw[s,MA]
  rw[e];simp only[Cn];have:=M.2;rw[<-K,<-h]at this;have h0:=u.1;rw[<-h]at h0;omega
 have hL:=JM N;have A:=Ma v g;rw[k]at A;refine⟨a,c,?_⟩;have J:I4 S gd=(a++c).foldl (Cu (AE (S.bk gd)).p (S.bk gd).l) ⟨S.L,[],[]⟩:=by unfold I4;rw[k]
 have d:(CU S gd).L=CD gd (AE (S.bk gd)).p ((I4 S gd).bu.length+(I4 S gd).se.length) (I4 S gd).L (I4 S gd).bu (I4 S gd).se:=rfl;rw[J]at d
 suffices key:∀p,(AE (S.bk gd)).p=p->(∀i,i<S.L.n->p*amF i a<=S.L.f i 1)/\BH S.L.n a/\BH S.L.n c/\(∀i,i<S.L.n->(CU S gd).L.f i 0=S.L.f i 0-p*amF i a+p*amF i c)/\∀i j,i<S.L.n->j<4->(CU S gd).L.f i (2+j)=if j=gd then S.L.f i (2+j)+amF i a-amF i c else S.L.f i (2+j)by
  obtain⟨k1,k2,k3,k4,k5⟩:=key _ rfl;exact⟨k,H,G,k2,k3,by rw[tB,Z],⟨T,V⟩,k1,k4,k5⟩
 intro p y;rw[y]at d H G T
 -- what is asked of the ledger
 have m:∀i,i<S.L.n->GY (S.bk gd).l i a<=S.L.f i 1:=λi hi=>by
  have O:=GE v hs hi g;have h2:=Pi (i:=i) v g
  have h3:GY (S.bk gd).l i a<=Ah (DB i) (S.bk gd).l:=by
   have:=OX (S.bk gd).l i (a++c);rw[Oz,(Fi w i G).1]at this
   have nn:=Cg (f:=DB i) (l:=(S.bk gd).l.map (Du (a++c))) λo L=>by
    obtain⟨x,I,rfl⟩:=List.mem_map.1 L;have q:=Am.1 (t x I);have z:=Gd w t (p:=p) (n:=(AE (S.bk gd)).n) I
    have B:DK (S.bk gd).l p (AE (S.bk gd)).n=a++c:=by
     rw[<-k,<-y];rfl
    rw[B]at z;unfold DB Du;simp only
    split
    ·exact Int.mul_nonneg (by omega) (by omega)
    ·omega
   omega
  unfold CM at O;omega
 have P:∀i,i<S.L.n->amF i c<=S.L.f i (6+gd):=λi hi=>by
  have O:=hs.lock i gd hi (by omega);rw[if_pos g]at O;have h2:=SI (i:=i) v g
  have h3:amF i c<=Ah (Bz i) (S.bk gd).l:=by
   have:=ML (S.bk gd).l i (a++c);rw[Ox,(Fi w i G).2,Jt w i H]at this
   have nn:=Cg (f:=Bz i) (l:=(S.bk gd).l.map (Du (a++c))) λo L=>by
    obtain⟨x,I,rfl⟩:=List.mem_map.1 L;have q:=Am.1 (t x I);have z:=Gd w t (p:=p) (n:=(AE (S.bk gd)).n) I
    have B:DK (S.bk gd).l p (AE (S.bk gd)).n=a++c:=by
     rw[<-k,<-y];rfl
    rw[B]at z;unfold Bz Du;simp only
    split <;> omega
   omega
  unfold DV at O;omega
 obtain⟨b1,b2,b3,b4,b5,b6,Y⟩:=OC w t T (n:=S.L.n) (v.own gd g) a ⟨S.L,[],[]⟩ H v.led rfl m
 have U:(a++c).foldl (Cu p (S.bk gd).l) ⟨S.L,[],[]⟩=⟨(a.foldl (Cu p (S.bk gd).l) ⟨S.L,[],[]⟩).L,a,c⟩:=by
  rw[List.foldl_append,MH w c _ G];have e1:(a.foldl (Cu p (S.bk gd).l) ⟨S.L,[],[]⟩).bu=a:=by rw[b1];rfl
  have e2:(a.foldl (Cu p (S.bk gd).l) ⟨S.L,[],[]⟩).se = []:=b2;rw[e1,e2]
  rfl
 rw[U]at d;simp only at d;generalize (a.foldl (Cu p (S.bk gd).l) ⟨S.L,[],[]⟩).L=L1 at *;have F:BH S.L.n a:=λf X=>A f (by simp[X]) f (by simp);have E:BH S.L.n c:=λf X=>A f (by simp[X]) f (by simp);have W:(gd:Int)<L1.goods:=by rw[b5];show (gd:Int)<S.L.goods;omega
 have cB:∀i,i<S.L.n->p*amF i a<=S.L.f i 1:=λi hi=>by
  have O:=m i hi;have h2:=Wl w t i H;omega
 obtain⟨m0,m2⟩:=WQ (gd:=gd) T (a.length+c.length) L1 a c (Nat.le_refl _) (by rw[tB,Z]) b3 b4 W F E
  (λi hi=>by
   rw[b6 i hi];have:=m i hi;show p*amF i a<=S.L.f i 1-_+_;omega)
  (λi hi=>by rw[Y i (6+gd) (by omega)];exact P i hi)
 refine⟨cB,F,E,λi hi=>?_,λi j hi hj=>?_⟩
 ·rw[d,m0 i hi,Y i 0 (by omega)]
 ·rw[d,m2 i j hi hj,Y i (2+j) (by omega)]
section
variable {h g:PH} {R:RT} {l:List Ord} {bv:Value}
theorem bG {p:Int} {o:Ord} (a:B0 o=true):(0<=DN p o/\DN p o<=1048576)/\0<=Bt p o/\Bt p o<=1048576:=by
 have:=Am.1 a;unfold DN Bt;refine⟨?_,?_⟩ <;> split <;> omega
theorem Mq {f:Ord->Int} {i:Nat} (c:l.length<=64) (b:∀o∈l,0<=f o/\f o<=1048576):0<=Ah f (l.take i)/\Ah f (l.take i)<=67108864:=by
 have j:=JV (f:=f) (M:=1048576) (by omega) (l.take i) λo a=>b o (List.mem_of_mem_take a);have e:(l.take i).length<=64:=by rw[List.length_take];omega
 have d:((l.take i).length:Int)*1048576<=64*1048576:=Int.mul_le_mul_of_nonneg_right (by omega) (by omega);omega
theorem Uj {p:Int} (H:BG h bv 6 l.length (ordsC l)) (F:l.length<=64) (z:∀o∈l,B0 o=true) (G:R (.ret (.int .i64 (min (Ah (DN p) l) (Ah (Bt p) l)))) h) :
  A7 Tryz.prog 188 #[bv,.int .i64 p] h R:=by
 refine gR ?_;unfold jn eXW ivW pnW;refine AL (λm E g=>∃i:Nat,E=(.int .i64 (Ah (DN p) (l.take i)),.int .i64 (Ah (Bt p) (l.take i)),.int .i64 i)/\m=l.length-i/\i<=l.length/\g=h) l.length ⟨0,rfl,rfl,by omega,rfl⟩ ?_;rintro m E g ⟨i,rfl,rfl,hi,rfl⟩;have K:=Mq (f:=DN p) (i:=i) F λo j=>(bG (z o j)).1;have J:=Mq (f:=Bt p) (i:=i) F λo j=>(bG (z o j)).2
 by_cases A:i<l.length
 ·obtain⟨o,j⟩:=Bp (l:=l) (k:=i) A
  have d:=z o (List.mem_of_getElem? j)
  have key:∀(y:V2->V3->PH->Prop) C,y (bv,.int .i64 p) (.int .i64 (Ah (DN p) (l.take i)+DN p o),.int .i64 (Ah (Bt p) (l.take i)+Bt p o),.int .i64 ((i:Int)+1)) g ->
    PO (λc h=>R (.pan c) h) C (bv,.int .i64 p) y (.int .i64 (Ah (DN p) (l.take i)),.int .i64 (Ah (Bt p) (l.take i)),.int .i64 i) g:=by
   intro y C a;unfold PO gAW gGW ivW;have s:(i:Int)<(l.length:Int):=by omega
   simp only[H.lens,AC,s,B6,AB];refine nT ?_;obtain⟨b,off,q1,q2⟩:=EV H j;have q3:=q2 g (Sub.refl g);have w:=q3.1 2 (.int .i64 o.pr) (by omega) rfl;have v:=q3.1 3 (.int .i64 o.am) (by omega) rfl;have u:=q3.1 5 (.bool o.buys) (by omega) rfl;rw[q1,q3.2];refine IA ?_;have x:IntKind.i64.wrap ((i:Int)+1)=(i:Int)+1:=w64 (by omega) (by omega);have I:=Am.1 d;have D:IntKind.i64.wrap (Ah (DN p) (l.take i)+o.am)=Ah (DN p) (l.take i)+o.am:=w64 (by omega) (by omega);have wS:IntKind.i64.wrap (Ah (Bt p) (l.take i)+o.am)=Ah (Bt p) (l.take i)+o.am:=w64 (by omega) (by omega);cases n:o.buys with
   | true=>
    have B:Bt p o=0:=by unfold Bt;rw[n];simp
    rw[B,Int.add_zero]at a
    by_cases c:p<=o.pr
    ·have t:DN p o=o.am:=by unfold DN;rw[if_pos ⟨n,c⟩]
     rw[t]at a;simp[AK.elim,-B9,d,q1,w,v,u,n,c,x,D];exact a
    ·have t:DN p o=0:=by unfold DN;rw[if_neg (λh=>c h.2)]
     rw[t,Int.add_zero]at a;simp[AK.elim,-B9,d,q1,w,v,u,n,c,x,D];exact a
   | false=>
    have B:DN p o=0:=by unfold DN;rw[n];simp
    rw[B,Int.add_zero]at a
    by_cases c:o.pr<=p
    ·have t:Bt p o=o.am:=by unfold Bt;rw[if_pos ⟨n,c⟩]
     rw[t]at a;simp[AK.elim,-B9,d,q1,w,v,u,n,c,x,wS];exact a
    ·have t:Bt p o=0:=by unfold Bt;rw[if_neg (λh=>c h.2)]
     rw[t,Int.add_zero]at a;simp[AK.elim,-B9,d,q1,w,v,u,n,c,x,wS];exact a
  refine key _ _ ⟨rfl,l.length-(i+1),by omega,i+1,?_,rfl,by omega,rfl⟩;rw[I1 _ j,I1 _ j];rfl
 ·have e:i=l.length:=by omega
  subst e;unfold PO gAW gGW ivW;have s:¬(l.length:Int)<(l.length:Int):=by omega
  simp only[H.lens,AC,s,BW,AB];refine⟨λe=>absurd e (by simp),λ_ r q=>?_⟩;rw[List.take_length]at q;rw[show r 5=Value.int .i64 (Ah (DN p) l)from congrArg (·.1) q,show r 6=Value.int .i64 (Ah (Bt p) l)from congrArg (·.2) q,E7]
  have e:(if (if false=true then Ah (Bt p) l>Ah (DN p) l else Ah (Bt p) l<Ah (DN p) l)then Ah (Bt p) l else Ah (DN p) l)=min (Ah (DN p) l) (Ah (Bt p) l):=by
   simp only[Ba,if_false]
   split <;> omega
  rw[e];exact G
theorem Xd (H:BG h bv 6 l.length (ordsC l)) (E:l.length<=64) (D:∀o∈l,B0 o=true) (F:R (.ret (.tuple #[.int .i64 (Cq l).1,.int .i64 (Cq l).2])) h) :
  A7 Tryz.prog 180 #[bv] h R:=by
 refine gf ?_;unfold ju K8 eXW ivW pnW;have w:¬(64:Int)<(l.length:Int):=by omega
 simp only[H.lens,At,w,BW,AB];refine nF ?_;refine AL (λm C g=>∃i:Nat,C=(.int .i64 ((l.take i).foldl (BE l) (0,0)).1,.int .i64 ((l.take i).foldl (BE l) (0,0)).2,.int .i64 i)/\m=l.length-i/\i<=l.length/\g=h) l.length ⟨0,rfl,rfl,by omega,rfl⟩ ?_;rintro m C g ⟨i,rfl,rfl,hi,rfl⟩;obtain⟨pa,d⟩:∃pa,pa=(l.take i).foldl (BE l) (0,0):=⟨_,rfl⟩;rw[<-d]
 by_cases x:i<l.length
 ·obtain⟨o,v⟩:=Bp (l:=l) (k:=i) x
  have u:=D o (List.mem_of_getElem? v)
  have key:∀(t:Value->V3->PH->Prop) B,t bv (.int .i64 (BE l pa o).1,.int .i64 (BE l pa o).2,.int .i64 ((i:Int)+1)) g ->
    PQ (λc h=>R (.pan c) h) B bv t (.int .i64 pa.1,.int .i64 pa.2,.int .i64 i) g:=by
   intro t B a;unfold PQ gAW gGW ivW;have f:(i:Int)<(l.length:Int):=by omega
   simp only[H.lens,AC,f,B6,AB];refine nT ?_;obtain⟨b,off,q1,q2⟩:=EV H v;have q3:=q2 g (Sub.refl g);have j:=q3.1 2 (.int .i64 o.pr) (by omega) rfl;rw[q1,q3.2];refine IA ?_;have p:IntKind.i64.wrap ((i:Int)+1)=(i:Int)+1:=w64 (by omega) (by omega);simp only[AK.elim,u,Bm,Bool.not_true,AB];refine nF ?_;rw[q1,AH,j];refine Uj H E D ?_;unfold BE at a;generalize min (Ah (DN o.pr) l) (Ah (Bt o.pr) l)=n at a ⊢;simp only at a
   by_cases A:pa.2<n
   ·rw[if_pos (.inl A)]at a
    simp[AK.elim,-B9,q1,j,A,p];exact a
   ·by_cases s:n=pa.2
    ·by_cases z:0<pa.2
     ·by_cases y:o.pr<pa.1
      ·rw[if_pos (.inr ⟨s,by omega,y⟩)]at a
       rw[s]at a ⊢;simp[AK.elim,-B9,q1,j,z,y,p];exact a
      ·rw[if_neg (by omega)]at a
       rw[s];simp[AK.elim,-B9,q1,j,z,y,p];exact a
     ·rw[if_neg (by omega)]at a
      rw[s];simp[AK.elim,-B9,q1,j,z,p];exact a
    ·rw[if_neg (by omega)]at a
     simp[AK.elim,-B9,q1,j,A,s,p];exact a
  refine key _ _ ⟨rfl,l.length-(i+1),by omega,i+1,?_,rfl,by omega,rfl⟩;have e:(l.take (i+1)).foldl (BE l) (0,0)=BE l pa o:=by rw[List.take_add_one,v,List.foldl_append,<-d];rfl
  rw[e];rfl
 ·have e:i=l.length:=by omega
  subst e;unfold PQ gAW gGW ivW;have f:¬(l.length:Int)<(l.length:Int):=by omega
  simp only[H.lens,AC,f,BW,AB];refine⟨λe=>absurd e (by simp),λ_ r q=>?_⟩;rw[List.take_length]at d;rw[show r 4=Value.int .i64 pa.1 from congrArg (·.1) q,show r 5=Value.int .i64 pa.2 from congrArg (·.2) q];have:pa=Cq l:=d;rw[this];exact F
def PD (x y:Ord):Bool:=if x.pr≠y.pr then (decide (y.pr<x.pr)==x.buys)else decide (x.pl<y.pl)
theorem Uq {x y:Ord} (a:R (.ret (.bool (PD x y))) h):A7 Tryz.prog 189 #[x.v,y.v] h R:=by
 refine A7.drop (gQ ?_);unfold jm;rw[show Value.cells x.v=x.a from rfl,show Value.cells y.v=y.a from rfl];refine Ai λt2 p _ f n=>Ai λt3 o _ b i=>?_;have k2':=b _ _ n;have x2:=λK=>A5 (K:=K) k2' (show x.a[2]?=some (.int .i64 x.pr)from rfl);have m:=λK=>A5 (K:=K) k2' (show x.a[4]?=some (.int .i64 x.pl)from rfl);have k:=λK=>A5 (K:=K) k2' (show x.a[5]?=some (.bool x.buys)from rfl);have d:=λK=>A5 (K:=K) i (show y.a[2]?=some (.int .i64 y.pr)from rfl);have j:=λK=>A5 (K:=K) i (show y.a[4]?=some (.int .i64 y.pl)from rfl);unfold PD at a
 by_cases c:x.pr=y.pr
 ·rw[if_neg (λe=>e c)]at a
  simp only[AH,Ad,x2,d,BB,AB,c,B6,Bool.not_true];refine nF ?_;rw[m,j,AC];exact⟨h,f.trans b,a⟩
 ·rw[if_pos c]at a
  simp only[AH,Ad,x2,d,BB,AB,c,BW,Bool.not_false];refine nT ?_;rw[At,k,Gh Tryz.underlying4];exact⟨h,f.trans b,a⟩
end
theorem Wt {x y:Ord} (a:x.buys=y.buys):PD x y=true↔ltK x y:=by
 unfold PD ltK Ord.k;rw[<-a]
 by_cases c:x.pr=y.pr
 ·rw[if_neg (λe=>e c),c]
  simp only[CF];cases x.buys <;> simp <;> omega
 ·rw[if_pos c]
  cases x.buys <;> simp <;> omega
structure Srt (side l:List Ord) (b:Bool) (p:Int):Prop where
 perm:side.Perm (l.filter (BP b p))
 sor:side.Pairwise leK
theorem Srt.buys {side l:List Ord} {b:Bool} {p:Int} (H:Srt side l b p):∀o∈side,o.buys=b:=λo a=>by
 have h:=(List.mem_filter.1 (H.perm.mem_iff.1 a)).2;unfold BP at h;exact (of_decide_eq_true h).1
theorem Srt.len {side l:List Ord} {b:Bool} {p:Int} (H:Srt side l b p):side.length<=l.length:=by
 rw[H.perm.length_eq];exact List.length_filter_le _ _
theorem mD {side l:List Ord} {b:Bool} {p:Int} {o:Ord} (H:Srt side l b p) (a:BP b p o=false):Srt side (l ++ [o]) b p:=⟨by
 rw[List.filter_append];simp only[List.filter_cons,a,List.filter_nil]
 simpa using H.perm,H.sor⟩
theorem mF {side l:List Ord} {b:Bool} {p:Int} {o:Ord} {k:Nat} (H:Srt side l b p) (m:BP b p o=true) (C:k<=side.length) (B:k=0\/∃y,side[k-1]?=some y/\PD o y=false) (A:∀j y,k<=j->side[j]?=some y->PD o y=true) :
  Srt (side.take k ++ [o]++side.drop k) (l ++ [o]) b p:=by
 have g:o.buys=b:=by unfold BP at m;exact (of_decide_eq_true m).1
 refine⟨?_,?_⟩
 ·rw[List.filter_append]
  simp only[List.filter_cons,m,List.filter_nil,if_true]
  have s:(side.take k ++ [o]++side.drop k).Perm (o::(side.take k++side.drop k)):=by
   rw[List.append_assoc];exact List.perm_middle
  rw[List.take_append_drop]at s;refine s.trans ?_;refine (List.Perm.cons o H.perm).trans ?_;exact (List.perm_append_singleton o _).symm
 ·have q:=H.sor
  rw[<-List.take_append_drop k side,List.pairwise_append]at q;obtain⟨v,u,t⟩:=q
  have i:∀x∈side.take k,leK x o:=λx f=>by
   rcases B with rfl | ⟨y,a,hby⟩
   ·simp at f
   ·have c:y.buys=b:=H.buys y (List.mem_of_getElem? a)
    have d:leK y o:=λe=>by
     have:=(Wt (by rw[g,c])).2 e;rw[hby]at this;cases this
    obtain⟨j,z,e⟩:=List.mem_take_iff_getElem.1 f;have w:j<k:=by omega
    have n:k-1<side.length:=(Bc.1 a).1
    rcases Nat.lt_or_ge j (k-1)with hlt | hge
    ·have:=List.pairwise_iff_getElem.1 H.sor j (k-1) (by omega) n hlt
     rw[e,(Bc.1 a).2]at this;exact Ds this d
    ·have ej:j=k-1:=by omega
     subst ej;rw[(Bc.1 a).2]at e;rw[<-e];exact d
  have h:∀y∈side.drop k,leK o y:=λy a=>by
   obtain⟨j,z,e⟩:=List.mem_drop_iff_getElem.1 a;have r:side[k+j]?=some y:=by rw[Bu (by omega),e]
   have c:y.buys=b:=H.buys y (List.mem_of_getElem? r);exact MK ((Wt (by rw[g,c])).1 (A (k+j) y (by omega) r))
  rw[List.append_assoc,List.pairwise_append];refine⟨v,?_,λx f y a=>?_⟩
  ·rw[List.singleton_append,List.pairwise_cons]
   exact⟨h,u⟩
  ·rw[List.singleton_append,List.mem_cons]at a
   rcases a with rfl | a
   ·exact i x f
   ·exact t x f y a
theorem mE {side l:List Ord} {b:Bool} {p:Int} (H:Srt side l b p) (f:∀o∈l,B0 o=true) (a:∀x∈l,∀y∈l,x.pl=y.pl->x=y):side=CT (CZ l b p):=by
 have i:Bj l=l:=by unfold Bj;rw[List.filter_eq_self];exact f
 have h:CZ l b p=l.filter (BP b p):=by unfold CZ;rw[i]
 rw[h];refine Vz (H.perm.trans (Cj _).symm) H.sor (MO _) λx e y d _ g=>?_;have m:∀z∈CT (l.filter (BP b p)),z∈l:=λz c=>(List.mem_filter.1 ((Cj _).mem_iff.1 c)).1;exact a x (m x e) y (m y d) g
theorem Z7 {o:Ord} {s:Int×List Fil} (a:s.1<=0):stF s o=s:=by
 unfold stF;rw[if_neg (by omega)]
theorem Oj:∀(l:List Ord) {s:Int×List Fil},s.1<=0->l.foldl stF s=s
 | [],_,_=>rfl
 | o::l,s,hs=>by
  rw[List.foldl_cons,Z7 hs];exact Oj l hs
theorem Z6 {o:Ord} {s:Int×List Fil} (a:0<s.1) (b:1<=o.am):stF s o=(s.1-min s.1 o.am,s.2 ++ [⟨o.id,o.own,min s.1 o.am⟩]):=by
 unfold stF;rw[if_pos (by omega)]
section
variable {h g:PH} {R:RT} {l side:List Ord} {bv sv:Value} {o:Ord} {v:Value} {esz n:Nat} {cs:List Value}
theorem BG.slice (H:BG h v esz n cs) {lo hi:Nat} (B:lo<=hi) (s:hi<=n) {f i:Option Value} (F:f=some (.int .i64 lo)\/(f=none/\lo=0)) (E:i=some (.int .i64 hi)\/(i=none/\hi=n)) {K:Value->Prop}
  (r:∀u,BG h u esz (hi-lo) ((cs.take (hi*esz)).drop (lo*esz))->K u):vSl esz f i v K:=by
 have k:hi*esz<=n*esz:=Nat.mul_le_mul_right _ s
 have a:((cs.take (hi*esz)).drop (lo*esz)).length=(hi-lo)*esz:=by
  rw[List.length_drop,List.length_take,H.len,Nat.min_eq_left k,<-Nat.sub_mul]
 have d:∀x∈(cs.take (hi*esz)).drop (lo*esz),x.oneCell'=true:=λx A=>H.one x (List.mem_of_mem_take (List.mem_of_mem_drop A))
 obtain⟨p,cap,rfl,w,m⟩:∃p cap,v = .slice p n cap/\n<=cap/\K (.slice (if cap=lo then p else p.map (·.add (lo*esz))) (hi-lo) (cap-lo)):=by
  rcases H.at_ with⟨cap,rfl,h0⟩ | ⟨b,off,cap,c,e,fr,rfl,D,y,G,q⟩
  ·subst h0
   refine⟨none,cap,rfl,by omega,?_⟩;have t:(if cap=lo then none else Option.map (λx:Addr=>x.add (lo*esz)) none)=none:=by split <;> rfl
   rw[t];exact r _ ⟨a,d,.inl ⟨cap-lo,rfl,by omega⟩⟩
  ·refine⟨_,cap,rfl,D,?_⟩
   have C:lo*esz+(hi-lo)*esz=hi*esz:=by rw[<-Nat.add_mul];congr 1;omega
   by_cases z:cap=lo
   ·rw[if_pos z]
    refine r _ ⟨a,d,.inr ⟨b,off,cap-lo,c,e,fr,rfl,by omega,y,by rw[show hi-lo=0 by omega];omega,?_⟩⟩;have t:(cs.take (hi*esz)).drop (lo*esz) = []:=List.length_eq_zero_iff.1 (by rw[a,show hi-lo=0 by omega];simp);rw[t,show hi-lo=0 by omega];simp
   ·rw[if_neg z]
    refine r _ ⟨a,d,.inr ⟨b,off+lo*esz,cap-lo,c,e,fr,?_,by omega,y,by omega,?_⟩⟩
    ·simp only[Option.map_some,Addr.add]
     by_cases ez:lo*esz=0
     ·rw[if_pos ez,ez];rfl
     ·rw[if_neg ez]
    ·rw[<-q,List.take_take,Nat.min_eq_left k,List.drop_take,List.drop_drop]
     congr 1
     omega
 refine⟨p,n,cap,rfl,?_⟩
 have j:CK f 0 hi 0 λl=>K (.slice (if cap=l then p else p.map (·.add (l*esz))) (hi-l) (cap-l)):=by
  rcases F with rfl | ⟨rfl,rfl⟩
  ·exact⟨.i64,lo,rfl,by omega,by omega,by rw[BR];exact m⟩
  ·exact m
 rcases E with rfl | ⟨rfl,rfl⟩
 ·exact⟨.i64,hi,rfl,by omega,by omega,by rw[BR];exact j⟩
 ·exact j
theorem fi {T:Value->PH->Prop} {t11:Nat} {p tn:Int} (k:g t11=some (.cells o.a 78 (0,0))) (ht:tn=0\/tn=1) (a:T (.bool (BP (decide (tn=0)) p o)) g) :
  vFA 5 (ptr t11) λt36=>A0 none t36 g λt37=>gq (B5 t37) true (λK=>K (.int .i64 tn) g) (λt39 I=>gq (B5 t37) true (λK_1=>A6 Tryz.prog .eql 3 t39 (.int .i64 0) λu=>K_1 u I) (λt40 H=>AP t37 t40 (.bool false) λt41=>gq (B5 t41) true (λK_2=>vFA 2 (ptr t11) λu_1=>K_2 u_1 H) (λt43 x=>gq (B5 t41) true (λK_3=>A0 none t43 x λu_2=>K_3 u_2 x) (λt44 G=>gq (B5 t41) true (λK_4=>K_4 (.int .i64 p) G) (λt45 F=>gq (B5 t41) true (λK_5=>A6 Tryz.prog .geq 3 t44 t45 λu_3=>K_5 u_3 F) (λt46 E=>AP t41 t46 (.bool false) λt47=>gq (B5 t47) false (λK_6=>vFA 5 (ptr t11) λu_4=>K_6 u_4 E) (λt49 w=>gq (B5 t47) false (λK_7=>A0 none t49 w λu_5=>K_7 u_5 w) (λt50 t=>gq (B5 t47) false (λK_8=>vUn Tryz.prog .not t50 λZ=>K_8 Z t) (λt51 s=>gq (B5 t47) false (λK_9=>K_9 t51 s) (λt52 r=>gq (B5 t52) true (λV=>V (.int .i64 tn) r) (λt53 q=>gq (B5 t52) true (λU=>A6 Tryz.prog .eql 3 t53 (.int .i64 1) λY=>U Y q) (λt54 m=>gq (B5 t47) false (λS=>AP t52 t54 (.bool false) λX=>S X m) (λt55 j=>gq (B5 t47) false (λQ=>Q t55 j) (λt56 i=>gq (B5 t56) true (λP=>vFA 2 (ptr t11) λW=>P W i) (λt57 b=>gq (B5 t56) true (λO=>A0 none t57 b λD=>O D b) (λt58 f=>gq (B5 t56) true (λN=>N (.int .i64 p) f) (λt59 e=>gq (B5 t56) true (λM=>A6 Tryz.prog .leq 3 t58 t59 λC=>M C e) (λt60 d=>gq (B5 t47) false (λL=>AP t56 t60 (.bool false) λB=>L B d) (λt61 J=>AP t47 (.bool true) t61 λt62=>T t62 J) d) e) f) b) i) j) m) q) r) s) t) w) E) F) G) x) H) I) g:=by
 have y:=λK=>A5 (K:=K) k (show o.a[5]?=some (.bool o.buys)from rfl);have z:=λK=>A5 (K:=K) k (show o.a[2]?=some (.int .i64 o.pr)from rfl);unfold BP at a;cases A:o.buys with
 | true=>
  rcases ht with rfl | rfl
  ·by_cases c:p<=o.pr
   ·simp[y,z,A,c]at a ⊢
    exact a
   ·simp[y,z,A,c]at a ⊢
    exact a
  ·simp[y,z,A]at a ⊢
   exact a
 | false=>
  rcases ht with rfl | rfl
  ·simp[y,z,A]at a ⊢
   exact a
  ·by_cases c:o.pr<=p
   ·simp[y,z,A,c]at a ⊢
    exact a
   ·simp[y,z,A,c]at a ⊢
    exact a
theorem jH {p i f d c I:Value} {t:Nat} {Kp:KP} {q:V9->PH->Prop} (H:BG g sv 6 side.length (ordsC side)) (E:g t=some (.cells o.a 78 (0,0))) (G:side.length<=1000)
  (A:∀k:Nat,k<=side.length->(k=0\/∃y,side[k-1]?=some y/\PD o y=false)->(∀j y,k<=j->side[j]?=some y->PD o y=true)->q (p,i,f,d,c,sv,I,ptr t,.int .i64 k) g) :
  lf (Jz Kp q) (p,i,f,d,c,sv,I,ptr t) (.int .i64 side.length) g:=by
 refine AL (λm w g'=>∃k:Nat,w = .int .i64 k/\m=k/\k<=side.length/\(∀j y,k<=j->side[j]?=some y->PD o y=true)/\g'=g) side.length ⟨side.length,rfl,rfl,by omega,λj y F a=>by
  have:=(Bc.1 a).1;omega,rfl⟩ ?_
 rintro m w g' ⟨k,rfl,em,hkl,hb,rfl⟩;have x:=λK=>AI (K:=K) E (off:=0) (n:=6) (by show 0+6<=6;omega);rw[show o.a.extract 0 (0+6)=o.a from rfl]at x
 rcases Nat.eq_zero_or_pos k with h0 | h0
 ·subst h0
  have:=A 0 (by omega) (.inl rfl) hb;unfold Jz gAW gGW ivW;simp;exact this
 ·obtain⟨y,a⟩:=Bp (l:=side) (k:=k-1) (by omega)
  obtain⟨b,off,q1,q2⟩:=EV H a;have q3:=(q2 g' (Sub.refl g')).2
  have key:∀(r:V8->Value->PH->Prop),(PD o y=true->r (p,i,f,d,c,sv,I,ptr t) (.int .i64 ((k-1:Nat):Int)) g') ->
    (PD o y=false->q (p,i,f,d,c,sv,I,ptr t,.int .i64 k) g')->Jz Kp q (p,i,f,d,c,sv,I,ptr t) r (.int .i64 k) g':=by
   intro r D C;unfold Jz gAW gGW ivW;have u:(0:Int)<(k:Int):=by omega
   have B:IntKind.i64.wrap ((k:Int)-1)=((k-1:Nat):Int):=by rw[w64 (by omega) (by omega)];omega
   simp only[At,u,B6,AZ,C7,CI,ne_eq,Bx,C1,and_true,x,Ao,B,q1,q3];refine Uq ?_;simp only[AK.elim,Al,cond_true,AB];exact⟨D,C⟩
  refine key _ (λe=>⟨rfl,k-1,by omega,k-1,rfl,rfl,by omega,λj z F s=>?_,rfl⟩) λe=>A k hkl (.inr ⟨y,a,e⟩) hb
  rcases Nat.lt_or_ge j k with h | h
  ·have:j=k-1:=by omega
   subst this;rw[a]at s;cases s;exact e
  ·exact hb j z h s
end
theorem Xj (l:List Ord) {k:Nat} (b:k<=l.length):(ordsC l).take (k*6)=ordsC (l.take k)/\(ordsC l).drop (k*6)=ordsC (l.drop k):=by
 have e:ordsC l=ordsC (l.take k)++ordsC (l.drop k):=by rw[<-MI,List.take_append_drop]
 have a:(ordsC (l.take k)).length=k*6:=by rw[Ew,List.length_take,Nat.min_eq_left b]
 rw[e];exact⟨List.take_left' a,List.drop_left' a⟩
def Fr (h:PH) (a:Value) (side:List Ord):PH->Prop:=λg=>Sub h g/\BG g a 6 side.length (ordsC side)
theorem Fr.mono {h:PH} {d:Value} {side:List Ord}:C3 (Fr h d side):=λa b c H=>⟨H.1.trans c,H.2.sub c⟩
abbrev OFs (so:Value) (out:List Fil):PH->Prop:=OS 218 3 so out.length (DR out)
section
variable {h g:PH} {R:RT} {l:List Ord} {bv so:Value} {out:List Fil}
theorem aq {p n tn:Int} {Kp:KP} {x2:V6->PH->Prop} (H:(OFs so out•Own h) g) (Hl:BG h bv 6 l.length (ordsC l)) (hl:l.length<=64) (hr:∀o∈l,B0 o=true) (ht:tn=0\/tn=1)
  (hk:∀g' d side,(OFs so out•Fr h d side) g'->Srt side l (decide (tn=0)) p->x2 (bv,.int .i64 p,.int .i64 n,so,.int .i64 tn,d) g') :
  lf (Md Kp x2) (bv,.int .i64 p,.int .i64 n,so,.int .i64 tn) (.slice none 0 0,.int .i64 0) g:=by
 refine AL (λm O g=>∃(i:Nat) (d:Value) (side:List Ord),O=(d,.int .i64 i)/\m=l.length-i/\i<=l.length/\(OFs so out•Fr h d side) g/\Srt side (l.take i) (decide (tn=0)) p) l.length
  ⟨0,.slice none 0 0,[],rfl,rfl,by omega,AU H (λ_ h=>h) λ_ h=>⟨h,BG.nil⟩,⟨by simp,List.Pairwise.nil⟩⟩ ?_
 rintro m O g ⟨i,d,side,rfl,em,hi,Hg,hS⟩;have fr:=AF Fr.mono Hg;have t:=Hl.sub fr.1
 have hsl:side.length<=64:=by
  have h1:=hS.len;rw[List.length_take]at h1;omega
 by_cases F:i<l.length
 ·obtain⟨o,E⟩:=Bp (l:=l) (k:=i) F
  have z:=hr o (List.mem_of_getElem? E);have V:l.take (i+1)=l.take i ++ [o]:=by rw[List.take_add_one,E];rfl
  have key:∀(x:V5->V2->PH->Prop),(∀g' f a,(OFs so out•Fr h f a) g'->Srt a (l.take (i+1)) (decide (tn=0)) p->x (bv,.int .i64 p,.int .i64 n,so,.int .i64 tn) (f,.int .i64 ((i:Int)+1)) g') ->
    Md Kp x2 (bv,.int .i64 p,.int .i64 n,so,.int .i64 tn) x (d,.int .i64 i) g:=by
   intro x v;unfold Md CO FP eXW gAW gGW ivW;have q:(i:Int)<(l.length:Int):=by omega
   simp only[t.lens,AC,q,B6,AB];refine nT ?_;obtain⟨b,off,q1,q2⟩:=EV t E;rw[q1,(q2 g (Sub.refl g)).2];refine AX λt11 J=>?_;refine AN (cs:=o.a) (AD _ _ _) (by rfl) (by rfl) (by rfl) ?_;rw[An];have u:=Ar (o:=.cells o.a 78 (0,0)) J Hg;revert u;generalize ins g t11 (.cells o.a 78 (0,0))=g2;intro u;have y:=AM u
   have S:∀g,g t11=some (.cells o.a 78 (0,0))->∀K,A0 (some 6) (.pointer (some ⟨t11,0,none⟩)) g K↔K o.v:=λg k K=>by
    rw[AI k (off:=0) (n:=6) (by show 0+6<=6;omega)];rfl
   have N:IntKind.i64.wrap ((i:Int)+1)=(i:Int)+1:=w64 (by omega) (by omega);refine fi y ht ?_;rw[S g2 y];refine IA ?_;rw[z];cases T:BP (decide (tn=0)) p o with
   | false=>
    have:=v g2 d side (AF (A8 _ _) u) (by rw[V];exact mD hS T);simp[AK.elim,N];exact this
   | true=>
    have s:=AF Fr.mono (AF (A8 _ _) u);simp only[AK.elim,Bm,Bool.not_true,AZ,C7,Al,cond_false,cond_true,AB,Ba,C1,CI,true_and,and_true,ne_eq,Bx,reduceCtorEq,CJ,implies_true,s.2.lens];refine jH s.2 y (by omega) λk j I G=>?_;intro r c;rw[show r 0=bv from congrArg (·.1) c,show r 1=Value.int .i64 p from congrArg (·.2.1) c,show r 2=Value.int .i64 n from congrArg (·.2.2.1) c,show r 7=so from congrArg (·.2.2.2.1) c,show r 8=Value.int .i64 tn from congrArg (·.2.2.2.2.1) c,show r 9=d from congrArg (·.2.2.2.2.2.1) c,show r 10=Value.int .i64 i from congrArg (·.2.2.2.2.2.2.1) c,show r 11=ptr t11 from congrArg (·.2.2.2.2.2.2.2.1) c,show r 13=Value.int .i64 k from congrArg (·.2.2.2.2.2.2.2.2) c];obtain⟨c1,c2⟩:=Xj side j;have cn:(ordsC side).take (side.length*6)=ordsC side:=List.take_of_length_le (by rw[Ew];omega);refine s.2.slice (lo:=0) (hi:=k) (by omega) j (.inr ⟨rfl,rfl⟩) (.inl rfl) λv1 Q=>?_;rw[Nat.zero_mul,List.drop_zero,Nat.sub_zero,c1]at Q;refine⟨by omega,by omega,rfl,?_⟩;refine HY u Q (by simp only[roomBytes];omega) λg3 s3 Y=>?_;have k3:=AM (AF (A8 _ _) Y);rw[S g3 k3];simp only[show (1*6<=2^24)from by omega,show (0<6)from by omega,show (0<48)from by omega,show (Array.size #[(.int .i64 0:Value),(.int .i64 0:Value),(.int .i64 0:Value),(.int .i64 0:Value),(.int .i64 0:Value),(.bool false:Value)]=6)from rfl,true_and];have W:(side.take k).length=k:=by rw[List.length_take];omega
    refine Nf (l:=side.take k) (o:=o) (by rw[W];exact Y) (by omega) λg4 s4 H4=>?_;obtain⟨h0,U,ob⟩:=Iw H4;have L:=AF Fr.mono (AF (A8 _ _) U);refine L.2.slice (lo:=k) (hi:=side.length) j (by omega) (.inl rfl) (.inr ⟨rfl,rfl⟩) λv2 P=>?_;rw[cn,c2]at P;have e4:(side.take k ++ [o]).length=k+1:=by rw[List.length_append,W];rfl
    refine WN ob (by rw[e4];simp only[roomBytes];omega) P λg5 Z w=>?_;rw[AG,N];have M:=D0 U w;rw[<-MI]at M;have ac:∀A B C D:PH->Prop,A•B•C•D=C•(A•B•D):=λ_ _ _ _=>by ac_rfl
    rw[ac]at M;refine v g5 Z (side.take k ++ [o]++side.drop k) (AU M (λ_ h=>h) λgg X=>⟨(AF Fr.mono (AF (A8 _ _) X)).1,?_⟩) (by rw[V];exact mF hS T j I G);have:=CC (AJ OS.mono X) Cy;rw[List.length_append,List.length_drop];exact this
  exact key _ λg' f a H' S'=>⟨rfl,l.length-(i+1),by omega,i+1,f,a,rfl,rfl,by omega,H',S'⟩
 ·have e:i=l.length:=by omega
  subst e;unfold Md CO FP eXW gAW gGW ivW;have q:¬(l.length:Int)<(l.length:Int):=by omega
  simp only[t.lens,AC,q,BW,AB];refine nF ?_;rw[List.take_length]at hS;exact hk g d side Hg hS
end
section
variable {h g:PH} {R:RT} {l side:List Ord} {bv so sv:Value} {out:List Fil} {C:PH->Prop}
theorem ca {s:Value} {f:Fil} {out:List Fil} {K:Value->PH->Prop} (H:(OFs s out•C) g) (B:out.length<=1000) (x:∀g' k,(OFs k (out ++ [f])•C) g'->K k g') :
  Aj 218 3 1 #[.int .i64 0,.int .i64 0,.int .i64 0] [(0,f.v)] g λt38 c=>Ab false 218 3 24 s t38 c K:=by
 refine⟨_,Om f,λd p=>?_⟩;obtain⟨h0,y,o⟩:=Iw H
 refine Db (m:=1) (news:=f.a.toList) (o.up (AT _ p)) (by simp only[roomBytes];omega) (by omega) rfl
  (λI i=>.inr (.inr ⟨rfl,d,0,1,1,_,_,_,rfl,AD _ _ _,by show 0+1*3<=3;omega,?_,i⟩)) (λG n A E u D cap a=>?_) λz t b=>?_
 ·intro v w
  have:v∈DR [f]:=w;exact Jn v this
 ·cases u
  intro e
  rcases o.buf with⟨j,_⟩ | ⟨g',F,r,j,q,_⟩
  ·rw[j]at a;cases a
  ·rw[j]at a;cases a;rw[<-e,p]at q;cases q
 ·rw[Kb]at b
  refine x z t (D0 y ?_);rw[List.length_append];exact b
theorem ao {p n tn:Int} {u:Value} {Kp:KP} {v:V5->PH->Prop} (H:(OFs so out•Fr h sv side) g) (W:side.length<=64) (F:out.length<=64) (Q:∀o∈side,B0 o=true) (S:0<=n/\n<=1099511627776)
  (G:∀g' c,(OFs c (Ed side n out)•Own h) g'->v (u,.int .i64 p,.int .i64 n,c,.int .i64 tn) g') :
  lf (Jy Kp v) (u,.int .i64 p,.int .i64 n,.int .i64 tn,sv) (so,.int .i64 n,.int .i64 0) g:=by
 refine AL (λm t g=>∃(i:Nat) (c:Value) (a:Int×List Fil),t=(c,.int .i64 a.1,.int .i64 i)/\m=side.length-i/\i<=side.length/\a=(side.take i).foldl stF (n,out)/\(OFs c a.2•Fr h sv side) g) side.length
  ⟨0,so,(n,out),rfl,rfl,by omega,rfl,H⟩ ?_
 rintro m t g ⟨i,c,a,rfl,em,hi,hst,Hg⟩;have fr:=AF Fr.mono Hg;have V:=Ok (M:=1099511627776) (side.take i) (n,out) S;have E:=Jk (side.take i) (n,out);rw[<-hst]at V E;have O:(side.take i).length<=i:=by rw[List.length_take];omega
 by_cases q:i<side.length/\0<a.1
 ·obtain⟨q,r⟩:=q
  obtain⟨o,x⟩:=Bp (l:=side) (k:=i) q;have P:=Am.1 (Q o (List.mem_of_getElem? x));have I:(side.take (i+1)).foldl stF (n,out)=stF a o:=by rw[List.take_add_one,x,List.foldl_append,<-hst];rfl
  rw[Z6 r (by omega)]at I
  have key:∀(w:V5->V3->PH->Prop),(∀g' d,(OFs d (a.2 ++ [⟨o.id,o.own,min a.1 o.am⟩])•Fr h sv side) g'->w (u,.int .i64 p,.int .i64 n,.int .i64 tn,sv) (d,.int .i64 (a.1-min a.1 o.am),.int .i64 ((i:Int)+1)) g') ->
    Jy Kp v (u,.int .i64 p,.int .i64 n,.int .i64 tn,sv) w (c,.int .i64 a.1,.int .i64 i) g:=by
   intro w y;unfold Jy Iy Pk gAW gGW ivW;have j:(i:Int)<(side.length:Int):=by omega
   simp only[fr.2.lens,AC,At,j,r,B6,AZ,C7,Al,cond_true,AB,CI,ne_eq,Bx,C1,and_true,true_and,Bool.true_eq_false,reduceCtorEq];obtain⟨b,off,q1,q2⟩:=EV fr.2 x;have q3:=(q2 g (Sub.refl g)).1;have D:=q3 0 (.int .i64 o.id) (by omega) rfl;have K:=q3 1 (.int .i64 o.own) (by omega) rfl;have J:=q3 3 (.int .i64 o.am) (by omega) rfl;rw[Nat.add_zero]at D;have N:IntKind.i64.wrap ((i:Int)+1)=(i:Int)+1:=w64 (by omega) (by omega);have L:IntKind.i64.wrap (a.1-min a.1 o.am)=a.1-min a.1 o.am:=w64 (by omega) (by omega)
   have A:(if (if false=true then o.am>a.1 else o.am<a.1)then o.am else a.1)=min a.1 o.am:=by
    simp only[Ba,if_false]
    split <;> omega
   simp only[q1,AH,Nat.add_zero,D,K,J,E7,A];refine⟨_,Qn _ _ _,?_⟩;simp only[show (1*3<=2^24)from by omega,show (0<3)from by omega,show (0<24)from by omega,show (Array.size #[(.int .i64 0:Value),(.int .i64 0:Value),(.int .i64 0:Value)]=3)from rfl,true_and];refine ca (f:=⟨o.id,o.own,min a.1 o.am⟩) Hg (by simp only at E;omega) λg' t B=>?_;rw[Ao,L,AG,N];exact y g' t B
  exact key _ λg' d B=>⟨rfl,side.length-(i+1),by omega,i+1,d,_,rfl,rfl,by omega,I.symm,B⟩
 ·have e:Ed side n out=a.2:=by
   unfold Ed
   rcases Nat.lt_or_ge i side.length with j | hge
   ·have h0:a.1<=0:=by omega
    have U:side.foldl stF (n,out)=(side.drop i).foldl stF ((side.take i).foldl stF (n,out)):=by rw[<-List.foldl_append,List.take_append_drop]
    rw[U,<-hst,Oj _ h0]
   ·rw[hst,List.take_of_length_le hge]
  rw[e]at G;have s:=G g c (AU Hg (λ_ h=>h) λ_ h=>h.1);unfold Jy Iy Pk gAW gGW ivW
  by_cases j:i<side.length
  ·have z:(i:Int)<(side.length:Int):=by omega
   have T:¬0<a.1:=λh=>q ⟨j,h⟩;simp[fr.2.lens,z,T];exact s
  ·have z:¬(i:Int)<(side.length:Int):=by omega
   simp[fr.2.lens,z];exact s
theorem TS {p n tn:Int} {Kp:KP} {t:Value->PH->Prop} {q:V3->V2->PH->Prop} (H:(OFs so out•Own h) g) (E:BG h bv 6 l.length (ordsC l)) (A:l.length<=64) (i:out.length<=64) (k:∀o∈l,B0 o=true)
  (f:∀x∈l,∀y∈l,x.pl=y.pl->x=y) (u:tn=0\/tn=1) (z:0<=n/\n<=1099511627776)
  (s:∀g' d,(OFs d (Ed (CT (CZ l (decide (tn=0)) p)) n out)•Own h) g'->q (bv,.int .i64 p,.int .i64 n) (d,.int .i64 (tn+1)) g') :
  PP Kp t (bv,.int .i64 p,.int .i64 n) q (so,.int .i64 tn) g:=by
 unfold PP eXW ivW;have m:tn<2:=by omega
 simp only[AC,m,B6,AB];refine nT ?_;refine aq H E A k u λI sv side G S2=>?_;have D:=mE S2 k f;rw[<-D]at s;have v:=S2.len;have j:∀o∈side,B0 o=true:=λo w=>k o (List.mem_filter.1 (S2.perm.mem_iff.1 w)).1;intro r a;rw[show r 0=bv from congrArg (·.1) a,show r 1=Value.int .i64 p from congrArg (·.2.1) a,show r 2=Value.int .i64 n from congrArg (·.2.2.1) a,show r 7=so from congrArg (·.2.2.2.1) a,show r 8=Value.int .i64 tn from congrArg (·.2.2.2.2.1) a,show r 9=sv from congrArg (·.2.2.2.2.2) a];refine ao (h:=h) G (by omega) i j z λB c F=>?_;intro e b;rw[show e 0=bv from congrArg (·.1) b,show e 1=Value.int .i64 p from congrArg (·.2.1) b,show e 2=Value.int .i64 n from congrArg (·.2.2.1) b,show e 7=c from congrArg (·.2.2.2.1) b,show e 8=Value.int .i64 tn from congrArg (·.2.2.2.2) b];rw[AG,w64 (by omega) (by omega)];exact s B c F
theorem XL (l:List Ord) (b:Bool) (p:Int):(CZ l b p).length<=l.length:=by
 unfold CZ Bj;exact Nat.le_trans (List.length_filter_le _ _) (List.length_filter_le _ _)
theorem Xa {p n:Int} (e:BG h bv 6 l.length (ordsC l)) (k:l.length<=64) (c:∀o∈l,B0 o=true) (a:∀x∈l,∀y∈l,x.pl=y.pl->x=y) (j:0<=n/\n<=1099511627776)
  (s:∀g so,(OFs so (DK l p n)•Own h) g->R (.ret so) g) :
  A7 Tryz.prog 181 #[bv,.int .i64 p,.int .i64 n] h R:=by
 refine ge ?_;unfold jt eXW ivW pnW;have d:¬(64:Int)<(l.length:Int):=by omega
 simp only[e.lens,At,d,BW,AB];refine nF ?_;have w:(OFs (.slice none 0 0) []•Own h) h:=D0 (Sub.refl h) ⟨Sub.refl h,rfl,.inl ⟨rfl,rfl,rfl⟩⟩;refine Jd 3 ?_;refine Di λq b=>?_;refine TS (tn:=0) w e k (by simp) c a (.inl rfl) j λA z v=>b _ _ ?_;refine Di λq b=>?_;have i:=LC (CT (CZ l true p)) n [];rw[Jg]at i;have m:=XL l true p;simp only[List.length_nil]at i;refine TS (tn:=0+1) (out:=Ed (CT (CZ l true p)) n []) v e k (by omega) c a (.inr rfl) j λt f u=>b _ _ ?_;rw[RZ];unfold PP eXW ivW;simp;intro r c;rw[show r 7=f from c];exact s t f u
end
theorem Qc {fs:List Fil} {id:Int} (h:∀f∈fs,0<=f.am/\f.am<=1048576):∀k:Nat,0<=B1 (fs.take k) id/\B1 (fs.take k) id<=1048576*k
 | 0=>by simp[B1]
 | k+1=>by
  have b:=Qc (id:=id) h k
  rcases Nat.lt_or_ge k fs.length with hk | hk
  ·obtain⟨f,a⟩:∃f,fs[k]?=some f:=⟨_,Bu hk⟩
   have c:=h f (List.mem_of_getElem? a);have e:fs.take (k+1)=fs.take k ++ [f]:=by rw[List.take_add_one,a];rfl
   rw[e,Eu];simp only[B1]
   split <;> omega
  ·have e:fs.take (k+1)=fs.take k:=by rw[List.take_of_length_le (by omega),List.take_of_length_le hk]
   rw[e];omega
theorem TX {fs:List Fil} {id:Int} {k:Nat} {f:Fil} (a:fs[k]?=some f):B1 (fs.take (k+1)) id=B1 (fs.take k) id+if f.id=id then f.am else 0:=by
 have e:fs.take (k+1)=fs.take k ++ [f]:=by rw[List.take_add_one,a];rfl
 rw[e,Eu];simp only[B1];omega
section
variable {h g:PH} {R:RT} {B:Bk} {bv so:Value} {C:PH->Prop} {fs:List Fil} {o:Ord}
theorem W9 {f:Fil} {i:Nat} (H:BG h so 3 fs.length (DR fs)) (a:fs[i]?=some f):∃b off,(∀K,AR 3 so (.int .i64 i) K↔K (.pointer (some ⟨b,off,none⟩)))/\∀G,Sub h G->∀j x,j<3->f.cells[j]?=some x->∀K,A0 none (.pointer (some ⟨b,off+j,none⟩)) G K↔K x:=by
 have hi:=(Bc.1 a).1;obtain⟨b,off,q1,q2⟩:=H.el hi;exact⟨b,off,q1,λG e j x c d K=>(q2 G e).1 j x c ((Jo fs i f a j c).trans d) K⟩
theorem gE {t:Nat} {s r p n l j:Value} {Kp:KP} {x2:V8->PH->Prop} (H:(pt t (.cells o.a 78 (0,0))•C) g) (P:∀q,C q->BG q so 3 fs.length (DR fs)) (z:C3 C)
  (T:fs.length<=1000) (E:∀f∈fs,0<=f.am/\f.am<=1048576) (S:0<=o.am/\o.am<=1048576)
  (M:∀g',(pt t (.cells (Du fs o).a 78 (0,0))•C) g'->x2 (s,r,p,n,so,l,j,ptr t) g') :
  lf (Mf Kp x2) (s,r,p,n,so,l,j,ptr t) (.int .i64 0) g:=by
 refine AL (λm D g=>∃k:Nat,D = .int .i64 k/\m=fs.length-k/\k<=fs.length/\(pt t (.cells (Ord.a {o with am:=o.am-B1 (fs.take k) o.id}) 78 (0,0))•C) g) fs.length
  ⟨0,rfl,rfl,by omega,by simpa [B1]using H⟩ ?_
 rintro m D g ⟨k,rfl,em,hkl,Hg⟩;have u:=AM Hg;have w:=P g (AF z Hg)
 by_cases x:k<fs.length
 ·obtain⟨f,y⟩:∃f,fs[k]?=some f:=⟨_,Bu x⟩
  have a:=TX (id:=o.id) y;have O:=Qc (id:=o.id) E k;have N:=E f (List.mem_of_getElem? y)
  have key:∀v:V8->Value->PH->Prop,(∀g',(pt t (.cells (Ord.a {o with am:=o.am-B1 (fs.take (k+1)) o.id}) 78 (0,0))•C) g'->v (s,r,p,n,so,l,j,ptr t) (.int .i64 ((k:Int)+1)) g') ->
    Mf Kp x2 (s,r,p,n,so,l,j,ptr t) v (.int .i64 k) g:=by
   intro v i;unfold Mf ivW;have d:(k:Int)<(fs.length:Int):=by omega
   simp only[w.lens,AC,d,B6,AB];refine nT ?_;obtain⟨b,off,q1,q2⟩:=W9 w y;have A:=q2 g (Sub.refl g) 0 (.int .i64 f.id) (by omega) rfl;have I:=q2 g (Sub.refl g) 2 (.int .i64 f.am) (by omega) rfl;rw[Nat.add_zero]at A;have G:=λK=>A5 (K:=K) u (show (Ord.a {o with am:=o.am-B1 (fs.take k) o.id})[0]?=some (.int .i64 o.id)from rfl);have F:=λK=>A5 (K:=K) u (show (Ord.a {o with am:=o.am-B1 (fs.take k) o.id})[3]?=some (.int .i64 (o.am-B1 (fs.take k) o.id))from rfl);have L:IntKind.i64.wrap ((k:Int)+1)=(k:Int)+1:=w64 (by omega) (by omega);simp only[q1,AH,Ad,Nat.add_zero,A,G,BC,AB,AG,L]
   by_cases c:f.id=o.id
   ·rw[if_pos c]at a
    have J:IntKind.i64.wrap (o.am-B1 (fs.take k) o.id-f.am)=o.am-B1 (fs.take (k+1)) o.id:=by rw[w64 (by omega) (by omega),a];omega
    refine⟨λ_=>?_,λe=>absurd c (of_decide_eq_false e)⟩;simp only[F,I,Ao,J];rw[Aw u (by show 3<6;omega) rfl];exact i _ (Bb Hg)
   ·rw[if_neg c,Int.add_zero]at a
    rw[a]at i;exact⟨λe=>absurd (of_decide_eq_true e) c,λ_=>i g Hg⟩
  exact key _ λg' Q=>⟨rfl,fs.length-(k+1),by omega,k+1,rfl,rfl,by omega,Q⟩
 ·have e:k=fs.length:=by omega
  subst e;unfold Mf ivW;have d:¬(fs.length:Int)<(fs.length:Int):=by omega
  simp only[w.lens,AC,d,BW,AB];refine nF ?_;rw[List.take_length]at Hg;exact M g Hg
def HU (fs:List Fil) (l:List Ord) (k:Nat):List Ord:=((l.take k).map (Du fs)).filter λo=>!decide (o.am=0)
theorem VC {l:List Ord} {k:Nat} (a:l[k]?=some o):HU fs l (k+1)=if (Du fs o).am=0 then HU fs l k else HU fs l k ++ [Du fs o]:=by
 have e:l.take (k+1)=l.take k ++ [o]:=by rw[List.take_add_one,a];rfl
 unfold HU;rw[e,List.map_append,List.filter_append]
 by_cases c:(Du fs o).am=0
 ·rw[if_pos c];simp[c]
 ·rw[if_neg c];simp[c]
theorem Xt (l:List Ord) (k:Nat):(HU fs l k).length<=l.length:=by
 unfold HU;have a:=List.length_filter_le (λo=>!decide (o.am=0)) ((l.take k).map (Du fs));rw[List.length_map,List.length_take]at a;omega
theorem Xe (H:BG h bv 6 B.l.length (ordsC B.l)) (u:B.ok) (hR:∀g v d,Sub h g->RB g v (AE B).B->BG g d 3 (AE B).fs.length (DR (AE B).fs)->R (.ret (.tuple #[v,.int .i64 (AE B).p,.int .i64 (AE B).n,d])) g) :
  A7 Tryz.prog 157 #[.agg (rbA bv B.next)] h R:=by
 refine iC ?_;unfold kO Ep eXW ivW pnW;rw[show Value.cells (.agg (rbA bv B.next))=rbA bv B.next from rfl];refine Ai λt1 s _ s1 k1=>AX λt2 h2=>?_;have H2:(pt t2 (.cells #[.slice none 0 0,.int .i64 0] 110 (0,0))•Own s) (ins s t2 (.cells #[.slice none 0 0,.int .i64 0] 110 (0,0))):=Ar h2 (Sub.refl s);revert H2;generalize ins s t2 (.cells #[.slice none 0 0,.int .i64 0] 110 (0,0))=g2;intro H2;have A:Sub s g2:=AF Own.mono H2;have Z:∀g,Sub s g->∀K,A0 none (.pointer (some ⟨t1,0,none⟩)) g K↔K bv:=λg z K=>A5 (z _ _ k1) rfl;have l1:∀g,Sub s g->∀K,A0 none (.pointer (some ⟨t1,1,none⟩)) g K↔K (.int .i64 B.next):=λg z K=>A5 (z _ _ k1) rfl;have X:=H.sub (s1.trans A);have L:=JB u.right;have t:=u.len;have W:=JJ (r:=B.l) t u.right
 have P:∀a∈B.l,∀b∈B.l,a.pl=b.pl->a=b:=λa ha b hb e=>by
  obtain⟨i,hi⟩:=List.mem_iff_getElem?.1 ha;obtain⟨j,hj⟩:=List.mem_iff_getElem?.1 hb;obtain⟨V,U⟩:=Bc.1 hi;obtain⟨S,Q⟩:=Bc.1 hj;have N:=List.pairwise_iff_getElem.1 u.pls
  rcases Nat.lt_trichotomy i j with h | h | h
  ·have:=N i j V S h;rw[U,Q]at this;omega
  ·subst h;rw[hi]at hj;cases hj;rfl
  ·have:=N j i S V h;rw[U,Q]at this;omega
 have ep:(Cq B.l).1=(AE B).p:=by show _=(Cq (Bj B.l)).1;rw[L]
 have en:(Cq B.l).2=(AE B).n:=by show _=(Cq (Bj B.l)).2;rw[L]
 have ef:DK B.l (AE B).p (AE B).n=(AE B).fs:=rfl;simp only[AH,Ad,Z g2 A];refine Xd X t u.right ?_;simp only[AK.elim,Av,Au,Z g2 A];rw[ep,en];rw[en]at W;refine Xa X t u.right P ⟨W.1,by omega⟩ λg3 d H3=>?_;rw[ef]at H3;simp only[AK.elim]
 have hfm:∀f∈(AE B).fs,0<=f.am/\f.am<=1048576:=λf hf=>by
  obtain⟨o,D,J,_,_,h5,h6⟩:=Gx (l:=B.l) hf;have:=Am.1 J;omega
 have hfl:(AE B).fs.length<=128:=by
  have:=Gy B.l (AE B).p (AE B).n;show (DK B.l (AE B).p (AE B).n).length<=128;omega
 have T:∀o∈B.l,0<=B1 (AE B).fs o.id/\B1 (AE B).fs o.id<=o.am:=λo D=>Gd u.ids u.right D
 have hBl:(AE B).B = {next:=B.next,l:=HU (AE B).fs B.l B.l.length}:=by
  rw[JM u];unfold QX HU;rw[List.take_length]
 rw[hBl]at hR;generalize (AE B).fs=fs at *;generalize (AE B).p=p at *;generalize (AE B).n=n at *
 -- what stands through the loop
 have H4:(pt t2 (.cells #[.slice none 0 0,.int .i64 0] 110 (0,0))•(λq=>Sub s q/\BG q d 3 fs.length (DR fs))) g3:=by
  have h5:=AU H3 (λ_ h=>h) λq z=>EF H2 z;rw[Es]at h5;exact AU h5 (λ_ h=>h) λq hq=>⟨AF Own.mono hq,CC (AJ OS.mono hq) Jn⟩
 have hm:C3 λq=>Sub s q/\BG q d 3 fs.length (DR fs):=λa b z H=>⟨H.1.trans z,H.2.sub z⟩
 have H5:(OS 78 6 (.slice none 0 0) (HU fs B.l 0).length (ordsC (HU fs B.l 0))•pt t2 (.cells #[.slice none 0 0,.int .i64 0] 110 (0,0))•(λq=>Sub s q/\BG q d 3 fs.length (DR fs))) g3:=
  D0 H4 ⟨Sub.refl _,rfl,.inl ⟨rfl,rfl,rfl⟩⟩
 refine AL (λm s' g=>∃(i:Nat) (F:Value),s'=(F,.int .i64 i)/\m=B.l.length-i/\i<=B.l.length/\(OS 78 6 F (HU fs B.l i).length (ordsC (HU fs B.l i))•pt t2 (.cells #[.slice none 0 0,.int .i64 0] 110 (0,0))•(λq=>Sub s q/\BG q d 3 fs.length (DR fs))) g) B.l.length
  ⟨0,.slice none 0 0,rfl,rfl,by omega,H5⟩ ?_
 rintro m s' g ⟨i,F,rfl,em,hi,Hg⟩;have Y:=AF hm (AF (A8 _ _) Hg);have Hl:=H.sub (s1.trans Y.1)
 by_cases hin:i<B.l.length
 ·obtain⟨o,D⟩:=Bp (l:=B.l) (k:=i) hin
  have x:=VC (fs:=fs) D;have J:=Am.1 (u.right o (List.mem_of_getElem? D));have hfo:=T o (List.mem_of_getElem? D)
  have key:∀(kn:V5->V2->PH->Prop) x0,(∀g' w,(OS 78 6 w (HU fs B.l (i+1)).length (ordsC (HU fs B.l (i+1)))•pt t2 (.cells #[.slice none 0 0,.int .i64 0] 110 (0,0))•(λq=>Sub s q/\BG q d 3 fs.length (DR fs))) g'->kn (ptr t1,ptr t2,.int .i64 p,.int .i64 n,d) (w,.int .i64 ((i:Int)+1)) g') ->
    PZ (λc h=>R (.pan c) h) x0 (ptr t1,ptr t2,.int .i64 p,.int .i64 n,d) kn (F,.int .i64 i) g:=by
   intro kn x0 y;unfold PZ CO FP eXW ivW;have E:(i:Int)<(B.l.length:Int):=by omega
   simp only[AH,Ad,Z g Y.1,Hl.lens,AC,E,B6,AB];refine nT ?_;obtain⟨b,off,q1,q2⟩:=EV Hl D;rw[q1,(q2 g (Sub.refl g)).2];refine AX λt11 h11=>?_;refine AN (cs:=o.a) (AD _ _ _) (by rfl) (by rfl) (by rfl) ?_;rw[An];have H6:=Ar (o:=.cells o.a 78 (0,0)) h11 Hg;revert H6;generalize ins g t11 (.cells o.a 78 (0,0))=g4;intro H6;refine gE H6 (λq hq=>(AF hm (AF (A8 _ _) hq)).2) (A8 _ _) (by omega) hfm ⟨by omega,by omega⟩ λg5 H7=>?_;intro r M;simp only[Prod.mk.injEq]at M;obtain⟨r1,r2,r6,r7,r8,r9,r10,r11⟩:=M;have I:=AM H7;have z3:=λK=>A5 (K:=K) I (show (Du fs o).a[3]?=some (.int .i64 (Du fs o).am)from rfl);have w1:IntKind.i64.wrap ((i:Int)+1)=(i:Int)+1:=w64 (by omega) (by omega)
   have l6:∀K,A0 (some 6) (.pointer (some ⟨t11,0,none⟩)) g5 K↔K (Du fs o).v:=λK=>by
    rw[AI I (off:=0) (n:=6) (by show 0+6<=6;omega)];rfl
   have ha:(Du fs o).am=o.am-B1 fs o.id:=rfl;simp only[r1,r2,r6,r7,r8,r9,r10,r11,AH,Ad,z3,At,AB,AG,w1,l6];refine⟨λe=>?_,λe=>?_⟩
   ·have O:=of_decide_eq_true e
    rw[if_neg (by omega)]at x;rw[x]at y;simp only[show (1*6<=2^24)from by omega,show (0<6)from by omega,show (0<48)from by omega,show (Array.size #[(.int .i64 0:Value),(.int .i64 0:Value),(.int .i64 0:Value),(.int .i64 0:Value),(.int .i64 0:Value),(.bool false:Value)]=6)from rfl,true_and];have H8:=AF (A8 _ _) H7;refine Nf (o:=Du fs o) H8 (by have:=Xt (fs:=fs) B.l i;omega) λg6 s6 H9=>?_;exact y g6 s6 H9
   ·have O:=of_decide_eq_false e
    rw[if_pos (by omega)]at x;rw[x]at y;exact y g5 F (AF (A8 _ _) H7)
  exact key _ _ λg' w H'=>⟨rfl,B.l.length-(i+1),by omega,i+1,w,rfl,rfl,by omega,H'⟩
 ·have e:i=B.l.length:=by omega
  subst e;unfold PZ CO FP eXW ivW;have E:¬(B.l.length:Int)<(B.l.length:Int):=by omega
  simp only[AH,Ad,Z g Y.1,Hl.lens,AC,E,BW,AB];refine nF ?_;intro r M;simp only[Prod.mk.injEq]at M;obtain⟨r1,r2,r6,r7,r8,r9⟩:=M;have o9:=BL (AJ OS.mono Hg);simp only[r1,r2,r6,r7,r8,r9,AH,Ad,l1 g Y.1];refine⟨_,Jp o9 _,?_⟩;rw[Es]at Hg;refine Cc (K:=λrv h'=>R (.ret (.tuple #[rv,.int .i64 p,.int .i64 n,d])) h') Hg (A8 _ _) rfl rfl (one2 o9) λg6 H9=>?_;have G:=AF hm H9;exact hR g6 _ d (s1.trans G.1) ⟨F,rfl,CC (AJ OS.mono H9) Cy⟩ G.2
end
section
variable {h g:PH} {R:RT} {B C:PH->Prop} {S:Hs} {t i p:Nat} {n:Int} {cs:Array Value}
theorem ZR {v:Value} (H:RH h v S) (hi:i<S.L.n) (c:p<5) (d:S.L.n<=16) (f:S.G<=4) (b:-9223372036854775808<=Ay S.L i p+n/\Ay S.L i p+n<=9223372036854775807)
  (e:∀g a,Sub h g->RH g a (S.setL (BZ S.L i p n))->R (.ret a) g):A7 Tryz.prog 125 #[v,.int .i64 i,.int .i64 p,.int .i64 n] h R:=by
 obtain⟨k,l,j,bs,ss,rfl,H⟩:=H;exact O4 H hi c d f b e
def XS (t:Nat) (cs:Array Value) (S:Hs) (B C:PH->Prop):PH->Prop:=(λq=>RH q (.agg cs) S/\B q)•pt t (.cells cs 52 (0,0))•C
theorem XS.size (H:XS t cs S B C g) (b:C3 B):cs.size=5:=by
 obtain⟨a,_⟩:=AJ (B3 RH.mono b) H;obtain⟨d,e,c,_⟩:=Gm a;injection e with e
 rw[e];exact c
theorem XS.b (H:XS t cs S B C g) (a:C3 B):B g:=(AJ (B3 RH.mono a) H).2
theorem XS.load (H:XS t cs S B C g) (a:C3 B) {K:Value->Prop}:A0 (some 5) (.pointer (some ⟨t,0,none⟩)) g K↔K (.agg cs):=by
 have c:=XS.size H a;have k:=AM (AF (A8 _ _) H);rw[AI k (off:=0) (n:=5) (by omega)];have b:cs.extract 0 (0+5)=cs:=by rw[show 0+5=cs.size by omega,Array.extract_size]
 rw[b]
theorem XS.put {v:Value} {S':Hs} {b:Array Value} {K:PH->Prop} (H:((λq=>RH q v S'/\B q)•pt t (.cells b 52 (0,0))•C) g) (j:C3 B) (h0:b.size=5) (f:∀g' a,XS t a S' B C g'->K g'):A9 5 (.pointer (some ⟨t,0,none⟩)) v g K:=by
 obtain⟨d,_⟩:=AJ (B3 RH.mono j) H;obtain⟨a,e,k,l⟩:=Gm d;subst e;rw[Es]at H;refine AN (cs:=a) (AM H) h0 k (by rw[List.all_eq_true];exact l) ?_;have c:=Bb (p:=.cells a 52 (0,0)) H;rw[Es]at c;exact f _ a c
theorem XS.give {K:PH->Prop} {Kp:KP} (H:XS t cs S B C g) (c:C3 B) (hi:i<S.L.n) (k:p<5) (l:S.L.n<=16) (o:S.G<=4) (e:-9223372036854775808<=Ay S.L i p+n/\Ay S.L i p+n<=9223372036854775807)
  (m:∀g' d,XS t d (S.setL (BZ S.L i p n)) B C g'->K g') :
  AA Tryz.prog 125 #[.agg cs,.int .i64 i,.int .i64 p,.int .i64 n] g (λv u=>A9 5 (.pointer (some ⟨t,0,none⟩)) v u λs=>K s) Kp:=by
 have r:=XS.size H c
 refine fr (X:=Value) (val:=λv=>v) (Q:=λv q=>RH q v (S.setL (BZ S.L i p n))) H (B3 RH.mono c)
  (λq a R' b=>ZR a.1 hi k l o e λg' v j f=>b g' v j f) λv g' w=>?_
 exact XS.put (AU w (λq a=>⟨a.1,a.2.2⟩) λ_ h=>h) c r m
theorem XS.ret {t6:Nat} {z:Array Value} {K:Value->PH->Prop} (H:XS t cs S B (C•pt t6 (.cells z 52 (0,0))) g) (c:C3 B) (j:z.size=5) (l:∀g v,B g->RH g v S->K v g) :
  A0 (some 5) (.pointer (some ⟨t,0,none⟩)) g λv=>A9 5 (.pointer (some ⟨t6,0,none⟩)) v g λd=>A0 (some 5) (.pointer (some ⟨t6,0,none⟩)) d λf=>K f d:=by
 rw[XS.load H c];obtain⟨k,_⟩:=AJ (B3 RH.mono c) H;obtain⟨r,e,m,o⟩:=Gm k;injection e with e
 subst e;have q:∀A P D Q:PH->Prop,A•P•D•Q=Q•(A•P•D):=λ_ _ _ _=>by ac_rfl
 unfold XS at H;rw[q]at H;refine Cc (K:=K) H (A8 _ _) j m o λg' s=>?_;obtain⟨a,b⟩:=AJ (B3 RH.mono c) s;exact l g' _ b a
theorem bU {d f c:Value} {bs ss:Nat->Value} {A:PH->Prop} (H:(CP t S d f c bs ss•A•C) g) (l:∀q,A q->Ps q S bs ss) (m:C3 A):XS t (rhA S.L.goods S.now d f c) S A C g:=by
 unfold CP at H;have e:∀P X Y Z A C:PH->Prop,(P•X•Y•Z)•A•C=((X•Y•Z)•A)•P•C:=λ_ _ _ _ _ _=>by ac_rfl
 rw[e]at H;refine AU H (λq j=>?_) λ_ h=>h;have k:=AF m j;have b:=AJ (A8 _ _) j;have a:=l q k;exact⟨⟨d,f,c,bs,ss,rfl,CC (AJ OS.mono b) (Ry _ _),CC (AJ OS.mono (AF (A8 _ _) b)) (Ws a),CC (AF OS.mono (AF (A8 _ _) b)) (KR λi hi=>L9 a hi),a.b,a.a⟩,k⟩
def FV (L:Led) (s b gd:Nat) (p n:Int):Led:=BZ (BZ (BZ (BZ L s (gd+1) (0-n)) b (gd+1) n) s 0 (p*n)) b 0 (0-p*n)
theorem XQ {k l j:Value} {bs ss:Nat->Value} {s b gd:Nat} {pr n:Int} (H:RHp h S k l j bs ss) (d:s<S.L.n) (M:b<S.L.n) (hgd:gd<4) (y:S.L.n<=16) (hG:S.G<=4) (hp:0<=pr/\pr<=1099511627776) (hn:0<=n/\n<=1048576)
  (r:∀i q,i<S.L.n->q<5->-1152921504606846976<=Ay S.L i q/\Ay S.L i q<=1152921504606846976)
  (hR:∀g v,Sub h g->RH g v (S.setL (FV S.L s b gd pr n))->R (.ret v) g) :
  A7 Tryz.prog 160 #[.agg (rhA S.L.goods S.now k l j),.int .i64 s,.int .i64 b,.int .i64 gd,.int .i64 pr,.int .i64 n] h R:=by
 refine hZ ?_;unfold kL zq1 ivW pnW;rw[show Value.cells (.agg (rhA S.L.goods S.now k l j))=rhA S.L.goods S.now k l j from rfl];refine Ai λt6 O _ Z k6=>AX λt12 z=>?_;have Y:(pt t12 (.cells rh0 52 (0,0))•(λq=>RHp q S k l j bs ss/\Sub h q)) (ins O t12 (.cells rh0 52 (0,0))):=Ar z ⟨H.sub Z,Z⟩;have m:ins O t12 (.cells rh0 52 (0,0)) t6=some (rhO S.L.goods S.now k l j):=AT _ z _ _ k6;revert Y m;generalize ins O t12 (.cells rh0 52 (0,0))=g2;intro Y m;have hmul:=Dc hp hn;have w1:IntKind.i64.wrap (1+(gd:Int))=((gd+1:Nat):Int):=by rw[w64 (by omega) (by omega)];omega
 have w2:IntKind.i64.wrap (0-n)=0-n:=w64 (by omega) (by omega);have w3:IntKind.i64.wrap (pr*n)=pr*n:=w64 (by omega) (by omega);have w4:IntKind.i64.wrap (0-pr*n)=0-pr*n:=w64 (by omega) (by omega);have b0:=r s (gd+1) d (by omega);rw[AI m (off:=0) (n:=5) (by show 0+5<=5;omega),show (rhA S.L.goods S.now k l j).extract 0 (0+5)=rhA S.L.goods S.now k l j from rfl];simp only[AG,Ao,CG,w1,w2,w3,w4];have hm:C3 λq=>RHp q S k l j bs ss/\Sub h q:=λa b d H=>⟨H.1.sub d,H.2.trans d⟩
 refine fr (X:=Value) (val:=λv=>v) (Q:=λv q=>RH q v (S.setL (BZ S.L s (gd+1) (0-n)))) (BX Y) hm
  (λq c R' u=>O4 c.1 d (by omega) y hG (by omega) λg' v d F=>u g' v d F) λv g3 H3=>?_
 refine AX λt13 N=>?_;have E:=Ar (o:=.cells rh0 52 (0,0)) N H3;revert E;generalize ins g3 t13 (.cells rh0 52 (0,0))=g4;intro E;have mo:C3 λq=>Sub h q:=λa b d H=>H.trans d;rw[Es]at E;have nn:∀L:Led,∀i p n,(BZ L i p n).n=L.n:=λ_ _ _ _=>rfl;have gg:∀L:Led,∀i p n,(BZ L i p n).goods=L.goods:=λ_ _ _ _=>rfl;have GG:∀(S':Hs) i p n,(S'.setL (BZ S'.L i p n)).G=S'.G:=λ_ _ _ _=>rfl;have e1:=λa q (c:q<5)=>DT (L:=S.L) (i:=s) (p:=gd+1) (n:=0-n) (by omega) a c
 have x:∀i q,i<S.L.n->q<5->-1152921504606846976-1048576<=Ay (BZ S.L s (gd+1) (0-n)) i q/\Ay (BZ S.L s (gd+1) (0-n)) i q<=1152921504606846976+1048576:=λi q hi c=>by
  have D:=r i q hi c;have h2:=r s (gd+1) d (by omega);rw[e1 i q c];split <;> omega
 generalize f:BZ S.L s (gd+1) (0-n)=L1 at *;have n1:L1.n=S.L.n:=by rw[<-f];rfl
 have e2:=λa q (c:q<5)=>DT (L:=L1) (i:=b) (p:=gd+1) (n:=n) (by omega) a c
 have w:∀i q,i<S.L.n->q<5->-1152921504606846976-2097152<=Ay (BZ L1 b (gd+1) n) i q/\Ay (BZ L1 b (gd+1) n) i q<=1152921504606846976+2097152:=λi q hi c=>by
  have D:=x i q hi c;have h2:=x b (gd+1) M (by omega);rw[e2 i q c];split <;> omega
 generalize e:BZ L1 b (gd+1) n=L2 at *;have n2:L2.n=S.L.n:=by rw[<-e];exact n1
 have e3:=λa q (c:q<5)=>DT (L:=L2) (i:=s) (p:=0) (n:=pr*n) (by omega) a c
 have U:∀i q,i<S.L.n->q<5->-1152921504606846976-2097152-1152921504606846976<=Ay (BZ L2 s 0 (pr*n)) i q/\Ay (BZ L2 s 0 (pr*n)) i q<=1152921504606846976+2097152+1152921504606846976:=λi q hi c=>by
  have D:=w i q hi c;have h2:=w s 0 d (by omega);rw[e3 i q c];split <;> omega
 have G1:(S.setL L1).G=S.G:=by rw[<-f];rfl
 have G2:(S.setL L2).G=S.G:=by rw[<-e,<-f];rfl
 refine XS.put (B:=λq=>Sub h q) (C:=pt t12 (.cells rh0 52 (0,0))) (AU E (λq c=>⟨c.1,c.2.2⟩) λ_ h=>h) mo rfl λg5 cs5 H5=>?_;rw[XS.load H5 mo];have bb:=x b (gd+1) M (by omega);refine XS.give H5 mo (i:=b) (p:=gd+1) (n:=n) (by show b<L1.n;omega) (by omega) (by show L1.n<=16;omega) (by omega) (by show _<=Ay L1 b (gd+1)+n/\Ay L1 b (gd+1)+n<=_;omega) λg6 T H6=>?_
 have H6':XS t13 T (S.setL L2) (λq=>Sub h q) (pt t12 (.cells rh0 52 (0,0))) g6:=by
  have:(S.setL L1).setL (BZ (S.setL L1).L b (gd+1) n)=S.setL L2:=by rw[<-e];rfl
  rw[this]at H6;exact H6
 rw[XS.load H6' mo];have bc:=w s 0 d (by omega);refine XS.give H6' mo (i:=s) (p:=0) (n:=pr*n) (by show s<L2.n;omega) (by omega) (by show L2.n<=16;omega) (by omega) (by show _<=Ay L2 s 0+pr*n/\Ay L2 s 0+pr*n<=_;omega) λg7 cs7 W=>?_;rw[XS.load W mo];have bdd:=U b 0 M (by omega);obtain⟨_,sb7⟩:=AJ (B3 RH.mono mo) W
 refine fr (X:=Value) (val:=λv=>v) (Q:=λv q=>RH q v (((S.setL L2).setL (BZ (S.setL L2).L s 0 (pr*n))).setL (BZ ((S.setL L2).setL (BZ (S.setL L2).L s 0 (pr*n))).L b 0 (0-pr*n)))) W (B3 RH.mono mo)
  (λq c R' u=>ZR c.1 (i:=b) (p:=0) (n:=0-pr*n) (by show b<L2.n;omega) (by omega) (by show L2.n<=16;omega) (by show (S.setL L2).G<=4;omega) (by show _<=Ay (BZ L2 s 0 (pr*n)) b 0+(0-pr*n)/\Ay (BZ L2 s 0 (pr*n)) b 0+(0-pr*n)<=_;omega) λg' v d F=>u g' v d F) λv g8 V=>?_
 have e8:∀A P Q:PH->Prop,A•P•Q=Q•(A•P):=λ_ _ _=>by ac_rfl
 rw[e8]at V;obtain⟨J,_⟩:=AJ (B3 RH.mono (B3 RH.mono mo)) (AF (A8 _ _) V);obtain⟨cs8,rfl,h5,D⟩:=Gm J;refine Cc (K:=λrv h'=>R (.ret rv) h') V (A8 _ _) rfl h5 D λg9 H9=>?_;obtain⟨I,_,G⟩:=AJ (B3 RH.mono (B3 RH.mono mo)) H9;refine hR g9 _ G ?_;have eT:FV S.L s b gd pr n=BZ (BZ L2 s 0 (pr*n)) b 0 (0-pr*n):=by unfold FV;rw[f,e]
 rw[eT];exact I
end
end Go.Pw
