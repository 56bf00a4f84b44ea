/- Texts of this claim, one behind the other. -/
import Derived.Test.YtboeddfdbpjnjaaGreatM3
import Derived.Test.YtboeddfdbpjnjaaGreatM5
set_option linter.unusedSimpArgs false
set_option linter.unusedVariables false
namespace Go.Pw
open Go Go.Proofs
structure Led where
 goods:Int
 n:Nat
 f:Nat->Nat->Int
 r:Nat->ByteArray
def Led.set (L:Led) (i j:Nat) (v:Int):Led:={L with f:=λa b=>if a=i/\b=j then v else L.f a b}
def Led.setR (L:Led) (i:Nat) (s:ByteArray):Led:={L with r:=λa=>if a=i then s else L.r a}
def GX (L:Led) (k:Nat):Value:=if k%12=11 then .string (L.r (k/12))else .int .i64 (L.f (k/12) (k%12))
def Cb (L:Led):Array Value:=Array.ofFn (n:=L.n*12) λk=>GX L k.val
theorem Bq (L:Led):(Cb L).size=L.n*12:=by simp[Cb]
theorem EL (L:Led) (k:Nat) (a:k<L.n*12):(Cb L)[k]?=some (GX L k):=by
 unfold Cb;simp[a]
theorem CE {L:Led} {i j:Nat} (hi:i<L.n) (a:j<11):(Cb L)[i*12+j]?=some (.int .i64 (L.f i j)):=by
 rw[EL _ _ (by omega)];unfold GX;rw[show (i*12+j)%12=j by omega,show (i*12+j)/12=i by omega,if_neg (by omega)]
theorem LN {L:Led} {i:Nat} (hi:i<L.n):(Cb L)[i*12+11]?=some (.string (L.r i)):=by
 rw[EL _ _ (by omega)];unfold GX;rw[show (i*12+11)%12=11 by omega,show (i*12+11)/12=i by omega,if_pos rfl]
theorem Ra {L:Led} {i j:Nat} (hi:i<L.n) (b:j<11) (v:Int):(Cb L).setIfInBounds (i*12+j) (.int .i64 v)=Cb (L.set i j v):=by
 apply Array.ext_getElem?;intro k
 rcases Nat.lt_or_ge k (L.n*12)with hk | hk
 ·rw[EL (L.set i j v) k hk]
  by_cases a:i*12+j=k
  ·subst a
   rw[Array.getElem?_setIfInBounds_self_of_lt (by rw[Bq];exact hk)];unfold GX Led.set;rw[show (i*12+j)%12=j by omega,show (i*12+j)/12=i by omega,if_neg (by omega)];simp
  ·rw[Array.getElem?_setIfInBounds_ne a,EL _ _ hk]
   unfold GX Led.set;have:¬(k/12=i/\k%12=j):=by omega
   simp only[this,if_false]
 ·rw[D1 (by simpa [Bq]using hk),D1 (by rw[Bq];exact hk)]
theorem Po {L:Led} {i:Nat} (hi:i<L.n) (s:ByteArray):(Cb L).setIfInBounds (i*12+11) (.string s)=Cb (L.setR i s):=by
 apply Array.ext_getElem?;intro k
 rcases Nat.lt_or_ge k (L.n*12)with hk | hk
 ·rw[EL (L.setR i s) k hk]
  by_cases b:i*12+11=k
  ·subst b
   rw[Array.getElem?_setIfInBounds_self_of_lt (by rw[Bq];exact hk)];unfold GX Led.setR;rw[show (i*12+11)%12=11 by omega,show (i*12+11)/12=i by omega,if_pos rfl];simp
  ·rw[Array.getElem?_setIfInBounds_ne b,EL _ _ hk]
   unfold GX Led.setR
   by_cases a:k%12=11
   ·have:¬(k/12=i):=by omega
    simp only[this,if_false]
   ·simp only[a,if_false]
 ·rw[D1 (by simpa [Bq]using hk),D1 (by rw[Bq];exact hk)]
structure Bl (h:PH) (x b:Nat) (L:Led):Prop where
 hx:h x=some (.cells #[.int .i64 L.goods,.slice (some ⟨b,0,none⟩) L.n L.n] 149 (0,0))
 hb:h b=some (.cells (Cb L) 132 (0,0))
 ne:x≠b
def CQ (h:PH) (b:Nat) (L:Led):PH:=ins h b (.cells (Cb L) 132 (0,0))
theorem B7 {h:PH} {x b:Nat} {L:Led} (a:Bl h x b L):CQ h b L=h:=GC a.hb
theorem Bl.put {h:PH} {x b:Nat} {L M:Led} (a:Bl h x b L) (d:M.goods=L.goods) (c:M.n=L.n):Bl (CQ h b M) x b M:=
 ⟨by unfold CQ;rw[Aq _ _ a.ne,a.hx,d,c],AD _ _ _,a.ne⟩
theorem Fe (h:PH) (b:Nat) (L M:Led):CQ (CQ h b L) b M=CQ h b M:=An _ _ _ _
abbrev ptr (x:Nat):Value:=.pointer (some ⟨x,0,none⟩)
section
variable {h:PH} {R:RT} {x b:Nat} {L:Led}
theorem UG {n:Int} (a:R (.ret (.bool (decide (1<=n/\n<=1099511627776)))) h):A7 Tryz.prog 149 #[.int .i64 n] h R:=by
 refine iK ?_;unfold kW gAW gGW ivW
 by_cases d:1<=n <;> by_cases c:n<=1099511627776 <;> simp[d,c]at a <;> simp[d,c,a]
theorem ar (c:Bl h x b L) {who:Int} (e:who<0\/(L.n:Int)<=who) (a:R (.ret (.tuple #[.pointer none,.int .i64 60])) h):A7 Tryz.prog 57 #[ptr x,.int .i64 who] h R:=by
 refine br ?_;unfold mH gAW gGW ivW ptr;rw[As Tryz.underlying81]
 by_cases h0:who<0
 ·simp[h0,a]
 ·have d:(L.n:Int)<=who:=by omega
  simp[h0,a,d,A5 c.hx]
theorem Jm (c:Bl h x b L) {i:Nat} (hi:i<L.n) (a:R (.ret (.tuple #[.pointer (some ⟨b,i*12,none⟩),.int .i64 0])) h):A7 Tryz.prog 57 #[ptr x,.int .i64 i] h R:=by
 refine br ?_;unfold mH gAW gGW ivW ptr;rw[As Tryz.underlying81];have h0:¬((i:Int)<0):=by omega
 have d:¬((L.n:Int)<=(i:Int)):=by omega
 simp[h0,d,A5 c.hx,a,hi]
def CR (L:Led) (good n:Int):Int:=if 0<=good/\good<L.goods/\1<=n/\n<=1099511627776 then 0 else 1
theorem Fq (c:Bl h x b L) {i:Nat} {good n:Int} (hi:i<L.n) (a:R (.ret (.tuple #[.pointer (some ⟨b,i*12,none⟩),.int .i64 (CR L good n)])) h) :
  A7 Tryz.prog 105 #[ptr x,.int .i64 i,.int .i64 good,.int .i64 n] h R:=by
 refine jC ?_;unfold lS gAW gGW ivW pnW;refine Jm c hi ?_;unfold CR at a
 by_cases e:good<0
 ·have:¬(0<=good):=by omega
  simp[this]at a;simp[AK.elim,e,a]
 ·have h1':0<=good:=by omega
  by_cases f:L.goods<=good
  ·have:¬(good<L.goods):=by omega
   simp[this]at a;simp[AK.elim,e,f,a,A5 c.hx]
  ·have h2':good<L.goods:=by omega
   simp[AK.elim,e,f,A5 c.hx];refine UG ?_
   by_cases d:1<=n/\n<=1099511627776
   ·simp[h1',h2',d]at a
    simp[AK.elim,d,a]
   ·have:¬(0<=good/\good<L.goods/\1<=n/\n<=1099511627776):=by omega
    rw[if_neg this]at a;simp[AK.elim,d,a]
theorem Bl.sub {g:PH} (a:Bl h x b L) (c:Sub h g):Bl g x b L:=⟨c _ _ a.hx,c _ _ a.hb,a.ne⟩
section
variable {K:Value->Prop} {KH:PH->Prop} {i:Nat}
theorem Bl.ld (c:Bl h x b L) (hi:i<L.n) {j:Nat} (a:j<11):A0 none (.pointer (some ⟨b,i*12+j,none⟩)) h K↔K (.int .i64 (L.f i j)):=A5 c.hb (CE hi a)
theorem Bl.ld0 (a:Bl h x b L) (hi:i<L.n):A0 none (.pointer (some ⟨b,i*12,none⟩)) h K↔K (.int .i64 (L.f i 0)):=A5 a.hb (CE hi (by omega) (j:=0))
theorem Bl.ldR (a:Bl h x b L) (hi:i<L.n):A0 none (.pointer (some ⟨b,i*12+11,none⟩)) h K↔K (.string (L.r i)):=A5 a.hb (LN hi)
theorem Bl.st (c:Bl h x b L) (hi:i<L.n) {j:Nat} (a:j<11) (v:Int):A9 1 (.pointer (some ⟨b,i*12+j,none⟩)) (.int .i64 v) h KH↔KH (CQ h b (L.set i j v)):=by
 rw[Aw c.hb (by rw[Bq];omega) rfl,Ra hi a];rfl
theorem Bl.st0 (a:Bl h x b L) (hi:i<L.n) (v:Int):A9 1 (.pointer (some ⟨b,i*12,none⟩)) (.int .i64 v) h KH↔KH (CQ h b (L.set i 0 v)):=a.st hi (j:=0) (by omega) v
theorem Bl.stR (a:Bl h x b L) (hi:i<L.n) (s:ByteArray):A9 1 (.pointer (some ⟨b,i*12+11,none⟩)) (.string s) h KH↔KH (CQ h b (L.setR i s)):=by
 rw[Aw a.hb (by rw[Bq];omega) rfl,Po hi];rfl
theorem Bl.after (a:Bl h x b L) (i j:Nat) (v:Int):Bl (CQ h b (L.set i j v)) x b (L.set i j v):=a.put rfl rfl
end
def EE (L:Led) (i:Nat) (n:Int):Int×Led:=if CR L 0 n≠0 then (1,L)else if L.f i 0-L.f i 1<n then (61,L)else (0,L.set i 0 (L.f i 0-n))
def IP (L:Led) (i:Nat) (n:Int):Int×Led:=if CR L 0 n≠0 then (1,L)else if L.f i 0-L.f i 1<n then (61,L)else (0,L.set i 1 (L.f i 1+n))
def IR (L:Led) (i:Nat) (n:Int):Int×Led:=if CR L 0 n≠0 then (1,L)else if L.f i 1<n then (61,L)else (0,L.set i 1 (L.f i 1-n))
def DL (L:Led) (i:Nat) (g n:Int):Int×Led:=if CR L g n≠0 then (1,L)else if L.f i (2+g.toNat)-L.f i (6+g.toNat)<n then (61,L)else (0,L.set i (2+g.toNat) (L.f i (2+g.toNat)-n))
def CH (L:Led) (i:Nat) (g n:Int):Int×Led:=if CR L g n≠0 then (1,L)else if L.f i (2+g.toNat)-L.f i (6+g.toNat)<n then (61,L)else (0,L.set i (6+g.toNat) (L.f i (6+g.toNat)+n))
def ES (L:Led) (i:Nat) (g n:Int):Int×Led:=if CR L g n≠0 then (1,L)else if L.f i (6+g.toNat)<n then (61,L)else (0,L.set i (6+g.toNat) (L.f i (6+g.toNat)-n))
structure Led.small (L:Led):Prop where
 num:∀i j,i<L.n->j<11->0<=L.f i j/\L.f i j<=1099511627776
 cl:L.n<=16
 gd:L.goods<=4
 rep:∀i,i<L.n->(L.r i).size<=256
theorem DQ (L:Led) (g n:Int):CR L g n=0\/CR L g n=1:=by unfold CR;split <;> simp
theorem Cd {g n:Int} (h:CR L g n=0):0<=g/\g<L.goods/\1<=n/\n<=1099511627776:=by
 unfold CR at h
 split at h
 ·assumption
 ·cases h
variable {i:Nat} {g n:Int}
theorem dO (d:Bl h x b L) (e:L.small) (hi:i<L.n) (c:R (.ret (.int .i64 (EE L i n).1)) (CQ h b (EE L i n).2)) :
  A7 Tryz.prog 67 #[ptr x,.int .i64 i,.int .i64 n] h R:=by
 refine np ?_;unfold pn Rb ivW pnW;refine Fq d hi ?_
 rcases DQ L 0 n with hp | hp
 ·have j:=Cd hp
  have l:=e.num i 0 hi (by omega);have k:=e.num i 1 hi (by omega);simp only[EE,hp]at c;simp[AK.elim,hp,d.ld0 hi,d.ld hi];rw[w64 (by omega) (by omega)];refine⟨λa=>?_,λf=>?_⟩
  ·simp[a,B7 d]at c
   exact c
  ·have a:¬(L.f i 0-L.f i 1<n):=by omega
   simp[a]at c
   try simp only[AG,Ao]
   rw[w64 (by omega) (by omega),d.st0 hi];exact c
 ·simp[EE,hp,B7 d]at c
  simp[AK.elim,hp,c]
theorem fT (d:Bl h x b L) (e:L.small) (hi:i<L.n) (c:R (.ret (.int .i64 (IP L i n).1)) (CQ h b (IP L i n).2)) :
  A7 Tryz.prog 152 #[ptr x,.int .i64 i,.int .i64 n] h R:=by
 refine iH ?_;unfold kT ivW pnW;refine Fq d hi ?_
 rcases DQ L 0 n with hp | hp
 ·have j:=Cd hp
  have l:=e.num i 0 hi (by omega);have k:=e.num i 1 hi (by omega);simp only[IP,hp]at c;simp[AK.elim,hp,d.ld0 hi,d.ld hi];rw[w64 (by omega) (by omega)];refine⟨λa=>?_,λf=>?_⟩
  ·simp[a,B7 d]at c
   exact c
  ·have a:¬(L.f i 0-L.f i 1<n):=by omega
   simp[a]at c
   try simp only[AG,Ao]
   rw[w64 (by omega) (by omega),d.st hi (by omega)];exact c
 ·simp[IP,hp,B7 d]at c
  simp[AK.elim,hp,c]
theorem fo (d:Bl h x b L) (e:L.small) (hi:i<L.n) (c:R (.ret (.int .i64 (IR L i n).1)) (CQ h b (IR L i n).2)) :
  A7 Tryz.prog 153 #[ptr x,.int .i64 i,.int .i64 n] h R:=by
 refine iG ?_;unfold kS ivW pnW;refine Fq d hi ?_
 rcases DQ L 0 n with hp | hp
 ·have j:=Cd hp
  have k:=e.num i 1 hi (by omega);simp only[IR,hp]at c;simp[AK.elim,hp,d.ld0 hi,d.ld hi];refine⟨λa=>?_,λf=>?_⟩
  ·simp[a,B7 d]at c
   exact c
  ·have a:¬(L.f i 1<n):=by omega
   simp[a]at c
   try simp only[AG,Ao]
   rw[w64 (by omega) (by omega),d.st hi (by omega)];exact c
 ·simp[IR,hp,B7 d]at c
  simp[AK.elim,hp,c]
theorem bE (d:Bl h x b L) (e:L.small) (hi:i<L.n) (c:R (.ret (.int .i64 (DL L i g n).1)) (CQ h b (DL L i g n).2)) :
  A7 Tryz.prog 71 #[ptr x,.int .i64 i,.int .i64 g,.int .i64 n] h R:=by
 refine ni ?_;unfold pi Rc ivW pnW;refine Fq d hi ?_
 rcases DQ L g n with hp | hp
 ·have k:=Cd hp
  have f:g<4:=by have:=e.gd;omega
  have o:=e.num i (2+g.toNat) hi (by omega);have m:=e.num i (6+g.toNat) hi (by omega);simp only[DL,hp]at c;simp[AK.elim,hp,k.1,f,Nat.add_assoc,d.ld hi (j:=2+g.toNat) (by omega),d.ld hi (j:=6+g.toNat) (by omega)];rw[w64 (by omega) (by omega)];refine⟨λa=>?_,λl=>?_⟩
  ·simp[a,B7 d]at c
   exact c
  ·have a:¬(L.f i (2+g.toNat)-L.f i (6+g.toNat)<n):=by omega
   simp[a]at c
   try simp only[AG,Ao]
   rw[w64 (by omega) (by omega),d.st hi (by omega)];exact c
 ·simp[DL,hp,B7 d]at c
  simp[AK.elim,hp,c]
theorem WR (d:Bl h x b L) (e:L.small) (hi:i<L.n) (c:R (.ret (.int .i64 (CH L i g n).1)) (CQ h b (CH L i g n).2)) :
  A7 Tryz.prog 107 #[ptr x,.int .i64 i,.int .i64 g,.int .i64 n] h R:=by
 refine jA ?_;unfold lQ Rc ivW pnW;refine Fq d hi ?_
 rcases DQ L g n with hp | hp
 ·have k:=Cd hp
  have f:g<4:=by have:=e.gd;omega
  have o:=e.num i (2+g.toNat) hi (by omega);have m:=e.num i (6+g.toNat) hi (by omega);simp only[CH,hp]at c;simp[AK.elim,hp,k.1,f,Nat.add_assoc,d.ld hi (j:=2+g.toNat) (by omega),d.ld hi (j:=6+g.toNat) (by omega)];rw[w64 (by omega) (by omega)];refine⟨λa=>?_,λl=>?_⟩
  ·simp[a,B7 d]at c
   exact c
  ·have a:¬(L.f i (2+g.toNat)-L.f i (6+g.toNat)<n):=by omega
   simp[a]at c
   try simp only[AG,Ao]
   rw[w64 (by omega) (by omega),d.st hi (by omega)];exact c
 ·simp[CH,hp,B7 d]at c
  simp[AK.elim,hp,c]
theorem XE (d:Bl h x b L) (f:L.small) (hi:i<L.n) (c:R (.ret (.int .i64 (ES L i g n).1)) (CQ h b (ES L i g n).2)) :
  A7 Tryz.prog 154 #[ptr x,.int .i64 i,.int .i64 g,.int .i64 n] h R:=by
 refine iF ?_;unfold kR Rc ivW pnW;refine Fq d hi ?_
 rcases DQ L g n with hp | hp
 ·have k:=Cd hp
  have e:g<4:=by have:=f.gd;omega
  have m:=f.num i (6+g.toNat) hi (by omega);simp only[ES,hp]at c;simp[AK.elim,hp,k.1,e,Nat.add_assoc,d.ld hi (j:=6+g.toNat) (by omega)];refine⟨λa=>?_,λl=>?_⟩
  ·simp[a,B7 d]at c
   exact c
  ·have a:¬(L.f i (6+g.toNat)<n):=by omega
   simp[a]at c
   try simp only[AG,Ao]
   rw[w64 (by omega) (by omega),d.st hi (by omega)];exact c
 ·simp[ES,hp,B7 d]at c
  simp[AK.elim,hp,c]
end
def BV (L:Led) (i:Nat):Array Value:=#[.int .i64 (L.f i 0),.int .i64 (L.f i 1),.int .i64 (L.f i 2),.int .i64 (L.f i 3),.int .i64 (L.f i 4),.int .i64 (L.f i 5),.int .i64 (L.f i 6),.int .i64 (L.f i 7),.int .i64 (L.f i 8),.int .i64 (L.f i 9),.int .i64 (L.f i 10),.string (L.r i)]
def AW (L:Led) (i:Nat):Array Value:=#[.int .i64 (L.f i 0),.int .i64 (L.f i 1),.int .i64 (L.f i 2),.int .i64 (L.f i 3),.int .i64 (L.f i 4),.int .i64 (L.f i 5),.int .i64 (L.f i 6),.int .i64 (L.f i 7),.int .i64 (L.f i 8),.int .i64 (L.f i 9)]
theorem LO {L:Led} {i:Nat} (hi:i<L.n):(Cb L).extract (i*12) (i*12+12)=BV L i:=by
 have key:∀j,j<12->(Cb L)[i*12+j]?=(BV L i)[j]?:=λj a=>match j,a with
  | 0,_=>by have:=CE hi (j:=0) (by omega);simpa [BV]using this
  | 1,_=>by have:=CE hi (j:=1) (by omega);simpa [BV]using this
  | 2,_=>by have:=CE hi (j:=2) (by omega);simpa [BV]using this
  | 3,_=>by have:=CE hi (j:=3) (by omega);simpa [BV]using this
  | 4,_=>by have:=CE hi (j:=4) (by omega);simpa [BV]using this
  | 5,_=>by have:=CE hi (j:=5) (by omega);simpa [BV]using this
  | 6,_=>by have:=CE hi (j:=6) (by omega);simpa [BV]using this
  | 7,_=>by have:=CE hi (j:=7) (by omega);simpa [BV]using this
  | 8,_=>by have:=CE hi (j:=8) (by omega);simpa [BV]using this
  | 9,_=>by have:=CE hi (j:=9) (by omega);simpa [BV]using this
  | 10,_=>by have:=CE hi (j:=10) (by omega);simpa [BV]using this
  | 11,_=>by have:=LN hi;simpa [BV]using this
  | n+12,h=>absurd h (by omega)
 apply Array.ext_getElem?;intro j;rw[Array.getElem?_extract]
 rcases Nat.lt_or_ge j 12 with a | a
 ·rw[if_pos (by rw[Bq];omega),key j a]
 ·rw[if_neg (by rw[Bq];omega),D1 (by simpa [BV]using a)]
theorem Pq (L:Led) (i:Nat):(BV L i).extract 0 10=AW L i:=rfl
def AS (g:Nat->Int):Nat->Int
 | 0=>0
 | k+1=>AS g k+g k
theorem Ib {g:Nat->Int} {M:Int} (a:0<=M):∀(k:Nat),(∀i,i<k->0<=g i/\g i<=M)->0<=AS g k/\AS g k<=k*M
 | 0,_=>by simp[AS]
 | k+1,h=>by
  have b:=Ib a k (λi hi=>h i (by omega));have c:=h k (by omega);simp only[AS];rw[show ((k+1:Nat):Int)*M=k*M+M by rw[Int.natCast_add,Int.add_mul];simp];omega
def EO (g:Nat->Int):Array Value:=#[.int .i64 (g 0),.int .i64 (g 1),.int .i64 (g 2),.int .i64 (g 3)]
theorem Kg (g:Nat->Int) {m:Nat} (a:m<4):(EO g)[m]?=some (.int .i64 (g m)):=match m,a with
 | 0,_=>rfl
 | 1,_=>rfl
 | 2,_=>rfl
 | 3,_=>rfl
 | n+4,h=>absurd h (by omega)
theorem VV (g:Nat->Int) {m:Nat} (a:m<4) (v:Int):(EO g).setIfInBounds m (.int .i64 v)=EO (λj=>if j=m then v else g j):=match m,a with
 | 0,_=>rfl
 | 1,_=>rfl
 | 2,_=>rfl
 | 3,_=>rfl
 | n+4,h=>absurd h (by omega)
theorem Le {g g':Nat->Int} (h:∀j,j<4->g j=g' j):EO g=EO g':=by
 unfold EO;rw[h 0 (by omega),h 1 (by omega),h 2 (by omega),h 3 (by omega)]
section
variable {h:PH} {R:RT} {x b:Nat} {L:Led} {K:Value->Prop} {KH:PH->Prop}
theorem Bl.ldEnt (a:Bl h x b L) {i:Nat} (hi:i<L.n):A0 (some 12) (.pointer (some ⟨b,i*12,none⟩)) h K↔K (.agg (BV L i)):=by
 rw[AI a.hb (by rw[Bq];omega),LO hi]
def ED (L:Led):Int:=AS (λi=>L.f i 0) L.n
def EB (L:Led) (j:Nat):Int:=AS (λi=>L.f i (2+j)) L.n
theorem Q3 (T:Bl h x b L) (d:L.small) (S:R (.ret (.tuple #[.int .i64 (ED L),.agg (EO (EB L))])) h):A7 Tryz.prog 50 #[ptr x] h R:=by
 refine A7.drop (oE ?_);unfold qE X4 eXW ivW pnW;refine AX λc G=>?_;have l:∀o,Bl (ins h c o) x b L:=λo=>T.sub (AT _ G);rw[As Tryz.underlying81];simp only[AB,Ba,C1,true_and,BO,AH,forall_const,Ad];have Q:=d.cl;rw[A5 (l _).hx (v:=.slice (some ⟨b,0,none⟩) L.n L.n) rfl];simp only[BQ]
 have J:∀j k,j<11->k<=L.n->0<=AS (λi=>L.f i j) k/\AS (λi=>L.f i j) k<=17592186044416:=λj k n B=>by
  have U:=Ib (g:=λi=>L.f i j) (M:=1099511627776) (by omega) k (λi hi=>d.num i j (by omega) n);have V:=d.cl;refine⟨U.1,?_⟩;have:(k:Int)*1099511627776<=16*1099511627776:=Int.mul_le_mul_of_nonneg_right (by omega) (by omega);omega
 refine AL (λm s g=>∃k,k<=L.n/\m=L.n-k/\s=(.int .i64 (AS (λi=>L.f i 0) k),.int .i64 (k:Nat))/\Sub (ins h c (.cells (EO λj=>AS (λi=>L.f i (2+j)) k) 59 (0,0))) g) L.n ?_ ?_
 ·exact⟨0,by omega,by omega,rfl,Sub.refl _⟩
 ·rintro m s g ⟨k,B,rfl,rfl,hg⟩
  unfold cP KM eXW ivW;have D:Bl g x b L:=(l _).sub hg;simp only[AC,AB,CF,D9];refine⟨λO=>?_,λP=>?_⟩
  ·have hlt':k<L.n:=by omega
   have Z:=J 0 k (by omega) B;have X:=d.num k 0 hlt' (by omega);simp only[B9,Ad,BR];refine⟨by omega,by omega,?_⟩;rw[D.ldEnt hlt'];refine AX λq A=>?_;have N:q≠c:=λe=>by subst e;rw[hg.get]at A;cases A
   refine AN (AD _ _ _) (by rfl) (by rfl) (by rfl) ?_;rw[An];simp only[AH];rw[A5 (AD _ _ _) (v:=.int .i64 (L.f k 0)) rfl];simp only[AG];rw[w64 (by omega) (by omega)];rw[AI (AD _ _ _) (by simp[BV])];rw[show (BV L k).extract (0+0+2) (0+0+2+4)=EO λj=>L.f k (2+j)from rfl];have C:∀o,Sub (ins h c (.cells (EO λj=>AS (λi=>L.f i (2+j)) k) 59 (0,0))) (ins g q o):=λo=>hg.put (hg.fresh A);refine AL (λm s g=>∃t,t<=4/\m=4-t/\s = .int .i64 (t:Nat)/\Sub (ins h c (.cells (EO λj=>if j<t then AS (λi=>L.f i (2+j)) (k+1)else AS (λi=>L.f i (2+j)) k) 59 (0,0))) g) 4 ?_ ?_
   ·exact⟨0,by omega,by omega,rfl,by simpa using C _⟩
   ·rintro m s g' ⟨t,ht,rfl,rfl,hg'⟩
    unfold cO ivW;simp only[AC,AB,CF,D9];refine⟨λE=>?_,λF=>?_⟩
    ·have a:t<4:=by omega
     have Y:=J (2+t) k (by omega) B;have W:=d.num k (2+t) hlt' (by omega);refine⟨_,_,_,rfl,rfl,by omega,by omega,.int .i64 (L.f k (2+t)),?_,?_⟩
     ·simpa using Kg (λj=>L.f k (2+j)) a
     ·simp only[EX,Ad,BR,Nat.mul_one]
      refine⟨by omega,by omega,?_⟩;rw[A5 hg'.get (Kg _ a)];simp only[AG,EX,Ad,BR,Nat.mul_one];refine⟨by omega,by omega,?_⟩;rw[Aw hg'.get (by simpa [EO]using a) rfl,VV _ a];refine⟨trivial,3-t,by omega,t+1,by omega,by omega,?_,?_⟩
      ·rw[w64 (by omega) (by omega)];rfl
      ·rw[if_neg (by omega),w64 (by omega) (by omega)]
       rw[show (EO λj=>if j=t then AS (λi=>L.f i (2+t)) k+L.f k (2+t)else if j<t then AS (λi=>L.f i (2+j)) (k+1)else AS (λi=>L.f i (2+j)) k) =
        EO λj=>if j<t+1 then AS (λi=>L.f i (2+j)) (k+1)else AS (λi=>L.f i (2+j)) k from Le λj n=>by
         by_cases I:j=t
         ·subst I;rw[if_pos rfl,if_pos (by omega)];rfl
         ·rw[if_neg I]
          by_cases H:j<t
          ·rw[if_pos H,if_pos (by omega)]
          ·rw[if_neg H,if_neg (by omega)]]
       exact hg'.over
    ·have:t=4:=by omega
     subst this;intro r f;simp only[Prod.mk.injEq]at f;obtain⟨u,p,z,y,w⟩:=f;simp only[w,AG,p,z,y,u];refine⟨trivial,L.n-(k+1),by omega,k+1,by omega,rfl,?_,?_⟩
     ·rw[w64 (by omega) (by omega)];rfl
     ·rw[show (EO λj=>AS (λi=>L.f i (2+j)) (k+1))=EO λj=>if j<4 then AS (λi=>L.f i (2+j)) (k+1)else AS (λi=>L.f i (2+j)) k from Le λj n=>by rw[if_pos n]]
      exact hg'
  ·have:k=L.n:=by omega
   subst this;intro r f;simp only[Prod.mk.injEq]at f;obtain⟨u,p⟩:=f;simp only[u,p];rw[AI hg.get (by simp[EO])];exact⟨h,Sub.under G hg,S⟩
def GW (L:Led) (i:Nat) (n:Int):Int×Led:=if CR L 0 n≠0 then (1,L)else if 1099511627776<ED L+n then (62,L)else (0,L.set i 0 (L.f i 0+n))
def DG (L:Led) (i:Nat) (g n:Int):Int×Led:=if CR L g n≠0 then (1,L)else if 1099511627776<EB L g.toNat+n then (62,L)else (0,L.set i (2+g.toNat) (L.f i (2+g.toNat)+n))
theorem cL (a:L.small) {j:Nat} (c:j<11):0<=AS (λi=>L.f i j) L.n/\AS (λi=>L.f i j) L.n<=17592186044416:=by
 have d:=Ib (g:=λi=>L.f i j) (M:=1099511627776) (by omega) L.n (λi hi=>a.num i j hi c);have e:=a.cl;refine⟨d.1,?_⟩;have:(L.n:Int)*1099511627776<=16*1099511627776:=Int.mul_le_mul_of_nonneg_right (by omega) (by omega);omega
variable {i:Nat} {g n:Int}
theorem mT (d:Bl h x b L) (k:L.small) (hi:i<L.n) (a:R (.ret (.int .i64 (GW L i n).1)) (CQ h b (GW L i n).2)) :
  A7 Tryz.prog 65 #[ptr x,.int .i64 i,.int .i64 n] h R:=by
 refine A7.drop (nr ?_);unfold pq fJ Rb X4 ivW pnW;refine Fq d hi ?_
 rcases DQ L 0 n with hp | hp
 ·have q:=Cd hp
  have r:=k.num i 0 hi (by omega);have s:=cL k (j:=0) (by omega);simp only[GW,hp]at a;simp[AK.elim,hp];refine Q3 d k ?_;simp only[AK.elim,Av,Au];refine AX λc f=>?_;refine AN (AD _ _ _) (by rfl) (by rfl) (by rfl) ?_;rw[An];have e:∀o,Bl (ins h c o) x b L:=λo=>d.sub (AT _ f);have p:c≠b:=(Gt f d.hb).symm;simp only[AG];unfold ED;rw[w64 (by omega) (by omega)];simp only[At,AB,CF,D9,BO,AH,Nat.add_zero];refine⟨λl=>⟨h,AT _ f,?_⟩,λm=>?_⟩
  ·simp[ED,l,B7 d]at a
   exact a
  ·simp[ED,m]at a
   rw[(e _).ld0 hi];simp only[AG];rw[w64 (by omega) (by omega),(e _).st0 hi];refine⟨_,?_,a⟩;unfold CQ;exact (AT _ f).both
 ·simp[GW,hp,B7 d]at a
  simp[AK.elim,hp];exact⟨h,Sub.refl _,a⟩
theorem Z5 (e:Bl h x b L) (f:L.small) (hi:i<L.n) (a:R (.ret (.int .i64 (DG L i g n).1)) (CQ h b (DG L i g n).2)) :
  A7 Tryz.prog 69 #[ptr x,.int .i64 i,.int .i64 g,.int .i64 n] h R:=by
 refine A7.drop (nk ?_);unfold pk fM Rc X4 ivW pnW;refine Fq e hi ?_
 rcases DQ L g n with hp | hp
 ·have k:=Cd hp
  have q:g<4:=by have:=f.gd;omega
  have r:=f.num i (2+g.toNat) hi (by omega);have s:=cL f (j:=2+g.toNat) (by omega);simp only[DG,hp]at a;simp[AK.elim,hp];refine Q3 e f ?_;simp only[AK.elim,Av,Au];refine AX λc p=>?_;refine AN (AD _ _ _) (by rfl) (by rfl) (by rfl) ?_;rw[An];have d:∀o,Bl (ins h c o) x b L:=λo=>e.sub (AT _ p);simp only[EX,Ad,Nat.mul_one];refine⟨k.1,by omega,?_⟩;rw[A5 (AD _ _ _) (Kg _ (by omega))];simp only[AG];unfold EB;rw[w64 (by omega) (by omega)];simp only[At,AB,CF,D9,BO,AH,Nat.add_zero,EX,Nat.mul_one];refine⟨λl=>⟨h,AT _ p,?_⟩,λm=>⟨k.1,by omega,?_⟩⟩
  ·simp[EB,l,B7 e]at a
   exact a
  ·simp[EB,m]at a
   rw[Nat.add_assoc,(d _).ld hi (by omega)];simp only[AG];refine⟨k.1,by omega,?_⟩;rw[w64 (by omega) (by omega),(d _).st hi (by omega)];refine⟨_,?_,a⟩;unfold CQ;exact (AT _ p).both
 ·simp[DG,hp,B7 e]at a
  simp[AK.elim,hp];exact⟨h,Sub.refl _,a⟩
end
section
variable {h:PH} {R:RT} {x b:Nat} {L:Led} {K:Value->Prop} {KH:PH->Prop} {i j:Nat} {g n:Int}
def GO (L:Led) (i j:Nat) (n:Int):Led:=
 let a:=L.set i 1 (L.f i 1-n)
 let L2:=a.set i 0 (a.f i 0-n)
 L2.set j 0 (L2.f j 0+n)
def GS (L:Led) (i j:Nat) (n:Int):Int×Led:=if CR L 0 n≠0 then (1,L)else if L.f i 1<n then (61,L)else (0,GO L i j n)
def D6 (L:Led) (i j:Nat) (g:Nat) (n:Int):Led:=
 let a:=L.set i (6+g) (L.f i (6+g)-n)
 let L2:=a.set i (2+g) (a.f i (2+g)-n)
 L2.set j (2+g) (L2.f j (2+g)+n)
def EG (L:Led) (i j:Nat) (g n:Int):Int×Led:=if CR L g n≠0 then (1,L)else if L.f i (6+g.toNat)<n then (61,L)else (0,D6 L i j g.toNat n)
def EK (L:Led) (i:Nat) (s:Int) (t:ByteArray):Int×Led:=
 if s<1\/1099511627776<s\/256<(t.size:Int)then (1,L)else if s<=L.f i 10 then (91,L)else (0,(L.set i 10 s).setR i t)
theorem GL {L:Led} {i j a c:Nat} {v:Int} (h:¬(a=i/\c=j)):(L.set i j v).f a c=L.f a c:=by simp[Led.set,h]
theorem fD (c:Bl h x b L) (m:L.small) (hi:i<L.n) (l:j<L.n) (a:R (.ret (.int .i64 (GS L i j n).1)) (CQ h b (GS L i j n).2)) :
  A7 Tryz.prog 175 #[ptr x,.int .i64 i,.int .i64 j,.int .i64 n] h R:=by
 refine gj ?_;unfold jy fJ Rb ivW pnW;refine Jm c hi ?_;simp[AK.elim];refine Fq c l ?_
 rcases DQ L 0 n with hp | hp
 ·have q:=Cd hp
  have s:=m.num i 1 hi (by omega);have t:=m.num i 0 hi (by omega);have r:=m.num j 0 l (by omega);simp only[GS,hp]at a;simp[AK.elim,hp,A5 c.hx,hi,c.ld hi];refine⟨λd=>?_,λp=>?_⟩
  ·simp[d,B7 c]at a
   exact a
  ·have d:¬(L.f i 1<n):=by omega
   simp[d]at a;rw[w64 (by omega) (by omega),c.st hi (by omega)];have f:=c.after i 1 (L.f i 1-n);rw[f.ld0 hi];have o:(L.set i 1 (L.f i 1-n)).f i 0=L.f i 0:=GL (by omega);simp only[Ao,AG];rw[o,w64 (by omega) (by omega),f.st0 hi];have k:=f.after i 0 (L.f i 0-n);rw[k.ld0 l]
   have u:-1099511627776<=((L.set i 1 (L.f i 1-n)).set i 0 (L.f i 0-n)).f j 0/\((L.set i 1 (L.f i 1-n)).set i 0 (L.f i 0-n)).f j 0<=1099511627776:=by
    by_cases e:j=i
    ·subst e;simp only[Led.set,and_self,if_true];omega
    ·rw[GL (by omega),GL (by omega)];omega
   simp only[AG];rw[w64 (by omega) (by omega),k.st0 l];rw[Fe,Fe];unfold GO at a;simp only[o]at a;exact a
 ·simp[GS,hp,B7 c]at a
  simp[AK.elim,hp,a]
theorem fX (c:Bl h x b L) (l:L.small) (hi:i<L.n) (m:j<L.n) (a:R (.ret (.int .i64 (EG L i j g n).1)) (CQ h b (EG L i j g n).2)) :
  A7 Tryz.prog 174 #[ptr x,.int .i64 i,.int .i64 j,.int .i64 g,.int .i64 n] h R:=by
 refine gk ?_;unfold jz fM Rc ivW pnW;refine Jm c hi ?_;simp[AK.elim];refine Fq c m ?_
 rcases DQ L g n with hp | hp
 ·have q:=Cd hp
  have o:g<4:=by have:=l.gd;omega
  have t:=l.num i (6+g.toNat) hi (by omega);have u:=l.num i (2+g.toNat) hi (by omega);have s:=l.num j (2+g.toNat) m (by omega);simp only[EG,hp]at a;simp[AK.elim,hp,A5 c.hx,hi,q.1,o,Nat.add_assoc];rw[c.ld hi (by omega)];simp only[AC,AB,CF,D9,Int.not_lt];refine⟨λd=>?_,λr=>?_⟩
  ·simp[d,B7 c]at a
   exact a
  ·have d:¬(L.f i (6+g.toNat)<n):=by omega
   simp[d]at a;rw[c.ld hi (by omega)];simp only[Ao,AG];rw[w64 (by omega) (by omega),c.st hi (by omega)];have f:=c.after i (6+g.toNat) (L.f i (6+g.toNat)-n);rw[f.ld hi (by omega)];have p:(L.set i (6+g.toNat) (L.f i (6+g.toNat)-n)).f i (2+g.toNat)=L.f i (2+g.toNat):=GL (by omega);simp only[Ao,AG];rw[p,w64 (by omega) (by omega),f.st hi (by omega)];have k:=f.after i (2+g.toNat) (L.f i (2+g.toNat)-n);rw[k.ld m (by omega)]
   have v:-1099511627776<=((L.set i (6+g.toNat) (L.f i (6+g.toNat)-n)).set i (2+g.toNat) (L.f i (2+g.toNat)-n)).f j (2+g.toNat)/\((L.set i (6+g.toNat) (L.f i (6+g.toNat)-n)).set i (2+g.toNat) (L.f i (2+g.toNat)-n)).f j (2+g.toNat)<=1099511627776:=by
    by_cases e:j=i
    ·subst e;simp only[Led.set,and_self,if_true];omega
    ·rw[GL (by omega),GL (by omega)];omega
   simp only[Ao,AG];rw[w64 (by omega) (by omega),k.st m (by omega)];rw[Fe,Fe];unfold D6 at a;simp only[p]at a;exact a
 ·simp[EG,hp,B7 c]at a
  simp[AK.elim,hp,a]
theorem fE (c:Bl h x b L) (hi:i<L.n) {s:Int} {t:ByteArray} (a:R (.ret (.int .i64 (EK L i s t).1)) (CQ h b (EK L i s t).2)) :
  A7 Tryz.prog 35 #[ptr x,.int .i64 i,.int .i64 s,.string t] h R:=by
 refine oT ?_;unfold qR gAW gGW ivW pnW;refine Jm c hi ?_;unfold EK at a
 by_cases d:s<1
 ·simp[d,B7 c]at a
  simp[AK.elim,d,a]
 ·by_cases e:1099511627776<s
  ·simp[e,B7 c]at a
   simp[AK.elim,d,e,a]
  ·by_cases k:256<(t.size:Int)
   ·simp[k,B7 c]at a
    simp[AK.elim,d,e,k,a]
   ·rw[if_neg (by omega)]at a
    simp[AK.elim,d,e,k,c.ld hi];refine⟨λf=>?_,λl=>?_⟩
    ·simp[f,B7 c]at a
     exact a
    ·rw[if_neg (by omega)]at a
     rw[c.st hi (by omega),(c.after i 10 s).stR hi,Fe];exact a
theorem WT (a:Bl h x b L) (hi:i<L.n) (c:R (.ret (.tuple #[.int .i64 (L.f i 10),.string (L.r i)])) h):A7 Tryz.prog 31 #[ptr x,.int .i64 i] h R:=by
 refine oX ?_;unfold qU ivW pnW;refine Jm a hi ?_;simp[AK.elim,a.ld hi,a.ldR hi,c]
def Lz:Array Value:=#[.int .i64 0,.int .i64 0,.int .i64 0,.int .i64 0,.int .i64 0,.int .i64 0,.int .i64 0,.int .i64 0,.int .i64 0,.int .i64 0]
theorem cq (f:Bl h x b L) {who:Int} (d:who<0\/(L.n:Int)<=who) (e:R (.ret (.tuple #[.agg Lz,.bool false])) h):A7 Tryz.prog 30 #[ptr x,.int .i64 who] h R:=by
 refine A7.drop (bx ?_);unfold mK aH zq2 ivW pnW;refine AX λc a=>?_;refine ar (f.sub (AT _ a)) d ?_;simp[AK.elim];refine⟨_,rfl,?_⟩;refine AN (AD _ _ _) (by rfl) (by rfl) (by rfl) ?_;rw[An,AI (AD _ _ _) (by simp)];exact⟨h,AT _ a,e⟩
theorem Ly (l:Bl h x b L) (hi:i<L.n) (k:R (.ret (.tuple #[.agg (AW L i),.bool true])) h):A7 Tryz.prog 30 #[ptr x,.int .i64 i] h R:=by
 refine A7.drop (bx ?_);unfold mK aH zq2 ivW pnW;refine AX λc d=>?_;have a:=l.sub (AT (h:=h) (.cells Lz 61 (0,0)) d);refine Jm (L:=L) a hi ?_;simp[AK.elim];rw[AI a.hb (by rw[Bq];omega)]
 have f:(Cb L).extract (i*12) (i*12+10)=AW L i:=by
  have m:=LO hi;have e:=Pq L i;rw[<-m]at e;rw[<-e,Array.extract_extract]
  congr 1
  omega
 rw[f];refine AN (AD _ _ _) (by rfl) (by rfl) (by rfl) ?_;rw[An,AI (AD _ _ _) (by simp[AW])];exact⟨h,AT _ d,by simpa [AW]using k⟩
def DJ (c g:Int):Led:={goods:=g,n:=c.toNat,f:=λ_ _=>0,r:=λ_=>⟨#[]⟩}
theorem ei {c g:Int} (l:¬(1<=c/\c<=16/\1<=g/\g<=4)) (a:R (.ret (.tuple #[.pointer none,.int .i64 1])) h):A7 Tryz.prog 43 #[.int .i64 c,.int .i64 g] h R:=by
 refine bw ?_;unfold mI KM X5 gAW gGW ivW
 by_cases d:c<1
 ·simp[d,a]
 ·by_cases e:16<c
  ·simp[d,e,a]
  ·by_cases f:g<1
   ·simp[d,e,f,a]
   ·have k:4<g:=by omega
    simp[d,e,f,k,a]
theorem RR (c g:Int):rep #[.int .i64 0,.int .i64 0,.int .i64 0,.int .i64 0,.int .i64 0,.int .i64 0,.int .i64 0,.int .i64 0,.int .i64 0,.int .i64 0,.int .i64 0,.string ⟨#[]⟩] (c.toNat*12)=Cb (DJ c g):=by
 apply Array.ext_getElem?;intro k;unfold rep
 rcases Nat.lt_or_ge k (c.toNat*12)with hk | hk
 ·rw[EL _ _ (by simpa [DJ]using hk)]
  simp only[Array.getElem?_map,Array.getElem?_range,hk,if_true,Option.map_some]
  congr 1
  have a:k%12<12:=by omega
  unfold GX DJ;simp only[List.size_toArray,List.length_cons,List.length_nil]
  match hk:k%12,a with
  | 0,_=>rfl
  | 1,_=>rfl
  | 2,_=>rfl
  | 3,_=>rfl
  | 4,_=>rfl
  | 5,_=>rfl
  | 6,_=>rfl
  | 7,_=>rfl
  | 8,_=>rfl
  | 9,_=>rfl
  | 10,_=>rfl
  | 11,_=>rfl
  | n+12,h=>exact absurd h (by omega)
 ·rw[D1 (by simp;omega),D1 (by rw[Bq];simpa [DJ]using hk)]
theorem mV {c g:Int} (m:1<=c) (l:c<=16) (k:1<=g) (f:g<=4)
  (p:∀x b,h b=none->h x=none->x≠b->R (.ret (.tuple #[ptr x,.int .i64 0])) (ins (ins h b (.cells (Cb (DJ c g)) 132 (0,0))) x (.cells #[.int .i64 g,.slice (some ⟨b,0,none⟩) c.toNat c.toNat] 149 (0,0)))) :
  A7 Tryz.prog 43 #[.int .i64 c,.int .i64 g] h R:=by
 refine bw ?_;unfold mI KM X5 gAW gGW ivW;have t:¬c<1:=by omega
 have s:¬16<c:=by omega
 have r:¬g<1:=by omega
 have q:¬4<g:=by omega
 simp[t,s,r,q];refine⟨_,_,_,_,rfl,rfl,by omega,by omega,by omega,by omega,λb o=>?_⟩;refine⟨_,rfl,?_⟩;refine AX λx e=>?_;obtain⟨d,a⟩:=JH e;have:=p x b o d a;rw[RR c g];exact this
end
structure cx where
 k:Int
 who:Int
 to:Int
 good:Int
 n:Int
 t:ByteArray
def cx.cells (a:cx):Array Value:=#[.int .i64 a.k,.int .i64 a.who,.int .i64 a.to,.int .i64 a.good,.int .i64 a.n,.string a.t]
def cx.v (a:cx):Value:=.agg a.cells
section
variable {h:PH} {R:RT} {x b:Nat} {L:Led}
def rnd (k:Int):Int:=if k.tmod 11<0 then 0-k.tmod 11 else k.tmod 11
end
structure Inv (L:Led):Prop where
 pos:∀i j,i<L.n->j<11->0<=L.f i j
 cash:ED L<=1099511627776
 good:∀j,j<4->EB L j<=1099511627776
 held:∀i,i<L.n->L.f i 1<=L.f i 0
 lock:∀i j,i<L.n->j<4->L.f i (6+j)<=L.f i (2+j)
 stamp:∀i,i<L.n->L.f i 10<=1099511627776
 cl:L.n<=16
 gd:L.goods<=4
 g0:1<=L.goods
 rep:∀i,i<L.n->(L.r i).size<=256
theorem NL {g:Nat->Int}:∀(k:Nat),(∀i,i<k->0<=g i)->∀i,i<k->g i<=AS g k
 | 0,_,i,hi=>absurd hi (by omega)
 | k+1,h,i,hi=>by
  have h0:0<=AS g k:=by
   have:∀m,m<=k->0<=AS g m:=λm=>by
    induction m with
    | zero=>intro _;simp[AS]
    | succ m ih=>intro a;simp only[AS];have:=ih (by omega);have:=h m (by omega);omega
   exact this k (Nat.le_refl _)
  simp only[AS]
  by_cases e:i=k
  ·subst e;omega
  ·have:=NL k (λi hi=>h i (by omega)) i (by omega)
   have:=h k (by omega);omega
theorem DF {g g':Nat->Int}:∀(k:Nat),(∀i,i<k->g i=g' i)->AS g k=AS g' k
 | 0,_=>rfl
 | k+1,h=>by simp only[AS];rw[DF k (λi hi=>h i (by omega)),h k (by omega)]
theorem Ns {g:Nat->Int} {a:Nat} {v:Int}:∀(k:Nat),a<k->AS (λi=>if i=a then v else g i) k=AS g k+v-g a
 | 0,h=>absurd h (by omega)
 | k+1,h=>by
  simp only[AS]
  by_cases e:a=k
  ·subst e
   rw[DF (g':=g) a (λi hi=>if_neg (by omega)),if_pos rfl];omega
  ·rw[Ns k (by omega),if_neg (by omega)];omega
theorem Inv.small {L:Led} (h:Inv L):L.small where
 num i j hi hj:=by
  refine⟨h.pos i j hi hj,?_⟩;have d:L.f i 0<=1099511627776:=Int.le_trans (NL (g:=λi=>L.f i 0) L.n (λa c=>h.pos a 0 c (by omega)) i hi) h.cash;have b:∀m,m<4->L.f i (2+m)<=1099511627776:=λm e=>Int.le_trans (NL (g:=λi=>L.f i (2+m)) L.n (λa c=>h.pos a (2+m) c (by omega)) i hi) (h.good m e)
  match j,hj with
  | 0,_=>exact d
  | 1,_=>exact Int.le_trans (h.held i hi) d
  | 2,_=>exact b 0 (by omega)
  | 3,_=>exact b 1 (by omega)
  | 4,_=>exact b 2 (by omega)
  | 5,_=>exact b 3 (by omega)
  | 6,_=>exact Int.le_trans (h.lock i 0 hi (by omega)) (b 0 (by omega))
  | 7,_=>exact Int.le_trans (h.lock i 1 hi (by omega)) (b 1 (by omega))
  | 8,_=>exact Int.le_trans (h.lock i 2 hi (by omega)) (b 2 (by omega))
  | 9,_=>exact Int.le_trans (h.lock i 3 hi (by omega)) (b 3 (by omega))
  | 10,_=>exact h.stamp i hi
  | n+11,hj=>exact absurd hj (by omega)
 cl:=h.cl
 gd:=h.gd
 rep:=h.rep
theorem JS (L:Led) {i j c:Nat} {v:Int} (hi:i<L.n):AS (λa=>(L.set i j v).f a c) L.n=if c=j then AS (λa=>L.f a c) L.n+v-L.f i c else AS (λa=>L.f a c) L.n:=by
 by_cases e:c=j
 ·subst e
  rw[if_pos rfl,<-Ns (g:=λa=>L.f a c) L.n hi];apply DF;intro a _;simp[Led.set]
 ·rw[if_neg e]
  apply DF;intro a _;simp[Led.set,e]
theorem Inv.set {L:Led} (h:Inv L) {i j:Nat} {v:Int} (hi:i<L.n) (q:j<11) (p:0<=v)
  (k:j=0->L.f i 1<=v/\ED L+v-L.f i 0<=1099511627776)
  (o:j=1->v<=L.f i 0)
  (g:∀m,m<4->j=2+m->L.f i (6+m)<=v/\EB L m+v-L.f i (2+m)<=1099511627776)
  (n:∀m,m<4->j=6+m->v<=L.f i (2+m))
  (l:j=10->v<=1099511627776):Inv (L.set i j v) where
 pos a c ha hc:=by
  have:=h.pos a c ha hc;simp only[Led.set];split <;> omega
 cash:=by
  have e:=JS L (j:=j) (c:=0) (v:=v) hi;unfold ED;have d:=h.cash;rw[show (L.set i j v).n=L.n from rfl,e]
  split
  ·rename_i b;have:=(k b.symm).2;unfold ED at this;omega
  ·exact d
 good m hm:=by
  have e:=JS L (j:=j) (c:=2+m) (v:=v) hi;unfold EB;have d:=h.good m hm;rw[show (L.set i j v).n=L.n from rfl,e]
  split
  ·rename_i b;have:=(g m hm b.symm).2;unfold EB at this;omega
  ·exact d
 held a ha:=by
  have:=h.held a ha;simp only[Led.set]
  by_cases e:a=i
  ·subst e
   by_cases b:j=0
   ·subst b;have:=(k rfl).1;simp;omega
   ·by_cases f:j=1
    ·subst f;have:=o rfl;simp;omega
    ·rw[if_neg (by omega),if_neg (by omega)];exact this
  ·rw[if_neg (by omega),if_neg (by omega)];exact this
 lock a m ha hm:=by
  have:=h.lock a m ha hm;simp only[Led.set]
  by_cases e:a=i
  ·subst e
   by_cases b:j=2+m
   ·have:=(g m hm b).1;rw[if_neg (by omega),if_pos (by omega)];exact this
   ·by_cases f:j=6+m
    ·have:=n m hm f;rw[if_pos (by omega),if_neg (by omega)];exact this
    ·rw[if_neg (by omega),if_neg (by omega)];exact this
  ·rw[if_neg (by omega),if_neg (by omega)];exact this
 stamp a ha:=by
  have:=h.stamp a ha;simp only[Led.set];split
  ·rename_i e;exact l e.2.symm
  ·exact this
 cl:=h.cl
 gd:=h.gd
 g0:=h.g0
 rep:=h.rep
theorem Inv.setR {L:Led} (h:Inv L) {i:Nat} {s:ByteArray} (b:s.size<=256):Inv (L.setR i s) where
 pos:=h.pos
 cash:=h.cash
 good:=h.good
 held:=h.held
 lock:=h.lock
 stamp:=h.stamp
 cl:=h.cl
 gd:=h.gd
 g0:=h.g0
 rep a ha:=by
  simp only[Led.setR];split
  ·exact b
  ·exact h.rep a ha
section
variable {L:Led} {i j:Nat} {g n:Int}
theorem an {L:Led} {g n:Int} (h:Inv L) (a:CR L g n=0):∃m:Nat,g=m/\m<4/\g.toNat=m:=by
 have:=Cd a;have:=h.gd;exact⟨g.toNat,by omega,by omega,rfl⟩
theorem fP (h:Inv L) (hi:i<L.n):Inv (GW L i n).2:=by
 unfold GW
 split
 ·exact h
 ·rename_i a
  have c:=Cd (Decidable.of_not_not a)
  split
  ·exact h
  ·have:=h.held i hi
   have:=h.pos i 0 hi (by omega);exact h.set hi (by omega) (by omega) (λ_=>⟨by omega,by omega⟩) (λe=>absurd e (by omega)) (λm b e=>absurd e (by omega)) (λm b e=>absurd e (by omega)) (λe=>absurd e (by omega))
theorem aM (h:Inv L) (hi:i<L.n):Inv (EE L i n).2:=by
 unfold EE
 split
 ·exact h
 ·rename_i a
  have c:=Cd (Decidable.of_not_not a)
  split
  ·exact h
  ·have:=h.held i hi
   have:=h.pos i 1 hi (by omega);have:=h.cash;exact h.set hi (by omega) (by omega) (λ_=>⟨by omega,by omega⟩) (λe=>absurd e (by omega)) (λm b e=>absurd e (by omega)) (λm b e=>absurd e (by omega)) (λe=>absurd e (by omega))
theorem aP (h:Inv L) (hi:i<L.n):Inv (IP L i n).2:=by
 unfold IP
 split
 ·exact h
 ·rename_i a
  have c:=Cd (Decidable.of_not_not a)
  split
  ·exact h
  ·have:=h.pos i 1 hi (by omega)
   exact h.set hi (by omega) (by omega) (λe=>absurd e (by omega)) (λe=>by omega) (λm b e=>absurd e (by omega)) (λm b e=>absurd e (by omega)) (λe=>absurd e (by omega))
theorem aQ (h:Inv L) (hi:i<L.n):Inv (IR L i n).2:=by
 unfold IR
 split
 ·exact h
 ·rename_i a
  have c:=Cd (Decidable.of_not_not a)
  split
  ·exact h
  ·have:=h.held i hi
   exact h.set hi (by omega) (by omega) (λe=>absurd e (by omega)) (λe=>by omega) (λm b e=>absurd e (by omega)) (λm b e=>absurd e (by omega)) (λe=>absurd e (by omega))
theorem Y0 (h:Inv L) (hi:i<L.n):Inv (DG L i g n).2:=by
 unfold DG
 split
 ·exact h
 ·rename_i a
  have k:=Cd (Decidable.of_not_not a);obtain⟨m,_,b,e⟩:=an h (Decidable.of_not_not a);rw[e]
  split
  ·exact h
  ·have:=h.lock i m hi b
   have:=h.pos i (2+m) hi (by omega);exact h.set hi (by omega) (by omega) (λe=>absurd e (by omega)) (λe=>absurd e (by omega)) (λc d e=>by (have f:m=c:=(by omega));subst f;exact⟨by omega,by omega⟩) (λm b e=>absurd e (by omega)) (λe=>absurd e (by omega))
theorem Y1 (h:Inv L) (hi:i<L.n):Inv (DL L i g n).2:=by
 unfold DL
 split
 ·exact h
 ·rename_i b
  have k:=Cd (Decidable.of_not_not b);obtain⟨m,_,a,e⟩:=an h (Decidable.of_not_not b);rw[e]
  split
  ·exact h
  ·have:=h.lock i m hi a
   have:=h.pos i (6+m) hi (by omega);have:=h.good m a;exact h.set hi (by omega) (by omega) (λe=>absurd e (by omega)) (λe=>absurd e (by omega)) (λc d e=>by (have f:m=c:=(by omega));subst f;exact⟨by omega,by omega⟩) (λm a e=>absurd e (by omega)) (λe=>absurd e (by omega))
theorem TL (h:Inv L) (hi:i<L.n):Inv (CH L i g n).2:=by
 unfold CH
 split
 ·exact h
 ·rename_i a
  have k:=Cd (Decidable.of_not_not a);obtain⟨m,_,d,e⟩:=an h (Decidable.of_not_not a);rw[e]
  split
  ·exact h
  ·have:=h.pos i (6+m) hi (by omega)
   exact h.set hi (by omega) (by omega) (λe=>absurd e (by omega)) (λe=>absurd e (by omega)) (λm d e=>absurd e (by omega)) (λb c e=>by (have f:m=b:=(by omega));subst f;omega) (λe=>absurd e (by omega))
theorem VF (h:Inv L) (hi:i<L.n):Inv (ES L i g n).2:=by
 unfold ES
 split
 ·exact h
 ·rename_i a
  have k:=Cd (Decidable.of_not_not a);obtain⟨m,_,b,e⟩:=an h (Decidable.of_not_not a);rw[e]
  split
  ·exact h
  ·have:=h.lock i m hi b
   exact h.set hi (by omega) (by omega) (λe=>absurd e (by omega)) (λe=>absurd e (by omega)) (λm b e=>absurd e (by omega)) (λc d e=>by (have f:m=c:=(by omega));subst f;omega) (λe=>absurd e (by omega))
theorem ZB {L:Led} {i j:Nat} {v:Int}:(L.set i j v).f i j=v:=by simp[Led.set]
theorem aN (h:Inv L) (hi:i<L.n) (c:j<L.n):Inv (GS L i j n).2:=by
 unfold GS
 split
 ·exact h
 ·rename_i k
  have p:=Cd (Decidable.of_not_not k)
  split
  ·exact h
  ·have s:=h.held i hi
   have r:=h.cash;have d:Inv (L.set i 1 (L.f i 1-n)):=h.set hi (by omega) (by omega) (λe=>absurd e (by omega)) (λe=>by omega) (λm a e=>absurd e (by omega)) (λm a e=>absurd e (by omega)) (λe=>absurd e (by omega));have u:(L.set i 1 (L.f i 1-n)).f i 0=L.f i 0:=GL (by omega);have t:(L.set i 1 (L.f i 1-n)).f i 1=L.f i 1-n:=ZB;have o:ED (L.set i 1 (L.f i 1-n))=ED L:=by unfold ED;rw[show (L.set i 1 (L.f i 1-n)).n=L.n from rfl,JS L hi,if_neg (by omega)]
   have b:Inv ((L.set i 1 (L.f i 1-n)).set i 0 ((L.set i 1 (L.f i 1-n)).f i 0-n)):=d.set hi (by omega) (by omega) (λ_=>⟨by omega,by omega⟩) (λe=>absurd e (by omega)) (λm a e=>absurd e (by omega)) (λm a e=>absurd e (by omega)) (λe=>absurd e (by omega))
   have l:ED ((L.set i 1 (L.f i 1-n)).set i 0 ((L.set i 1 (L.f i 1-n)).f i 0-n))=ED L-n:=by
    unfold ED at o ⊢;rw[show ((L.set i 1 (L.f i 1-n)).set i 0 ((L.set i 1 (L.f i 1-n)).f i 0-n)).n=(L.set i 1 (L.f i 1-n)).n from rfl,JS (L.set i 1 (L.f i 1-n)) hi,if_pos rfl];omega
   unfold GO;simp only;have q:=b.held j c;have f:=b.pos j 0 c (by omega);exact b.set c (by omega) (by omega) (λ_=>⟨by omega,by omega⟩) (λe=>absurd e (by omega)) (λm a e=>absurd e (by omega)) (λm a e=>absurd e (by omega)) (λe=>absurd e (by omega))
theorem TM (h:Inv L) (hi:i<L.n) (k:j<L.n):Inv (EG L i j g n).2:=by
 unfold EG
 split
 ·exact h
 ·rename_i l
  have s:=Cd (Decidable.of_not_not l);obtain⟨m,_,d,e⟩:=an h (Decidable.of_not_not l);rw[e]
  split
  ·exact h
  ·have v:=h.lock i m hi d
   have u:=h.good m d;have o:Inv (L.set i (6+m) (L.f i (6+m)-n)):=h.set hi (by omega) (by omega) (λe=>absurd e (by omega)) (λe=>absurd e (by omega)) (λm d e=>absurd e (by omega)) (λb a e=>by (have c:m=b:=(by omega));subst c;omega) (λe=>absurd e (by omega));have x:(L.set i (6+m) (L.f i (6+m)-n)).f i (2+m)=L.f i (2+m):=GL (by omega);have w:(L.set i (6+m) (L.f i (6+m)-n)).f i (6+m)=L.f i (6+m)-n:=ZB;have r:EB (L.set i (6+m) (L.f i (6+m)-n)) m=EB L m:=by unfold EB;rw[show (L.set i (6+m) (L.f i (6+m)-n)).n=L.n from rfl,JS L hi,if_neg (by omega)]
   have f:Inv ((L.set i (6+m) (L.f i (6+m)-n)).set i (2+m) ((L.set i (6+m) (L.f i (6+m)-n)).f i (2+m)-n)):=o.set hi (by omega) (by omega) (λe=>absurd e (by omega)) (λe=>absurd e (by omega)) (λb a e=>by (have c:m=b:=(by omega));subst c;exact⟨by omega,by omega⟩) (λb a e=>absurd e (by omega)) (λe=>absurd e (by omega))
   have q:EB ((L.set i (6+m) (L.f i (6+m)-n)).set i (2+m) ((L.set i (6+m) (L.f i (6+m)-n)).f i (2+m)-n)) m=EB L m-n:=by
    unfold EB at r ⊢;rw[show ((L.set i (6+m) (L.f i (6+m)-n)).set i (2+m) ((L.set i (6+m) (L.f i (6+m)-n)).f i (2+m)-n)).n=(L.set i (6+m) (L.f i (6+m)-n)).n from rfl,JS (L.set i (6+m) (L.f i (6+m)-n)) hi,if_pos rfl];omega
   unfold D6;simp only;have t:=f.lock j m k d;have p:=f.pos j (2+m) k (by omega);exact f.set k (by omega) (by omega) (λe=>absurd e (by omega)) (λe=>absurd e (by omega)) (λb a e=>by (have c:m=b:=(by omega));subst c;exact⟨by omega,by omega⟩) (λb a e=>absurd e (by omega)) (λe=>absurd e (by omega))
theorem aO {s:Int} {t:ByteArray} (h:Inv L) (hi:i<L.n):Inv (EK L i s t).2:=by
 unfold EK
 split
 ·exact h
 ·split
  ·exact h
  ·rename_i b _
   have:Inv (L.set i 10 s):=h.set hi (by omega) (by omega) (λe=>absurd e (by omega)) (λe=>absurd e (by omega)) (λm a e=>absurd e (by omega)) (λm a e=>absurd e (by omega)) (λe=>by omega);exact this.setR (by omega)
theorem fQ {c g:Int} (d:c<=16) (b:g<=4) (a:1<=g):Inv (DJ c g) where
 pos i j _ _:=by simp[DJ]
 cash:=by
  have:∀k,AS (λ_=>(0:Int)) k=0:=λk=>by induction k with
   | zero=>rfl
   | succ k ih=>simp[AS,ih]
  simp only[ED,DJ];rw[this];omega
 good j _:=by
  have:∀k,AS (λ_=>(0:Int)) k=0:=λk=>by induction k with
   | zero=>rfl
   | succ k ih=>simp[AS,ih]
  simp only[EB,DJ];rw[this];omega
 held i _:=by simp[DJ]
 lock i j _ _:=by simp[DJ]
 stamp i _:=by simp[DJ]
 cl:=by simp only[DJ];omega
 gd:=b
 g0:=a
 rep i _:=by simp[DJ,ByteArray.size]
end
def Zer (L:Led):Prop:=∀(i j:Nat),i<L.n->L.goods<=(j:Int)->j<4->L.f i (2+j)=0
structure Auc where
 sup:Int
 sta:Int
 stp:Int
 rnd:Int
 ste:Int
 n:Nat
 was:Nat->Int
 now:Nat->Int
def Auc.setNow (A:Auc) (i:Nat) (v:Int):Auc:={A with now:=λk=>if k=i then v else A.now k}
def Auc.setWas (A:Auc) (i:Nat) (v:Int):Auc:={A with was:=λk=>if k=i then v else A.was k}
def Fu (A:Auc) (k:Nat):Value:=if k%2=0 then .int .i64 (A.was (k/2))else .int .i64 (A.now (k/2))
def C8 (A:Auc):Array Value:=Array.ofFn (n:=A.n*2) λk=>Fu A k.val
def KK (A:Auc) (a:Nat):Array Value:=#[.int .i64 A.sup,.int .i64 A.sta,.int .i64 A.stp,.int .i64 A.rnd,.int .i64 A.ste,.slice (some ⟨a,0,none⟩) A.n A.n]
theorem Bs (A:Auc):(C8 A).size=A.n*2:=by simp[C8]
theorem EP (A:Auc) (k:Nat) (a:k<A.n*2):(C8 A)[k]?=some (Fu A k):=by unfold C8;simp[a]
theorem Ir {A:Auc} {i:Nat} (hi:i<A.n):(C8 A)[i*2]?=some (.int .i64 (A.was i)):=by
 rw[EP _ _ (by omega)];unfold Fu;rw[if_pos (by omega),show i*2/2=i by omega]
theorem Is {A:Auc} {i:Nat} (hi:i<A.n):(C8 A)[i*2+1]?=some (.int .i64 (A.now i)):=by
 rw[EP _ _ (by omega)];unfold Fu;rw[if_neg (by omega),show (i*2+1)/2=i by omega]
theorem NE {A:Auc} {i:Nat} (hi:i<A.n) (v:Int):(C8 A).setIfInBounds (i*2+1) (.int .i64 v)=C8 (A.setNow i v):=by
 apply Array.ext_getElem?;intro k
 rcases Nat.lt_or_ge k (A.n*2)with hk | hk
 ·rw[EP (A.setNow i v) k hk]
  by_cases b:i*2+1=k
  ·subst b
   rw[Array.getElem?_setIfInBounds_self_of_lt (by rw[Bs];exact hk)];unfold Fu Auc.setNow;rw[if_neg (by omega),show (i*2+1)/2=i by omega];simp
  ·rw[Array.getElem?_setIfInBounds_ne b,EP _ _ hk]
   unfold Fu Auc.setNow
   by_cases a:k%2=0
   ·rw[if_pos a,if_pos a]
   ·rw[if_neg a,if_neg a]
    have:¬k/2=i:=by omega
    simp only[this,if_false]
 ·rw[D1 (by simpa [Bs]using hk),D1 (by rw[Bs];exact hk)]
theorem ND {A:Auc} {i:Nat} (hi:i<A.n) (v:Int):(C8 A).setIfInBounds (i*2) (.int .i64 v)=C8 (A.setWas i v):=by
 apply Array.ext_getElem?;intro k
 rcases Nat.lt_or_ge k (A.n*2)with hk | hk
 ·rw[EP (A.setWas i v) k hk]
  by_cases b:i*2=k
  ·subst b
   rw[Array.getElem?_setIfInBounds_self_of_lt (by rw[Bs];exact hk)];unfold Fu Auc.setWas;rw[if_pos (by omega),show i*2/2=i by omega];simp
  ·rw[Array.getElem?_setIfInBounds_ne b,EP _ _ hk]
   unfold Fu Auc.setWas
   by_cases a:k%2=0
   ·rw[if_pos a,if_pos a]
    have:¬k/2=i:=by omega
    simp only[this,if_false]
   ·rw[if_neg a,if_neg a]
 ·rw[D1 (by simpa [Bs]using hk),D1 (by rw[Bs];exact hk)]
structure Cm (h:PH) (a bb:Nat) (A:Auc):Prop where
 ha:h a=some (.cells (KK A bb) 155 (0,0))
 hb:h bb=some (.cells (C8 A) 157 (0,0))
theorem Cm.ne {h:PH} {a d:Nat} {A:Auc} (b:Cm h a d A):a≠d:=λe=>by
 have c:=b.ha;rw[e,b.hb]at c;injection c with h2
 injection h2 with _ h3
 exact absurd h3 (by decide)
theorem Cm.sub {h g:PH} {a d:Nat} {A:Auc} (c:Cm h a d A) (b:Sub h g):Cm g a d A:=⟨b _ _ c.ha,b _ _ c.hb⟩
def Ci (h:PH) (a b:Nat) (A:Auc):PH:=ins (ins h b (.cells (C8 A) 157 (0,0))) a (.cells (KK A b) 155 (0,0))
theorem T2 {h:PH} {a c:Nat} {A:Auc} (b:Cm h a c A):Ci h a c A=h:=by
 unfold Ci;rw[GC b.hb,GC b.ha]
theorem Cm.put {h:PH} {a b:Nat} {A B:Auc} (c:Cm h a b A):Cm (Ci h a b B) a b B:=
 ⟨AD _ _ _,by unfold Ci;rw[Aq _ _ c.ne.symm];exact AD _ _ _⟩
theorem Uu {h:PH} {a b:Nat} (e:a≠b) (A B:Auc):Ci (Ci h a b A) a b B=Ci h a b B:=by
 unfold Ci
 funext x
 by_cases d:x=a
 ·subst d;rw[AD,AD]
 ·rw[Aq _ _ d,Aq _ _ d]
  by_cases c:x=b
  ·subst c;rw[AD,AD]
  ·rw[Aq _ _ c,Aq _ _ c,Aq _ _ d,Aq _ _ c]
def Auc.price (A:Auc):Int:=A.sta+(A.rnd-1)*A.stp
def Auc.last (A:Auc):Int:=if A.rnd=1 then 0 else A.price-A.stp
def Auc.demand (A:Auc):Int:=AS A.now A.n
structure Auc.ok (A:Auc):Prop where
 sup:1<=A.sup/\A.sup<=1048576
 sta:0<=A.sta
 stp:1<=A.stp/\A.stp<=1099511627776
 rnd:1<=A.rnd
 top:A.price<=1099511627776
 ste:0<=A.ste/\A.ste<=2
 n:1<=A.n/\A.n<=16
 was:∀i,i<A.n->0<=A.was i/\A.was i<=1048576
 now:∀i,i<A.n->0<=A.now i/\A.now i<=1048576
 one:A.rnd=1->∀i,i<A.n->A.was i=0
 fall:1<A.rnd->∀i,i<A.n->A.now i<=A.was i
 more:1<A.rnd->A.sup<AS A.was A.n
theorem Auc.ok.rndB {A:Auc} (h:A.ok):A.rnd<=1099511627777:=by
 have b:=h.top;have d:=h.sta;have a:=h.stp;have c:=h.rnd;unfold Auc.price at b;have:(A.rnd-1)*1<=(A.rnd-1)*A.stp:=Int.mul_le_mul_of_nonneg_left a.1 (by omega);omega
theorem Auc.ok.mulB {A:Auc} (h:A.ok):0<=(A.rnd-1)*A.stp/\(A.rnd-1)*A.stp<=1099511627776:=by
 have a:=h.top;have d:=h.sta;have c:=h.stp;have b:=h.rnd;unfold Auc.price at a;have:0<=(A.rnd-1)*A.stp:=Int.mul_nonneg (by omega) (by omega);omega
theorem Auc.ok.priceB {A:Auc} (h:A.ok):0<=A.price/\A.price<=1099511627776:=by
 have b:=h.top;have a:=h.sta;have:=h.mulB;unfold Auc.price at *;omega
theorem Auc.ok.sumB {A:Auc} (h:A.ok) {g:Nat->Int} (a:∀i,i<A.n->0<=g i/\g i<=1048576) {k:Nat} (c:k<=A.n):0<=AS g k/\AS g k<=16777216:=by
 have b:=Ib (g:=g) (M:=1048576) (by omega) k (λi hi=>a i (by omega));have d:=h.n;refine⟨b.1,?_⟩;have:(k:Int)*1048576<=16*1048576:=Int.mul_le_mul_of_nonneg_right (by omega) (by omega);omega
def DZ (A:Auc) (who n:Int):Int×Auc:=
 if A.ste≠0 then (70,A)else if who<0\/(A.n:Int)<=who\/n<0\/1048576<n then (1,A)else if 1<A.rnd/\A.was who.toNat<n then (71,A)else (0,A.setNow who.toNat n)
def AV (A:Auc):Bool×Int×Auc:=
 if A.ste≠0 then (false,70,A)else if A.demand<=A.sup then (true,0,{A with ste:=1})else if 1099511627776-A.stp<A.price then (true,0,{A with ste:=2})
 else (false,0,{A with rnd:=A.rnd+1,was:=λi=>if i<A.n then A.now i else A.was i})
def B4 (A:Auc) (who:Int):Int×Int:=if who<0\/(A.n:Int)<=who then (0,0)else (A.was who.toNat,A.now who.toNat)
section
variable {h:PH} {R:RT} {a bb:Nat} {A:Auc}
theorem Cm.f (c:Cm h a bb A) {K:Value->Prop} {j:Nat} {v:Value} (b:(KK A bb)[j]?=some v):A0 none (.pointer (some ⟨a,j,none⟩)) h K↔K v:=A5 c.ha b
theorem Pr {s t p n:Int} (l:¬(1<=s/\s<=1048576/\0<=t/\t<=1099511627776/\1<=p/\p<=1099511627776/\1<=n/\n<=16)) (b:R (.ret (.tuple #[.pointer none,.int .i64 1])) h) :
  A7 Tryz.prog 96 #[.int .i64 s,.int .i64 t,.int .i64 p,.int .i64 n] h R:=by
 refine bq ?_;unfold mG gAW gGW ivW
 by_cases c:s<1
 ·simp[c,b]
 by_cases d:1048576<s
 ·simp[c,d,b]
 by_cases e:t<0
 ·simp[c,d,e,b]
 by_cases f:1099511627776<t
 ·simp[c,d,e,f,b]
 by_cases g:p<1
 ·simp[c,d,e,f,g,b]
 by_cases i:1099511627776<p
 ·simp[c,d,e,f,g,i,b]
 by_cases j:n<1
 ·simp[c,d,e,f,g,i,j,b]
 have k:16<n:=by omega
 simp[c,d,e,f,g,i,j,k,b]
def CS (s t p n:Int):Auc:={sup:=s,sta:=t,stp:=p,rnd:=1,ste:=0,n:=n.toNat,was:=λ_=>0,now:=λ_=>0}
theorem RS (s t p n:Int):rep #[.int .i64 0,.int .i64 0] (n.toNat*2)=C8 (CS s t p n):=by
 apply Array.ext_getElem?;intro k;unfold rep
 rcases Nat.lt_or_ge k (n.toNat*2)with hk | hk
 ·rw[EP _ _ (by simpa [CS]using hk)]
  simp only[Array.getElem?_map,Array.getElem?_range,hk,if_true,Option.map_some]
  congr 1
  have b:k%2<2:=by omega
  unfold Fu CS;simp only[List.size_toArray,List.length_cons,List.length_nil]
  match hk:k%2,b with
  | 0,_=>rfl
  | 1,_=>rfl
 ·rw[D1 (by simp;omega),D1 (by rw[Bs];simpa [CS]using hk)]
theorem QT {s t p n:Int} (b:1<=s/\s<=1048576/\0<=t/\t<=1099511627776/\1<=p/\p<=1099511627776/\1<=n/\n<=16):(CS s t p n).ok where
 sup:=⟨b.1,b.2.1⟩
 sta:=b.2.2.1
 stp:=⟨b.2.2.2.2.1,b.2.2.2.2.2.1⟩
 rnd:=by simp[CS]
 top:=by simp[CS,Auc.price];omega
 ste:=by simp[CS]
 n:=by simp only[CS];omega
 was _ _:=by simp[CS]
 now _ _:=by simp[CS]
 one _ _ _:=rfl
 fall h:=by simp[CS]at h
 more h:=by simp[CS]at h
theorem Rx {s t p n:Int} (v:1<=s/\s<=1048576/\0<=t/\t<=1099511627776/\1<=p/\p<=1099511627776/\1<=n/\n<=16)
  (i:∀a bb g,h a=none->h bb=none->Sub h g->Cm g a bb (CS s t p n)->R (.ret (.tuple #[ptr a,.int .i64 0])) g) :
  A7 Tryz.prog 96 #[.int .i64 s,.int .i64 t,.int .i64 p,.int .i64 n] h R:=by
 refine bq ?_;unfold mG gAW gGW ivW;have u:¬s<1:=by omega
 have r:¬1048576<s:=by omega
 have q:¬t<0:=by omega
 have o:¬1099511627776<t:=by omega
 have m:¬p<1:=by omega
 have l:¬1099511627776<p:=by omega
 have k:¬n<1:=by omega
 have j:¬16<n:=by omega
 simp[u,r,q,o,m,l,k,j];refine⟨_,_,_,_,rfl,rfl,by omega,by omega,by omega,by omega,λbb b=>?_⟩;refine⟨_,rfl,?_⟩;refine AX λa f=>?_;obtain⟨c,d⟩:=JH f;rw[RS s t p n];refine i a bb _ c b (Sub.put (Sub.put (Sub.refl h) b) c) ⟨AD _ _ _,?_⟩;rw[Aq _ _ (λe=>d e.symm)];exact AD _ _ _
theorem EN (c:Cm h a bb A) (b:A.ok) (e:R (.ret (.int .i64 A.price)) h):A7 Tryz.prog 109 #[ptr a] h R:=by
 refine j8 ?_;unfold lO ivW;have f1:=λK=>c.f (K:=K) (j:=1) (v:=.int .i64 A.sta) rfl;have f2:=λK=>c.f (K:=K) (j:=2) (v:=.int .i64 A.stp) rfl;have f3:=λK=>c.f (K:=K) (j:=3) (v:=.int .i64 A.rnd) rfl;have b1:=b.rndB;have b2:=b.mulB;have d:=b.priceB;have g:=b.rnd;have f:=b.sta;simp[As Tryz.underlying96,f1,f2,f3];rw[w64 (x:=A.rnd-1) (by omega) (by omega),w64 (x:=(A.rnd-1)*A.stp) (by omega) (by omega),w64 (by unfold Auc.price at d;omega) (by unfold Auc.price at d;omega)];exact e
theorem P0 (e:Cm h a bb A) (d:A.ok) (b:R (.ret (.int .i64 A.last)) h):A7 Tryz.prog 108 #[ptr a] h R:=by
 refine j9 ?_;unfold lP gAW gGW ivW pnW;have f2:=λK=>e.f (K:=K) (j:=2) (v:=.int .i64 A.stp) rfl;have f3:=λK=>e.f (K:=K) (j:=3) (v:=.int .i64 A.rnd) rfl;have g:=d.priceB;have f:=d.stp;unfold Auc.last at b
 by_cases c:A.rnd=1
 ·rw[if_pos c]at b
  simp[As Tryz.underlying96,f3,c,b]
 ·rw[if_neg c]at b
  simp[As Tryz.underlying96,f2,f3,c];refine EN e d ?_;simp[AK.elim,f2];rw[w64 (by omega) (by omega)];exact b
theorem Rw (c:Cm h a bb A) (b:R (.ret (.int .i64 A.sup)) h):A7 Tryz.prog 101 #[ptr a] h R:=by
 refine jG ?_;unfold lW ivW;have f0:=λK=>c.f (K:=K) (j:=0) (v:=.int .i64 A.sup) rfl;simp[As Tryz.underlying96,f0,b]
theorem Tj (c:Cm h a bb A) (b:R (.ret (.int .i64 A.rnd)) h):A7 Tryz.prog 110 #[ptr a] h R:=by
 refine j7 ?_;unfold lN ivW;have f3:=λK=>c.f (K:=K) (j:=3) (v:=.int .i64 A.rnd) rfl;simp[As Tryz.underlying96,f3,b]
theorem Cm.w (b:Cm h a bb A) {i:Nat} (hi:i<A.n) {K:Value->Prop}:A0 none (.pointer (some ⟨bb,i*2,none⟩)) h K↔K (.int .i64 (A.was i)):=A5 b.hb (Ir hi)
theorem Cm.o (b:Cm h a bb A) {i:Nat} (hi:i<A.n) {K:Value->Prop}:A0 none (.pointer (some ⟨bb,i*2+1,none⟩)) h K↔K (.int .i64 (A.now i)):=A5 b.hb (Is hi)
theorem JL (d:Cm h a bb A) {who:Int} (b:R (.ret (.tuple #[.int .i64 (B4 A who).1,.int .i64 (B4 A who).2])) h):A7 Tryz.prog 98 #[ptr a,.int .i64 who] h R:=by
 refine nI ?_;unfold pI K8 gAW gGW ivW;have f5:=λK=>d.f (K:=K) (j:=5) (v:=.slice (some ⟨bb,0,none⟩) A.n A.n) rfl;unfold B4 at b
 by_cases c:who<0
 ·rw[if_pos (.inl c)]at b
  simp[As Tryz.underlying96,c,b]
 by_cases e:(A.n:Int)<=who
 ·rw[if_pos (.inr e)]at b
  simp[As Tryz.underlying96,c,e,f5,b]
 rw[if_neg (by omega)]at b;obtain⟨i,rfl⟩:∃i:Nat,who=i:=⟨who.toNat,by omega⟩;have hi:i<A.n:=by omega
 have f:(0:Int)<=(i:Int):=by omega
 simp[As Tryz.underlying96,c,e,f5,hi,d.w hi,d.o hi];exact b
theorem La (u:Cm h a bb A) (d:A.ok) (z:R (.ret (.int .i64 A.demand)) h):A7 Tryz.prog 144 #[ptr a] h R:=by
 refine A7.drop (iP ?_);unfold kf eXW ivW pnW;have f5:=λK=>u.f (K:=K) (j:=5) (v:=.slice (some ⟨bb,0,none⟩) A.n A.n) rfl;simp[JP Tryz.underlying96,f5];have B:=d.n;refine AL (λm t g'=>∃i:Nat,t=(.int .i64 (AS A.now i),.int .i64 i)/\m=A.n-i/\i<=A.n/\Sub h g') A.n ⟨0,rfl,rfl,by omega,Sub.refl h⟩ ?_;rintro m t g' ⟨i,rfl,rfl,hi,hs⟩
 by_cases b:i<A.n
 ·have key:∀(l:V2->V2->PH->Prop) Kp s,(∀q,Sub h q->l (.slice (some ⟨bb,0,none⟩) A.n A.n,.int .i64 A.n) (.int .i64 (AS A.now (i+1)),.int .i64 ((i:Int)+1)) q) ->
    Pd Kp s (.slice (some ⟨bb,0,none⟩) A.n A.n,.int .i64 A.n) l (.int .i64 (AS A.now i),.int .i64 i) g':=by
   intro l Kp s o;unfold Pd ivW;have n:(i:Int)<(A.n:Int):=by omega
   simp only[AC,n,B6,AB,B9];refine⟨λ_=>⟨by omega,by omega,?_⟩,λe=>absurd e (by simp)⟩;rw[show 0+(i:Int).toNat*2=i*2 by omega,AI (hs _ _ u.hb) (by rw[Bs];omega)]
   have x:(C8 A).extract (i*2) (i*2+2)=#[.int .i64 (A.was i),.int .i64 (A.now i)]:=by
    apply Array.ext_getElem?;intro j;rw[Array.getElem?_extract,Bs]
    rcases Nat.lt_or_ge j 2 with hj | hj
    ·rw[if_pos (by omega)]
     match j,hj with
     | 0,_=>rw[Nat.add_zero,Ir b];rfl
     | 1,_=>rw[Is b];rfl
    ·rw[if_neg (by omega),D1 (by simpa using hj)]
   rw[x];refine Ai λc G y f p=>?_;refine AN (cs:=#[.int .i64 (A.was i),.int .i64 (A.now i)]) p (by rfl) (by rfl) (by rfl) ?_;have b1:=d.sumB (g:=A.now) d.now (k:=i) (by omega);have b2:=d.now i b;simp only[AH];rw[A5 (AD _ _ _) (v:=.int .i64 (A.now i)) rfl];simp only[AG];rw[w64 (by omega) (by omega),w64 (by omega) (by omega)];exact o _ (Sub.put (hs.trans f) (hs.fresh y))
  exact key _ _ _ λq f=>⟨rfl,A.n-(i+1),by omega,i+1,rfl,rfl,by omega,f⟩
 ·have e:i=A.n:=by omega
  subst e;unfold Pd ivW;simp;intro r w;rw[show r 3=_ from w];exact⟨h,hs,z⟩
theorem Qj (d:Cm h a bb A) {who n:Int} (c:R (.ret (.int .i64 (DZ A who n).1)) (Ci h a bb (DZ A who n).2)):A7 Tryz.prog 112 #[ptr a,.int .i64 who,.int .i64 n] h R:=by
 refine j5 ?_;unfold lL gAW gGW ivW;have f3:=λK=>d.f (K:=K) (j:=3) (v:=.int .i64 A.rnd) rfl;have f4:=λK=>d.f (K:=K) (j:=4) (v:=.int .i64 A.ste) rfl;have f5:=λK=>d.f (K:=K) (j:=5) (v:=.slice (some ⟨bb,0,none⟩) A.n A.n) rfl;have b:=T2 d;unfold DZ at c
 by_cases h0:A.ste=0
 ·rw[if_neg (by omega)]at c
  by_cases e:who<0
  ·rw[if_pos (.inl e)]at c
   simp[As Tryz.underlying96,f4,h0,e];rw[b]at c;exact c
  by_cases f:(A.n:Int)<=who
  ·rw[if_pos (.inr (.inl f))]at c
   simp[As Tryz.underlying96,f4,h0,e,f5,f];rw[b]at c;exact c
  by_cases g:n<0
  ·rw[if_pos (.inr (.inr (.inl g)))]at c
   simp[As Tryz.underlying96,f4,h0,e,f5,f,g];rw[b]at c;exact c
  by_cases l:1048576<n
  ·rw[if_pos (.inr (.inr (.inr l)))]at c
   simp[As Tryz.underlying96,f4,h0,e,f5,f,g,l];rw[b]at c;exact c
  rw[if_neg (by omega)]at c;obtain⟨i,rfl⟩:∃i:Nat,who=i:=⟨who.toNat,by omega⟩;have hi:i<A.n:=by omega
  rw[BR]at c
  have m:R (.ret (.int .i64 0)) (Ci h a bb (A.setNow i n))->A9 1 (.pointer (some ⟨bb,i*2+1,none⟩)) (.int .i64 n) h λk=>R (.ret (.int .i64 0)) k:=λc=>by
   refine (Aw d.hb (by rw[Bs];omega) rfl).2 ?_;rw[NE hi]
   have:Ci h a bb (A.setNow i n)=ins h bb (.cells (C8 (A.setNow i n)) 157 (0,0)):=by
    unfold Ci;exact GC (by rw[Aq _ _ d.ne];exact d.ha)
   rw[this]at c;exact c
  by_cases o:1<A.rnd
  ·by_cases p:A.was i<n
   ·rw[if_pos ⟨o,p⟩,b]at c
    simp[As Tryz.underlying96,f4,h0,e,f5,f,g,l,f3,o,hi,d.w hi,p];exact c
   ·rw[if_neg (by omega)]at c
    simp[As Tryz.underlying96,f4,h0,e,f5,f,g,l,f3,o,hi,d.w hi,p];exact m c
  ·rw[if_neg (by omega)]at c
   simp[As Tryz.underlying96,f4,h0,e,f5,f,g,l,f3,o,hi];exact m c
 ·rw[if_pos h0,b]at c
  simp[As Tryz.underlying96,f4,h0,c]
end
section
variable {P:Program} {K:Value->Prop}
theorem Ey {n:Int} (h0:0<=n) (a:n<18446744073709551616):(BitVec.ofInt 64 n).toNat=n.toNat:=by
 rw[BitVec.toNat_ofInt];have:n%((2^64:Nat):Int)=n:=Int.emod_eq_of_lt h0 (by simpa using a);rw[this]
theorem Mp (t:TypeId) {n:Int} (h0:0<=n) (a:n<=9223372036854775807):A6 P .and t (.int .i64 n) (.int .i64 127) K↔K (.int .i64 (n%128)):=by
 have e:((n%2^IntKind.i64.bits).toNat &&& 127%2^IntKind.i64.bits)=n.toNat%128:=by
  show ((n%18446744073709551616).toNat &&& 127)=_;rw[Int.emod_eq_of_lt h0 (by omega)];exact Nat.and_two_pow_sub_one_eq_mod n.toNat 7
 refine Bi λ_ _=>?_;simp[eqGuard,binOp,Op.intBits];rw[e,show ((n.toNat%128:Nat):Int)=n%128 by omega,w64 (by omega) (by omega)]
 rfl
theorem qr:∀x:Nat,x<128->x ||| 128=x+128:=by decide
theorem UR (t:TypeId) {n:Int} (h0:0<=n) (a:n<128):A6 P .or t (.int .i64 n) (.int .i64 128) K↔K (.int .i64 (n+128)):=by
 have e:((n%2^IntKind.i64.bits).toNat ||| 128%2^IntKind.i64.bits)=n.toNat+128:=by
  show ((n%18446744073709551616).toNat ||| 128)=_;rw[Int.emod_eq_of_lt h0 (by omega)];exact qr _ (by omega)
 refine Bi λ_ _=>?_;simp[eqGuard,binOp,Op.intBits];rw[e,show ((n.toNat+128:Nat):Int)=n+128 by omega,w64 (by omega) (by omega)]
 rfl
theorem XA (t:TypeId) {n:Int} (h0:0<=n):A6 P .shr t (.int .i64 n) (.int .u64 7) K↔K (.int .i64 (n/128)):=by
 refine Bi λ_ _=>?_;have e:n.fdiv 128=n/128:=Int.fdiv_eq_ediv_of_nonneg n (by omega);simp[eqGuard,binOp,Op.shift,IntKind.bits,e]
 rfl
theorem cy {n:Int} (h0:0<=n) (a:n<256):IntKind.u8.wrap n=n:=by
 simp[IntKind.wrap,IntKind.bits,IntKind.signed];omega
end
def Br (n:Nat):List UInt8:=if h:n<128 then [UInt8.ofNat n]else UInt8.ofNat (n%128+128)::Br (n/128)
termination_by n
decreasing_by omega
structure WB (h0:PH) (p:Nat) (bs:List UInt8) (h:PH) (s:Value):Prop where
 sub:Sub h0 h
 hp0:h0 p=none
 hp:h p=some (.cells #[s] 142 (0,0))
 buf:(s = .slice none 0 0/\bs = [])\/∃g c cap,s = .slice (some ⟨g,0,none⟩) bs.length cap/\h g=some (.cells c 5 (0,0))/\h0 g=none/\g≠p/\c.size=cap/\bs.length<=cap/\c.toList.take bs.length=byteCells bs
theorem KJ (l:List UInt8):(byteCells l).length=l.length:=by simp[byteCells]
theorem Ht (a b:List UInt8):byteCells (a++b)=byteCells a++byteCells b:=by simp[byteCells]
theorem cD {l:List UInt8}:∀v∈byteCells l,v.oneCell'=true:=by
 intro v a;simp only[byteCells,List.mem_map]at a;obtain⟨x,_,rfl⟩:=a
 rfl
section
variable {h h0:PH} {p:Nat} {bs:List UInt8} {s:Value} {K:PH->Prop}
theorem Yj {q:Bool} {x:Value} {news:List UInt8} {n:PH} (d:WB h0 p bs h s) (a:Sub h n) (P:∀c,x≠.slice none 0 c) (k:(bs.length+news.length)*1<=roomBytes)
  (u:∀N:Nat->List Value->Prop,N news.length (byteCells news)->I3 q 1 x n N) (G:∀b off l c,x = .slice (some ⟨b,off,none⟩) l c->h b=none)
  (E:∀M O,WB h0 p (bs++news) M O->K M) :
  Ab q 5 1 1 s x n λt U=>A9 1 (.pointer (some ⟨p,0,none⟩)) t U K:=by
 unfold Ab;refine u _ ?_
 rcases d.buf with⟨rfl,rfl⟩ | ⟨g,c,cap,rfl,J,z,w,T,D,B⟩
 ·refine .inl ⟨rfl,λH=>?_,λH=>⟨by simpa using k,λb cap j i F I=>?_⟩⟩
  ·have:news = []:=List.eq_nil_of_length_eq_zero H
   subst this;refine AN (a _ _ d.hp) (cs:=#[.slice none 0 0]) (by rfl) (by rfl) (by rfl) ?_;rw[GC (a _ _ d.hp)];refine E _ (.slice none 0 0) ⟨d.sub.trans a,d.hp0,a _ _ d.hp,.inl ⟨rfl,rfl⟩⟩
  ·have f:p≠b:=λe=>by have:=a _ _ d.hp;rw[e,i]at this;cases this
   refine AN (cs:=#[.slice (some ⟨b,0,none⟩) news.length cap]) (by rw[Aq _ _ f];exact a _ _ d.hp) (by rfl) (by rfl) (by rfl) ?_;refine E _ _ ⟨Sub.put (Sub.put (d.sub.trans a) ((d.sub.trans a).fresh i)) d.hp0,d.hp0,AD _ _ _,.inr ⟨b,(byteCells news++j).toArray,cap,by simp,?_,(d.sub.trans a).fresh i,λe=>f e.symm,?_,by simpa using F,?_⟩⟩
   ·rw[Aq _ _ (λe=>f e.symm)];exact AD _ _ _
   ·simp only[List.size_toArray,List.length_append];omega
   ·simp[KJ]
 ·refine .inr (.inl ⟨g,bs.length,cap,c,rfl,a _ _ J,by omega,D,k,λb off l W Q e=>?_,λb m j i F I=>?_⟩)
  ·have:=G b off l W Q
   rw[e,J]at this;cases this
  ·have v:=a _ _ d.hp
   have f:p≠b:=λe=>by
    rcases i with rfl | i
    ·exact w e.symm
    ·rw[<-e,v]at i;cases i
   have A:h0 b=none:=by
    rcases i with rfl | i
    ·exact z
    ·exact (d.sub.trans a).fresh i
   have L:∀y,y≠g->Eh n g y=n y:=λy r=>by
    unfold Eh;cases S:Nat.beq y g
    ·rfl
    ·exact absurd (Nat.eq_of_beq_eq_true S) r
   have C:Sub h0 (Eh n g):=λy o r=>by
    rw[L y (λe=>by rw[e,z]at r;cases r)];exact (d.sub.trans a) y o r
   refine AN (cs:=#[.slice (some ⟨b,0,none⟩) (bs.length+news.length) m]) (by rw[Aq _ _ f,L p (λe=>w e.symm)];exact v) (by rfl) (by rfl) (by rfl) ?_;have V:List.take (bs.length*1) c.toList=byteCells bs:=by rw[Nat.mul_one];exact B
   refine E _ _ ⟨Sub.put (Sub.put C A) d.hp0,d.hp0,AD _ _ _,.inr ⟨b,_,m,by simp,by rw[Aq _ _ (λe=>f e.symm)];exact AD _ _ _,A,λe=>f e.symm,?_,by simpa using F,?_⟩⟩
   ·simp only[List.size_toArray,List.length_append]at I ⊢;omega
   ·rw[V,Ht,<-Ht bs news]
    simp only;rw[show (bs++news).length=(byteCells (bs++news)).length from (KJ _).symm,List.take_left]
theorem TZ (b:UInt8):Instr.fill (λi=>some (i*1,1)) (rep #[Value.int IntKind.u8 0] (1*1)) [(0,Value.int IntKind.u8 ↑b.toNat)]=some #[.int .u8 b.toNat]:=by
 have e:Array.range 1=#[0]:=by decide
 simp[Instr.fill,rep,Value.cells,e]
theorem Vn {b:UInt8} (i:WB h0 p bs h s) (o:bs.length<1073741824) (k:∀f g,WB h0 p (bs ++ [b]) f g->K f) :
  (1*1<=2^24)/\Aj 5 1 1 #[.int .u8 0] [(0,.int .u8 b.toNat)] h λt n=>
   (0<1)/\(0<1)/\(Array.size #[(.int .u8 0:Value)]=1)/\Ab false 5 1 1 s t n λt2 m=>A9 1 (.pointer (some ⟨p,0,none⟩)) t2 m K:=by
 refine⟨by omega,#[.int .u8 b.toNat],TZ b,λq d=>⟨by omega,by omega,rfl,?_⟩⟩;refine Yj (news:=[b]) i (Sub.put (Sub.refl h) d) (λc e=>by cases e) (by simp only[List.length_cons,List.length_nil,roomBytes];omega) (λr a=>.inr (.inr ⟨rfl,q,0,1,1,_,_,_,rfl,AD _ _ _,?_,?_,?_⟩)) (λb off l c e=>by cases e;exact d) k
 ·simp
 ·intro v j
  have:v = .int .u8 b.toNat:=by simpa using j
  subst this;rfl
 ·exact a
theorem cz {t:ByteArray} (i:WB h0 p bs h s) (m:bs.length+t.size<1073741824) (j:∀f g,WB h0 p (bs++t.data.toList) f g->K f) :
  (0<1)/\(0<1)/\(Array.size #[(.int .u8 0:Value)]=1)/\Ab true 5 1 1 s (.string t) h λt2 k=>A9 1 (.pointer (some ⟨p,0,none⟩)) t2 k K:=by
 refine⟨by omega,by omega,rfl,?_⟩;have d:t.data.toList.length=t.size:=by rw[Array.length_toList];rfl
 refine Yj (news:=t.data.toList) i (Sub.refl h) (λc e=>by cases e) (by rw[d];simp only[roomBytes];omega) (λn a=>.inl ⟨rfl,t,rfl,rfl,by rw[<-d];exact a⟩) (λb off l c e=>by cases e) j
end
theorem EM {n:Nat} (h:n<128):Br n = [UInt8.ofNat n]:=by rw[Br,dif_pos h]
theorem LW {n:Nat} (h:¬n<128):Br n=UInt8.ofNat (n%128+128)::Br (n/128):=by rw[Br,dif_neg h]
theorem Tc:∀(k n:Nat),n<128^(k+1)->(Br n).length<=k+1
 | k,n,h=>by
  by_cases a:n<128
  ·rw[EM a];simp
  ·rw[LW a]
   match k,h with
   | 0,h=>exact absurd h (by omega)
   | k+1,h=>
    have:=Tc k (n/128) (by rw[Nat.pow_succ]at h;exact Nat.div_lt_of_lt_mul (by rw[Nat.mul_comm];exact h));simp only[List.length_cons];omega
theorem Cs {n:Nat} (h:n<9223372036854775808):(Br n).length<=10:=Tc 9 n (by omega)
theorem pH {n:Nat} (h:n<256):((UInt8.ofNat n).toNat:Int)=(n:Int):=by
 rw[UInt8.toNat_ofNat'];omega
theorem E2 {n:Nat} (h:n<256) {x:Int} (a:x=(n:Int)):IntKind.u8.wrap x=((UInt8.ofNat n).toNat:Int):=by
 rw[a,cy (by omega) (by omega),pH h]
section
variable {h h0:PH} {R:RT} {p:Nat} {bs:List UInt8} {s:Value}
theorem QR {n:Nat} (u:WB h0 p bs h s) (l:n<9223372036854775808) (A:bs.length<1000000000) (x:∀o d,WB h0 p (bs++Br n) o d->R (.ret (ptr p)) o) :
  A7 Tryz.prog 77 #[ptr p,.int .i64 n] h R:=by
 refine nZ ?_;unfold pX eXW pnW;refine AL (λm i g=>∃(k:Nat) (c:List UInt8) (d:Value),i = .int .i64 k/\m=k/\k<9223372036854775808/\WB h0 p c g d/\c++Br k=bs++Br n) n ⟨n,bs,s,rfl,rfl,l,u,rfl⟩ ?_;rintro m i g ⟨k,c,d,rfl,rfl,hk,hw',he⟩;have a:c.length+(Br m).length=bs.length+(Br n).length:=by rw[<-List.length_append,he,List.length_append]
 have z:=Cs l;unfold cM ivW;simp only[By,AB,CF,D9];refine⟨λw=>?_,λv=>?_⟩
 ·have e:¬m<128:=by omega
  rw[LW e]at he a;simp only[BO,AH,A5 hw'.hp (show (#[d]:Array Value)[0+0]?=some d from rfl)];rw[Mp _ (by omega) (by omega),UR _ (by omega) (by omega)];simp only[Ct];rw[E2 (n:=m%128+128) (by omega) (by omega)];refine Vn hw' (by simp only[List.length_cons]at a;omega) λy f b=>?_;rw[XA _ (by omega)];exact⟨trivial,m/128,by omega,m/128,_,f,by rw[show ((m:Int)/128)=((m/128:Nat):Int)by omega],rfl,by omega,b,by rw[List.append_assoc];exact he⟩
 ·have e:m<128:=by omega
  intro r j;simp only[Prod.mk.injEq]at j;obtain⟨t,q⟩:=j;rw[t,q];rw[EM e]at he a;simp only[BO,AH,A5 hw'.hp (show (#[d]:Array Value)[0+0]?=some d from rfl),Ct];rw[E2 (n:=m) (by omega) rfl];refine Vn hw' (by simp only[List.length_cons]at a;omega) λy f b=>?_;rw[he]at b;exact x _ _ b
theorem dN {t:ByteArray} (e:WB h0 p bs h s) (j:t.size<16777216) (k:bs.length<16777216) (f:∀d c,WB h0 p (bs++(Br t.size++t.data.toList)) d c->R (.ret (ptr p)) d) :
  A7 Tryz.prog 121 #[ptr p,.string t] h R:=by
 refine iq ?_;unfold lC pnW;simp only[Dp];refine QR e (by omega) (by omega) λd c b=>?_;have g:=Cs (show t.size<9223372036854775808 by omega);simp only[AK.elim,BO,AH,A5 b.hp (show (#[c]:Array Value)[0+0]?=some c from rfl)];refine cz b (by rw[List.length_append];omega) λl i a=>?_;rw[List.append_assoc]at a;exact f _ _ a
theorem Vo {K:Value->Prop} (d:WB h0 p bs h s) (b:K (.string ⟨bs.toArray⟩)):El s h K:=by
 rcases d.buf with⟨rfl,rfl⟩ | ⟨g,c,cap,rfl,f,_,_,i,e,a⟩
 ·exact .inl ⟨rfl,b⟩
 ·exact .inr ⟨g,0,bs.length,cap,c,_,_,bs,rfl,f,rfl,by simpa using a,b⟩
theorem Yi (a:h p=none):WB h p [] (ins h p (.cells #[.slice none 0 0] 142)) (.slice none 0 0):=⟨AT _ a,a,AD _ _ _,.inl ⟨rfl,rfl⟩⟩
theorem Gc {n:Nat} (g:n<=9007199254740992) (d:R (.ret (.tuple #[.string ⟨(Br n).toArray⟩,.int .i64 0])) h):A7 Tryz.prog 34 #[.int .i64 n] h R:=by
 refine A7.drop (oU ?_);unfold qS gAW gGW ivW pnW;have f:¬((n:Int)<0):=by omega
 have e:¬(9007199254740992<(n:Int)):=by omega
 simp[f,e];refine AX λp c=>?_;refine QR (Yi c) (by omega) (by simp) λi b a=>?_;simp[AK.elim,A5 a.hp (show (#[b]:Array Value)[0]?=some b from rfl)];refine Vo a ?_;exact⟨h,a.sub,by simpa using d⟩
theorem Ur {t:ByteArray} (f:t.size<=1048576) (d:R (.ret (.tuple #[.string ⟨(Br t.size++t.data.toList).toArray⟩,.int .i64 0])) h):A7 Tryz.prog 79 #[.string t] h R:=by
 refine A7.drop (nY ?_);unfold pW ivW pnW;have e:¬(1048576<(t.size:Int)):=by omega
 simp[e];refine AX λp c=>?_;refine dN (Yi c) (by omega) (by simp) λg b a=>?_;simp[AK.elim,A5 a.hp (show (#[b]:Array Value)[0]?=some b from rfl)];refine Vo a ?_;exact⟨h,a.sub,by simpa using d⟩
def KV (i:Nat):ByteArray:=⟨#[97,99,99,116,47,UInt8.ofNat (48+i/10),UInt8.ofNat (48+i%10)]⟩
theorem TY (a b:UInt8):Instr.fill (λi=>some (i*1,1)) (rep #[Value.int IntKind.u8 0] (2*1)) [(0,Value.int IntKind.u8 ↑a.toNat),(1,Value.int IntKind.u8 ↑b.toNat)]=some #[.int .u8 a.toNat,.int .u8 b.toNat]:=by
 have e:Array.range 2=#[0,1]:=by decide
 simp[Instr.fill,rep,Value.cells,e]
theorem mg {i:Nat} (hi:i<100) (b:R (.ret (.string (KV i))) h):A7 Tryz.prog 80 #[.int .i64 i] h R:=by
 refine A7.drop (nX ?_);unfold pV jq9 ivW;rw[Fx _ _ _ _ (by omega)];have d:((i:Int).tdiv 10)=((i/10:Nat):Int):=by rw[Int.tdiv_eq_ediv_of_nonneg (by omega)];omega
 have c:((i:Int).tmod 10)=((i%10:Nat):Int):=by rw[Int.tmod_eq_emod_of_nonneg (by omega)];omega
 rw[d,w64 (by omega) (by omega)];simp only[AG,Ct];rw[w64 (by omega) (by omega),E2 (n:=48+i/10) (by omega) (by omega),J0 _ _ _ _ (by omega),c];simp only[AG,Ct];rw[w64 (by omega) (by omega),E2 (n:=48+i%10) (by omega) (by omega)];refine⟨by omega,_,TY _ _,λq a=>?_⟩;refine .inr ⟨q,0,2,2,_,_,_,[UInt8.ofNat (48+i/10),UInt8.ofNat (48+i%10)],rfl,AD _ _ _,rfl,rfl,?_⟩;show A6 _ _ _ _ _ _;rw[Dg _ _ _ (by simp[ByteArray.size])];refine⟨h,AT _ a,?_⟩
 have:(⟨#[97,99,99,116,47]⟩:ByteArray)++⟨[UInt8.ofNat (48+i/10),UInt8.ofNat (48+i%10)].toArray⟩=KV i:=by
  apply ByteArray.ext;rw[ByteArray.data_append]
  rfl
 rw[this];exact b
end
structure OB (e:TypeId) (esz:Nat) (h0:PH) (n:Nat) (l:List Value) (h:PH) (s:Value):Prop where
 sub:Sub h0 h
 len:l.length=n*esz
 buf:(s = .slice none 0 0/\n=0/\l = [])\/∃g c cap,s = .slice (some ⟨g,0,none⟩) n cap/\h g=some (.cells c e (0,0))/\h0 g=none/\c.size=cap*esz/\n<=cap/\c.toList.take (n*esz)=l
section
variable {h h0 h1:PH} {e:TypeId} {esz n:Nat} {l:List Value} {s:Value}
theorem OB.up (b:OB e esz h0 n l h s) (d:Sub h h1):OB e esz h0 n l h1 s:=
 ⟨b.sub.trans d,b.len,by
  rcases b.buf with a | ⟨g,c,cap,a1,a2,a3⟩
  ·exact .inl a
  ·exact .inr ⟨g,c,cap,a1,d _ _ a2,a3⟩⟩
theorem Db {K:Value->PH->Prop} {bytes m:Nat} {k:Bool} {x:Value} {news:List Value} (f:OB e esz h0 n l h1 s) (i:(n+m)*bytes<=roomBytes) (O:0<m) (a:news.length=m*esz)
  (p:∀I:Nat->List Value->Prop,I m news->I3 k esz x h1 I) (C:∀b off l c,x = .slice (some ⟨b,off,none⟩) l c->∀g cap,s = .slice (some ⟨g,0,none⟩) n cap->b≠g)
  (F:∀H D,OB e esz h0 (n+m) (l++news) H D->K D H) :
  Ab k e esz bytes s x h1 K:=by
 unfold Ab;refine p _ ?_
 rcases f.buf with⟨rfl,rfl,rfl⟩ | ⟨g,c,cap,rfl,M,q,B,z,v⟩
 ·refine .inl ⟨rfl,λE=>absurd E (by omega),λE=>⟨by simpa using i,λb cap d j G A=>?_⟩⟩
  have:OB e esz h0 (0+m) ([]++news) (ins h1 b (.cells (news++d).toArray e)) (.slice (some ⟨b,0,none⟩) (0+m) cap):=
   ⟨Sub.put f.sub (f.sub.fresh j),by simpa using a,.inr ⟨b,_,cap,rfl,AD _ _ _,f.sub.fresh j,by simpa using A,by omega,by
    simp only[Ad,List.nil_append];rw[<-a,List.take_left]⟩⟩
  have:=F _ _ this;rw[Ad]at this;exact this
 ·refine .inr (.inl ⟨g,n,cap,c,rfl,M,B,z,i,λb off l N J=>C b off l N J g cap rfl,λb t d j G A=>?_⟩)
  have r:h0 b=none:=by
   rcases j with rfl | j
   ·exact q
   ·exact f.sub.fresh j
  have w:Sub h0 (Eh h1 g):=λy o u=>by
   unfold Eh;cases L:Nat.beq y g
   ·exact f.sub y o u
   ·rw[Nat.eq_of_beq_eq_true L,q]at u;cases u
  refine F _ _ ⟨Sub.put w r,by rw[List.length_append,f.len,a,Nat.add_mul],.inr ⟨b,_,t,rfl,AD _ _ _,r,?_,G,?_⟩⟩
  ·simp only[List.size_toArray,List.length_append]at A ⊢;omega
  ·rw[v]
   simp only;rw[show (n+m)*esz=(l++news).length by rw[List.length_append,f.len,a,Nat.add_mul],List.take_left]
theorem RP (f:OB e esz h0 n l h s) (o:0<n):∃g c cap,s = .slice (some ⟨g,0,none⟩) n cap/\h g=some (.cells c e (0,0))/\n*esz<=c.size/\∀j,j<n*esz->c[j]?=l[j]?:=by
 rcases f.buf with⟨_,h0,_⟩ | ⟨g,c,cap,rfl,m,k,d,b,a⟩
 ·omega
 ·refine⟨g,c,cap,rfl,m,by rw[d];exact Nat.mul_le_mul_right _ b,λj i=>?_⟩
  rw[<-a,List.getElem?_take,if_pos i,Array.getElem?_toList]
theorem GN (d:OB e esz h0 n l h s):∃p cap,s = .slice p n cap:=by
 rcases d.buf with⟨a,b,_⟩ | ⟨g,c,cap,a,_⟩
 ·exact⟨none,0,by rw[a,b]⟩
 ·exact⟨_,_,a⟩
end
def FH (L:Led) (i:Nat):List Int:=[L.f i 10,L.f i 0,L.f i 1]++(List.range L.goods.toNat).map (λj=>L.f i (2+j))++(List.range L.goods.toNat).map (λj=>L.f i (6+j))
def C9 (l:List Int):List UInt8:=l.flatMap λn=>Br n.toNat
def KT (L:Led) (i:Nat):List UInt8:=C9 (FH L i)++(Br (L.r i).size++(L.r i).data.toList)
def Ee (L:Led) (n:Nat):List Value:=(List.range n).flatMap λi=>[.string (KV i),.string ⟨(KT L i).toArray⟩]
theorem KF (L:Led) (n:Nat):Ee L (n+1)=Ee L n ++ [.string (KV n),.string ⟨(KT L n).toArray⟩]:=by
 unfold Ee;rw[List.range_succ,List.flatMap_append];simp
theorem Td {l:List Int} (h:∀x∈l,0<=x/\x<=1099511627776):(C9 l).length<=10*l.length:=by
 induction l with
 | nil=>simp[C9]
 | cons a l ih=>
  have c:=ih λx b=>h x (by simp[b]);have e:=h a (by simp);have d:=Cs (n:=a.toNat) (by omega);simp only[C9,List.flatMap_cons,List.length_append,List.length_cons]at c ⊢;omega
theorem OK (L:Led) (i:Nat):(FH L i).length=3+L.goods.toNat+L.goods.toNat:=by simp[FH];omega
theorem QQ {L:Led} (h:Inv L) {i:Nat} (hi:i<L.n):∀x∈FH L i,0<=x/\x<=1099511627776:=by
 have b:=h.gd;intro x a;simp only[FH,List.mem_append,List.mem_cons,List.mem_map,List.mem_range,List.not_mem_nil,or_false]at a
 rcases a with ((rfl | rfl | rfl) | ⟨j,hj,rfl⟩) | ⟨j,hj,rfl⟩
 ·exact h.small.num i 10 hi (by omega)
 ·exact h.small.num i 0 hi (by omega)
 ·exact h.small.num i 1 hi (by omega)
 ·exact h.small.num i (2+j) hi (by omega)
 ·exact h.small.num i (6+j) hi (by omega)
def iv (n:Int):Value:=.int .i64 n
theorem Qe (L:Led) (i:Nat):∀k,k<=4->((BV L i).toList.drop 2).take (k*1)=((List.range k).map (λj=>L.f i (2+j))).map iv
 | 0,_=>rfl
 | 1,_=>rfl
 | 2,_=>rfl
 | 3,_=>rfl
 | 4,_=>rfl
 | n+5,h=>absurd h (by omega)
theorem Tb (L:Led) (i:Nat):∀k,k<=4->((BV L i).toList.drop 6).take (k*1)=((List.range k).map (λj=>L.f i (6+j))).map iv
 | 0,_=>rfl
 | 1,_=>rfl
 | 2,_=>rfl
 | 3,_=>rfl
 | 4,_=>rfl
 | n+5,h=>absurd h (by omega)
theorem MN {l:List Int}:∀v∈l.map iv,v.oneCell'=true:=by
 intro v a;obtain⟨x,_,rfl⟩:=List.mem_map.1 a
 rfl
theorem m9 {K:Value->Prop} {n esz b o:Nat} {k:IntKind} {m:Int} (h0:0<=m) (d:m<=n) (c:n≠0):Yn n esz none (some (.int k m)) (.pointer (some ⟨b,o,none⟩)) K↔K (.slice (some ⟨b,o,none⟩) m.toNat n):=by
 constructor
 ·rintro⟨i,o',e,h,g,f,_,_,a⟩
  cases e;cases f;simp only[CK,if_neg c,Nat.zero_mul,Nat.add_zero,Nat.sub_zero]at a;exact a
 ·intro a
  refine⟨b,o,rfl,k,m,rfl,by omega,d,?_⟩;simp only[CK,if_neg c,Nat.zero_mul,Nat.add_zero,Nat.sub_zero];exact a
theorem VN (a b c:Value) (g:a.cells=#[a]) (f:b.cells=#[b]) (d:c.cells=#[c]):Instr.fill (λi=>some (i*1,1)) (rep #[Value.int .i64 0] (3*1)) [(0,a),(1,b),(2,c)]=some #[a,b,c]:=by
 have e:Array.range 3=#[0,1,2]:=by decide
 simp[Instr.fill,rep,g,f,d,e]
theorem Ol (a b:ByteArray):Instr.fill (λi=>some (i*2,2)) (rep #[.string ⟨#[]⟩,.string ⟨#[]⟩] (1*2)) [(0,Value.agg #[.string a,.string b])]=some #[.string a,.string b]:=by
 have e:Array.range 2=#[0,1]:=by decide
 simp[Instr.fill,rep,Value.cells,e]
section
variable {h:PH} {R:RT} {x b:Nat} {L:Led}
theorem Um (hL:Bl h x b L) (hi:Inv L) (hR:∀g s,OB 42 2 h L.n (Ee L L.n) g s->R (.ret s) g):A7 Tryz.prog 37 #[ptr x] h R:=by
 refine oQ ?_;unfold qP eXW ivW pnW ptr;have hgd:=hi.gd;have hg0:=hi.g0;have hcl:=hi.cl;rw[As Tryz.underlying81];simp;rw[A5 hL.hx (show (#[Value.int .i64 L.goods,.slice (some ⟨b,0,none⟩) L.n L.n]:Array Value)[1]?=some (.slice (some ⟨b,0,none⟩) L.n L.n)from rfl)];simp;refine AL (λm B g=>∃(i:Nat) (Q:Value),B=(Q,.int .i64 i)/\m=L.n-i/\i<=L.n/\OB 42 2 h i (Ee L i) g Q) L.n ⟨0,.slice none 0 0,rfl,rfl,by omega,Sub.refl h,rfl,.inl ⟨rfl,rfl,rfl⟩⟩ ?_;rintro m B g ⟨i,Q,rfl,rfl,hle,hob⟩;unfold cS KM zq4 zq5 eXW ivW;simp only[AC,AB,CF,D9];refine⟨λhlt=>?_,λhge=>?_⟩
 ·have f:i<L.n:=by omega
  have M:Bl g x b L:=hL.sub hob.sub;simp;refine⟨f,?_⟩;rw[M.ldEnt f];refine AX λc hc=>?_;refine AN (AD _ _ _) (by rfl) (by rfl) (by rfl) ?_;rw[An];have a:ins g c (.cells (BV L i) 132 (0,0)) c=some (.cells (BV L i) 132 (0,0)):=AD _ _ _;have p:Sub g (ins g c (.cells (BV L i) 132 (0,0))):=AT _ hc;revert a p;generalize ins g c (.cells (BV L i) 132 (0,0))=E;intro a p;have O:Bl E x b L:=M.sub p;have e10:(BV L i)[10]?=some (iv (L.f i 10)):=rfl;have e0:(BV L i)[0]?=some (iv (L.f i 0)):=rfl;have e1:(BV L i)[1]?=some (iv (L.f i 1)):=rfl;have e11:(BV L i)[11]?=some (.string (L.r i)):=rfl;have eg:(#[Value.int .i64 L.goods,.slice (some ⟨b,0,none⟩) L.n L.n]:Array Value)[0]?=some (.int .i64 L.goods):=rfl;have Y:∀{K:Value->Prop} {o:Nat},Yn 4 1 none (some (.int .i64 L.goods)) (.pointer (some ⟨c,o,none⟩)) K↔K (.slice (some ⟨c,o,none⟩) L.goods.toNat 4):=λ{K o}=>m9 (by omega) (by omega) (by omega);simp[A5 a e10,A5 a e0,A5 a e1,A5 O.hx eg,Y];refine⟨_,VN _ _ _ rfl rfl rfl,λq T=>?_⟩;have P:Sub E (ins E q (.cells #[iv (L.f i 10),iv (L.f i 0),iv (L.f i 1)] 3)):=AT _ T
  have D:OB 3 1 E 3 ([L.f i 10,L.f i 0,L.f i 1].map iv) (ins E q (.cells #[iv (L.f i 10),iv (L.f i 0),iv (L.f i 1)] 3)) (.slice (some ⟨q,0,none⟩) 3 3):=
   ⟨P,rfl,.inr ⟨q,_,3,rfl,AD _ _ _,T,rfl,by omega,rfl⟩⟩
  have hcq:c≠q:=λe=>by rw[<-e,a]at T;cases T
  have z:∀o,((List.range L.goods.toNat).map (λj=>L.f i (o+j)) |>.map iv).length=L.goods.toNat*1:=λo=>by simp
  refine Db (m:=L.goods.toNat) (news:=((List.range L.goods.toNat).map (λj=>L.f i (2+j))).map iv) D (by simp only[roomBytes];omega) (by omega) (z 2)
   (λK' u=>.inr (.inr ⟨rfl,c,2,L.goods.toNat,4,_,_,_,rfl,P _ _ a,?_,?_,?_⟩)) (λb' off l cc y gg cap t=>by cases y;cases t;exact hcq) λh4 s4 ob1=>?_
  ·show 2+L.goods.toNat*1<=12
   omega
  ·rw[Qe L i _ (by omega)];exact MN
  ·rw[Qe L i _ (by omega)];exact u
  refine⟨by rw[A5 (ob1.sub _ _ O.hx) eg],?_⟩
  refine Db (m:=L.goods.toNat) (news:=((List.range L.goods.toNat).map (λj=>L.f i (6+j))).map iv) ob1 (by simp only[roomBytes];omega) (by omega) (z 6)
   (λK' u=>.inr (.inr ⟨rfl,c,6,L.goods.toNat,4,_,_,_,rfl,ob1.sub _ _ a,?_,?_,?_⟩)) (λb' off l cc y gg cap t=>?_) λh5 s5 d=>?_
  ·show 6+L.goods.toNat*1<=12
   omega
  ·rw[Tb L i _ (by omega)];exact MN
  ·rw[Tb L i _ (by omega)];exact u
  ·cases y
   intro e
   rcases ob1.buf with⟨A,_⟩ | ⟨g',c',cap',A,_,h3,_⟩
   ·rw[A]at t;cases t
   ·rw[A]at t;cases t;rw[<-e,a]at h3;cases h3
  have H:List.map iv [L.f i 10,L.f i 0,L.f i 1]++List.map iv (List.map (λj=>L.f i (2+j)) (List.range L.goods.toNat))++List.map iv (List.map (λj=>L.f i (6+j)) (List.range L.goods.toNat))=(FH L i).map iv:=by
   simp only[FH,List.map_append]
  rw[H]at d;have hN:3+L.goods.toNat+L.goods.toNat=(FH L i).length:=(OK L i).symm;rw[hN]at d;have hN11:(FH L i).length<=11:=by omega
  have hN0:0<(FH L i).length:=by omega
  have J:=QQ hi f;obtain⟨gg,cc,ccap,hs5,hgg,hsz,I⟩:=RP d hN0;rw[hs5];simp only[BQ];clear D ob1 z H;generalize hNs:FH L i=N at *;refine AL (λm B g'=>∃j:Nat,B=(.string ⟨(C9 (N.take j)).toArray⟩,.int .i64 j)/\m=N.length-j/\j<=N.length/\g'=h5) N.length ⟨0,rfl,rfl,by omega,rfl⟩ ?_;rintro m B g' ⟨j,rfl,rfl,hj,rfl⟩;unfold cR ivW;simp only[AC,AB,CF,D9]
  have w:∀j,(C9 (N.take j)).length<=110:=λj=>by
   have:=Td (l:=N.take j) λx y=>J x (List.mem_of_mem_take y);have:(N.take j).length<=N.length:=by rw[List.length_take];omega
   omega
  refine⟨λhlt2=>?_,λhge=>?_⟩
  ·have hjl:j<N.length:=by omega
   obtain⟨v,F⟩:∃v,N[j]?=some v:=⟨_,Bu hjl⟩;have hvb:=J v (List.mem_of_getElem? F);obtain⟨k,rfl⟩:∃k:Nat,v=k:=⟨v.toNat,by omega⟩;have hcj:cc[j]?=some (.int .i64 k):=by rw[I j (by omega),List.getElem?_map,F];rfl
   simp only[B9];refine⟨by omega,by omega,?_⟩;rw[A5 hgg (v:=.int .i64 k) (by simpa using hcj)];refine Gc (n:=k) (by omega) ?_;simp only[AK.elim,Av,Au];have h10:=Cs (n:=k) (by omega);have hlj:=w j;rw[Dg _ _ _ (by simp[ByteArray.size];omega)];simp only[AG];rw[w64 (by omega) (by omega)];refine⟨by trivial,N.length-(j+1),by omega,j+1,?_,by trivial,by omega,by trivial⟩
   have e1:C9 (N.take (j+1))=C9 (N.take j)++Br k:=by
    rw[List.take_add_one,F];simp[C9]
   have e2:(⟨(C9 (N.take j)).toArray⟩:ByteArray)++⟨(Br k).toArray⟩=⟨(C9 (N.take (j+1))).toArray⟩:=by
    apply ByteArray.ext;rw[ByteArray.data_append,e1];simp
   rw[e2]
   rfl
  ·have hjn:j=N.length:=by omega
   subst hjn;intro r S;simp only[Prod.mk.injEq]at S;obtain⟨r0,r3,r4,r5,r6,W,V,U⟩:=S;rw[r0,r3,r4,r5,r6,W,V,U];have hcc:g' c=some (.cells (BV L i) 132 (0,0)):=d.sub _ _ a;simp only[AH,A5 hcc e11,Ad];have hrep:=hi.rep i f;refine Ur (by omega) ?_;simp only[AK.elim,Av,Au];refine mg (by omega) ?_;simp only[AK.elim];have hlj:=w N.length;have h10:=Cs (n:=(L.r i).size) (by omega);have X:(L.r i).data.toList.length=(L.r i).size:=by rw[Array.length_toList];rfl
   rw[Dg _ _ _ (by simp only[ByteArray.size,List.size_toArray,List.length_append];have:=X;simp only[ByteArray.size]at *;omega)]
   have e3:(⟨(C9 (N.take N.length)).toArray⟩:ByteArray)++⟨(Br (L.r i).size++(L.r i).data.toList).toArray⟩=⟨(KT L i).toArray⟩:=by
    apply ByteArray.ext;rw[ByteArray.data_append,List.take_length,KT,hNs];simp
   rw[e3];refine⟨#[.string (KV i),.string ⟨(KT L i).toArray⟩],rfl,?_⟩;refine⟨_,Ol _ _,λq' G=>?_⟩;have Z:Sub g (ins g' q' (.cells #[.string (KV i),.string ⟨(KT L i).toArray⟩] 42)):=(p.trans d.sub).trans (AT _ G)
   refine Db (m:=1) (news:=[.string (KV i),.string ⟨(KT L i).toArray⟩]) (hob.up Z) (by simp only[roomBytes];omega) (by omega) rfl
    (λK' u=>.inr (.inr ⟨rfl,q',0,1,1,_,_,_,rfl,AD _ _ _,?_,?_,?_⟩)) (λb' off l cc' y gg' cap t=>?_) λh6 s6 C=>?_
   ·simp
   ·intro v F
    have:v = .string (KV i)\/v = .string ⟨(KT L i).toArray⟩:=by simpa using F
    rcases this with rfl | rfl <;> rfl
   ·exact u
   ·cases y
    intro e
    rcases hob.buf with⟨A,_⟩ | ⟨g2,c2,cap2,A,h2,_⟩
    ·rw[A]at t;cases t
    ·rw[A]at t;cases t
     have:=(p.trans d.sub) _ _ h2;rw[<-e,G]at this;cases this
   simp only[AG];rw[w64 (by omega) (by omega)];rw[<-KF]at C;exact⟨by simp,L.n-(i+1),by omega,i+1,s6,by simp,rfl,by omega,C⟩
 ·have f:i=L.n:=by omega
  subst f;intro r S;rw[show r 3=Q from S];exact hR _ _ hob
end
def row (f:Nat->Int) (n:Nat):Array Value:=Array.ofFn (n:=n) λk=>.int .i64 (f k.val)
def upF (f:Nat->Int) (i:Nat) (v:Int):Nat->Int:=λk=>if k=i then v else f k
theorem JA (f:Nat->Int) (n:Nat):(row f n).size=n:=by simp[row]
theorem RF {f:Nat->Int} {n i:Nat} (hi:i<n):(row f n)[i]?=some (.int .i64 (f i)):=by unfold row;simp[hi]
theorem dj {f:Nat->Int} {n i:Nat} (hi:i<n) (v:Int):(row f n).setIfInBounds i (.int .i64 v)=row (upF f i v) n:=by
 apply Array.ext_getElem?;intro k
 rcases Nat.lt_or_ge k n with hk | hk
 ·rw[RF hk]
  by_cases e:i=k
  ·subst e
   rw[Array.getElem?_setIfInBounds_self_of_lt (by rw[JA];exact hk)];unfold upF;rw[if_pos rfl]
  ·rw[Array.getElem?_setIfInBounds_ne e,RF hk]
   unfold upF;rw[if_neg (λh=>e h.symm)]
 ·rw[D1 (by simpa [JA]using hk),D1 (by rw[JA];exact hk)]
theorem LD (n:Nat):rep #[.int .i64 0] (n*1)=row (λ_=>0) n:=by
 apply Array.ext_getElem?;intro k;unfold rep;rw[Nat.mul_one]
 rcases Nat.lt_or_ge k n with hk | hk
 ·rw[RF hk]
  simp[hk];rw[Nat.mod_one];rfl
 ·rw[D1 (by simpa using hk),D1 (by rw[JA];exact hk)]
theorem QI {f g:Nat->Int} {n:Nat} (H:∀i,i<n->f i=g i):row f n=row g n:=by
 unfold row
 congr 1
 funext k
 rw[H _ k.isLt]
abbrev E6 (h:PH) (b:Nat) (f:Nat->Int) (n:Nat):Prop:=h b=some (.cells (row f n) 3 (0,0))
abbrev Dm (f:Nat->Int) (n:Nat):Obj:=.cells (row f n) 3 (0,0)
theorem GM {h:PH} {b n i:Nat} {f:Nat->Int} (a:E6 h b f n) (hi:i<n) {K:Value->Prop}:A0 none (.pointer (some ⟨b,i,none⟩)) h K↔K (.int .i64 (f i)):=A5 a (RF hi)
theorem ME {h:PH} {b n i:Nat} {f:Nat->Int} (a:E6 h b f n) (hi:i<n) {v:Int} {K:PH->Prop}:A9 1 (.pointer (some ⟨b,i,none⟩)) (.int .i64 v) h K↔K (ins h b (Dm (upF f i v) n)):=by
 rw[Aw a (by rw[JA];exact hi) rfl,dj hi]
def WG (Kp:KP) (x2:Value->PH->Prop) (f:V2) (b:V2->V2->PH->Prop) (s:V2) (h:PH):Prop:=
 A6 Tryz.prog .lss 3 s.2 f.2 λt59=>
 dIf t59 (AR 1 f.1 s.2 λt60=>
 A0 none t60 h λt61=>
 AA Tryz.prog 34 #[t61] h (λt64 a=>
 Aa t64 0 λt65=>
 Aa t64 1 λt66=>
 A6 Tryz.prog .add 9 s.1 t65 λt69=>
 A6 Tryz.prog .add 3 s.2 (.int .i64 1) λt70=>
 b f (t69,t70) a)
 Kp)
 (x2 s.1 h)
theorem Ge {l:List Int} (h:∀x∈l,0<=x/\x<=9007199254740992):(C9 l).length<=10*l.length:=by
 induction l with
 | nil=>simp[C9]
 | cons a l ih=>
  have c:=ih λx b=>h x (by simp[b]);have e:=h a (by simp);have d:=Cs (n:=a.toNat) (by omega);simp only[C9,List.flatMap_cons,List.length_append,List.length_cons]at c ⊢;omega
theorem WF {Kp:KP} {x2:Value->PH->Prop} {h0 h:PH} {N:List Int} {s:Value} (p:OB 3 1 h0 N.length (N.map iv) h s) (b:∀x∈N,0<=x/\x<=9007199254740992) (E:N.length<=100000)
  (y:x2 (.string ⟨(C9 N).toArray⟩) h):lf (WG Kp x2) (s,.int .i64 N.length) (.string ⟨#[]⟩,.int .i64 0) h:=by
 refine AL (λm i g'=>∃j:Nat,i=(.string ⟨(C9 (N.take j)).toArray⟩,.int .i64 j)/\m=N.length-j/\j<=N.length/\g'=h) N.length ⟨0,rfl,rfl,by omega,rfl⟩ ?_;rintro m i g' ⟨j,rfl,rfl,hj,rfl⟩;unfold WG;simp only[AC,AB,CF,D9];refine⟨λu=>?_,λz=>?_⟩
 ·have e:j<N.length:=by omega
  obtain⟨H,D,o,rfl,f,t,a⟩:=RP p (by omega);obtain⟨v,c⟩:∃v,N[j]?=some v:=⟨_,Bu e⟩;have r:=b v (List.mem_of_getElem? c);obtain⟨k,rfl⟩:∃k:Nat,v=k:=⟨v.toNat,by omega⟩;have g:D[j]?=some (.int .i64 k):=by rw[a j (by omega),List.getElem?_map,c];rfl
  simp only[B9];refine⟨by omega,by omega,?_⟩;rw[A5 f (v:=.int .i64 k) (by simpa using g)];refine Gc (n:=k) (by omega) ?_;simp only[AK.elim,Av,Au];have A:=Cs (n:=k) (by omega)
  have w:(C9 (N.take j)).length<=10*N.length:=by
   have G:=Ge (l:=N.take j) λx q=>b x (List.mem_of_mem_take q);have F:(N.take j).length<=N.length:=by rw[List.length_take];omega
   omega
  rw[Dg _ _ _ (by simp[ByteArray.size];omega)];simp only[AG];rw[w64 (by omega) (by omega)];refine⟨by trivial,N.length-(j+1),by omega,j+1,?_,by trivial,by omega,by trivial⟩
  have C:C9 (N.take (j+1))=C9 (N.take j)++Br k:=by
   rw[List.take_add_one,c];simp[C9]
  have B:(⟨(C9 (N.take j)).toArray⟩:ByteArray)++⟨(Br k).toArray⟩=⟨(C9 (N.take (j+1))).toArray⟩:=by
   apply ByteArray.ext;rw[ByteArray.data_append,C];simp
  rw[B]
  rfl
 ·have d:j=N.length:=by omega
  subst d;rw[List.take_length];exact y
section
variable {h:PH} {R:RT} {a bb:Nat} {A:Auc}
def Ww (A:Auc):List Int:=[A.sup,A.sta,A.stp,A.rnd,A.ste,A.n]
def Ck (A:Auc):Nat->List Int
 | 0=>Ww A
 | k+1=>Ck A k ++ [A.was k,A.now k]
def Iv (A:Auc):ByteArray:=⟨(C9 (Ck A A.n)).toArray⟩
theorem EQ (A:Auc):∀k,(Ck A k).length=6+k*2
 | 0=>rfl
 | k+1=>by simp only[Ck,List.length_append,EQ A k,List.length_cons,List.length_nil];omega
theorem HA {A:Auc} (b:A.ok):∀k,k<=A.n->∀x∈Ck A k,0<=x/\x<=9007199254740992
 | 0,_,x,hx=>by
  have m:=b.sup;have l:=b.sta;have j:=b.stp;have i:=b.rnd;have g:=b.ste;have f:=b.n;have e:=b.rndB;have c:=b.priceB;have d:=b.mulB;unfold Auc.price at c;simp only[Ck,Ww,List.mem_cons,List.not_mem_nil,or_false]at hx
  rcases hx with rfl | rfl | rfl | rfl | rfl | rfl <;> omega
 | k+1,hkn,x,hx=>by
  simp only[Ck,List.mem_append,List.mem_cons,List.not_mem_nil,or_false]at hx
  rcases hx with hx | rfl | rfl
  ·exact HA b k (by omega) x hx
  ·have:=b.was k (by omega);omega
  ·have:=b.now k (by omega);omega
theorem Lg {K:Value->PH->Prop} (f:Cm h a bb A) {i:Nat} (hi:i<A.n) (b:∀c,h c=none->K (ptr c) (ins h c (.cells #[.int .i64 (A.was i),.int .i64 (A.now i)] 157 (0,0)))) :
  AR 2 (.slice (some ⟨bb,0,none⟩) A.n A.n) (.int .i64 i) λt=>A0 (some 2) t h λv=>Ag #[.int .i64 0,.int .i64 0] 157 h λp k=>A9 2 p v k λg=>K p g:=by
 rw[B9];refine⟨by omega,by omega,?_⟩;rw[show 0+(i:Int).toNat*2=i*2 by omega,AI f.hb (by rw[Bs];omega)]
 have d:(C8 A).extract (i*2) (i*2+2)=#[.int .i64 (A.was i),.int .i64 (A.now i)]:=by
  apply Array.ext_getElem?;intro j;rw[Array.getElem?_extract,Bs]
  rcases Nat.lt_or_ge j 2 with hj | hj
  ·rw[if_pos (by omega)]
   match j,hj with
   | 0,_=>rw[Nat.add_zero,Ir hi];rfl
   | 1,_=>rw[Is hi];rfl
  ·rw[if_neg (by omega),D1 (by simpa using hj)]
 rw[d];refine AX λc e=>?_;refine AN (cs:=#[.int .i64 (A.was i),.int .i64 (A.now i)]) (AD _ _ _) (by rfl) (by rfl) (by rfl) ?_;rw[An];exact b c e
theorem LU (a b:Value) (d:a.cells=#[a]) (c:b.cells=#[b]):Instr.fill (λi=>some (i*1,1)) (rep #[Value.int .i64 0] (2*1)) [(0,a),(1,b)]=some #[a,b]:=by
 have e:Array.range 2=#[0,1]:=by decide
 simp[Instr.fill,rep,d,c,e]
theorem Ro (a b c d e f:Value) (n:a.cells=#[a]) (m:b.cells=#[b]) (l:c.cells=#[c]) (k:d.cells=#[d]) (j:e.cells=#[e]) (g:f.cells=#[f]) :
  Instr.fill (λi=>some (i*1,1)) (rep #[Value.int .i64 0] (6*1)) [(0,a),(1,b),(2,c),(3,d),(4,e),(5,f)]=some #[a,b,c,d,e,f]:=by
 have o:Array.range 6=#[0,1,2,3,4,5]:=by decide
 simp[Instr.fill,rep,n,m,l,k,j,g,o]
theorem Mw (f:Cm h a bb A) (L:A.ok) (S:R (.ret (.string (Iv A))) h):A7 Tryz.prog 40 #[ptr a] h R:=by
 refine A7.drop (oN ?_);unfold qM eXW ivW pnW;have f0:=λK=>f.f (K:=K) (j:=0) (v:=.int .i64 A.sup) rfl;have f1:=λK=>f.f (K:=K) (j:=1) (v:=.int .i64 A.sta) rfl;have f2:=λK=>f.f (K:=K) (j:=2) (v:=.int .i64 A.stp) rfl;have f3:=λK=>f.f (K:=K) (j:=3) (v:=.int .i64 A.rnd) rfl;have f4:=λK=>f.f (K:=K) (j:=4) (v:=.int .i64 A.ste) rfl;have f5:=λK=>f.f (K:=K) (j:=5) (v:=.slice (some ⟨bb,0,none⟩) A.n A.n) rfl;have W:=L.n;simp[As Tryz.underlying96,f0,f1,f2,f3,f4,f5];refine⟨_,Ro _ _ _ _ _ _ rfl rfl rfl rfl rfl rfl,λq J=>?_⟩
 have o:OB 3 1 h 6 ((Ck A 0).map iv) (ins h q (.cells #[.int .i64 A.sup,.int .i64 A.sta,.int .i64 A.stp,.int .i64 A.rnd,.int .i64 A.ste,.int .i64 A.n] 3)) (.slice (some ⟨q,0,none⟩) 6 6):=
  ⟨AT _ J,rfl,.inr ⟨q,_,6,rfl,AD _ _ _,J,rfl,by omega,rfl⟩⟩
 have E:=f.sub o.sub;have T:=λK=>E.f (K:=K) (j:=5) (v:=.slice (some ⟨bb,0,none⟩) A.n A.n) rfl;simp only[T,BQ];refine AL (λm I g=>∃(i:Nat) (s:Value),I=(s,.int .i64 i)/\m=A.n-i/\i<=A.n/\OB 3 1 h (6+i*2) ((Ck A i).map iv) g s) A.n ⟨0,_,rfl,rfl,by omega,o⟩ ?_;rintro m I g ⟨i,s,rfl,rfl,hi,ob⟩
 by_cases D:i<A.n
 ·have key:∀(x:V2->V2->PH->Prop) Kp H,(∀w n,OB 3 1 h (6+(i+1)*2) ((Ck A (i+1)).map iv) w n->x (.slice (some ⟨bb,0,none⟩) A.n A.n,.int .i64 A.n) (n,.int .i64 ((i:Int)+1)) w) ->
    U6 Kp H (.slice (some ⟨bb,0,none⟩) A.n A.n,.int .i64 A.n) x (s,.int .i64 i) g:=by
   intro x Kp H B;unfold U6 ivW;have z:(i:Int)<(A.n:Int):=by omega
   simp only[AC,z,B6,AB];refine nT ?_;refine Lg (f.sub ob.sub) D λc Q=>?_;have V:(#[.int .i64 (A.was i),.int .i64 (A.now i)]:Array Value)[0]?=some (.int .i64 (A.was i)):=rfl;have U:(#[.int .i64 (A.was i),.int .i64 (A.now i)]:Array Value)[1]?=some (.int .i64 (A.now i)):=rfl;have b:=ob.up (AT (.cells #[.int .i64 (A.was i),.int .i64 (A.now i)] 157 (0,0)) Q);have d:ins g c (.cells #[.int .i64 (A.was i),.int .i64 (A.now i)] 157 (0,0)) c=some _:=AD _ _ _;revert b d;generalize ins g c (.cells #[.int .i64 (A.was i),.int .i64 (A.now i)] 157 (0,0))=G;intro b d;simp[A5 d V,A5 d U];refine⟨_,LU _ _ rfl rfl,λr u=>?_⟩
   refine Db (m:=2) (news:=[A.was i,A.now i].map iv) (b.up (AT _ u)) (by simp only[roomBytes];omega) (by omega) rfl
    (λK' C=>.inr (.inr ⟨rfl,r,0,2,2,_,_,_,rfl,AD _ _ _,by simp,MN (l:=[A.was i,A.now i]),C⟩)) (λb' off l Y P X cap t=>?_) λw n k=>?_
   ·cases P
    intro e
    rcases b.buf with⟨F,_⟩ | ⟨g',Z,N,F,M,_⟩
    ·rw[F]at t;cases t
    ·rw[F]at t;cases t;rw[<-e,u]at M;cases M
   ·rw[w64 (by omega) (by omega)]
    refine B _ _ ?_;rw[show 6+(i+1)*2=6+i*2+2 by omega];simp only[Ck,List.map_append];exact k
  exact key _ _ _ λw n k=>⟨rfl,A.n-(i+1),by omega,i+1,n,rfl,rfl,by omega,k⟩
 ·have e:i=A.n:=by omega
  subst e;unfold U6 ivW;simp;intro r u;rw[show r 3=_ from u];obtain⟨p,cap,rfl⟩:=GN ob;simp only[BQ];rw[show (6+A.n*2)=(Ck A A.n).length from (EQ A A.n).symm]at ob ⊢;rw[show @Va=WG from rfl];refine WF ob (HA L A.n (Nat.le_refl _)) (by rw[EQ];omega) ?_;intro O y;rw[show O 6=_ from y];exact⟨h,ob.sub,S⟩
end
section
variable {h:PH} {R:RT} {a bb:Nat} {A:Auc}
theorem MG {B:Auc} (c:Cm h a bb A) (b:C8 B=C8 A):Ci h a bb B=ins h a (.cells (KK B bb) 155 (0,0)):=by
 unfold Ci;rw[b,GC c.hb]
def nxt (A:Auc) (k:Nat):Auc:={A with rnd:=A.rnd+1,was:=λi=>if i<k then A.now i else A.was i}
theorem eV (A:Auc) (k:Nat):(nxt A k).setWas k (A.now k)=nxt A (k+1):=by
 unfold nxt Auc.setWas;simp only[Auc.mk.injEq,true_and];refine⟨?_,trivial⟩
 funext i
 by_cases e:i=k
 ·subst e;rw[if_pos rfl,if_pos (by omega)]
 ·rw[if_neg e]
  by_cases b:i<k
  ·rw[if_pos b,if_pos (by omega)]
  ·rw[if_neg b,if_neg (by omega)]
theorem eW (A:Auc):nxt A A.n = {A with rnd:=A.rnd+1,was:=λi=>if i<A.n then A.now i else A.was i}:=rfl
theorem VT (b:Cm h a bb A) (k:A.ok) (h0:A.ste=0) (c:R (.ret (.tuple #[.bool (AV A).1,.int .i64 0])) (Ci h a bb (AV A).2.2)):A7 Tryz.prog 147 #[ptr a] h R:=by
 refine iM ?_;unfold kb fL eXW ivW pnW;have f0:=λK=>b.f (K:=K) (j:=0) (v:=.int .i64 A.sup) rfl;have f2:=λK=>b.f (K:=K) (j:=2) (v:=.int .i64 A.stp) rfl;have f3:=λK=>b.f (K:=K) (j:=3) (v:=.int .i64 A.rnd) rfl;have f4:=λK=>b.f (K:=K) (j:=4) (v:=.int .i64 A.ste) rfl;have f5:=λK=>b.f (K:=K) (j:=5) (v:=.slice (some ⟨bb,0,none⟩) A.n A.n) rfl;have G:=k.n;have b1:=k.stp;have b2:=k.rndB;have H:=k.rnd;simp[As Tryz.underlying96,f4,h0,f0];refine La b k ?_;simp only[AK.elim];refine⟨by rw[f0],?_⟩;unfold AV at c;rw[if_neg (by simp[h0])]at c
 by_cases p:A.demand<=A.sup
 ·rw[if_pos p]at c
  simp[p];refine (Aw b.ha (by show 4<6;omega) rfl).2 ?_;rw[A5 (AD _ _ _) (v:=.int .i64 1) rfl];have n:=MG (B:={A with ste:=1}) b rfl;simp only at c;rw[n]at c;have l:KK {A with ste:=1} bb=(KK A bb).setIfInBounds 4 (.int .i64 1):=rfl;simp only[BB];rw[<-l];exact c
 rw[if_neg p]at c;simp[p,f2];rw[w64 (by omega) (by omega)];refine EN b k ?_;simp only[AK.elim];refine⟨by rw[f2],?_⟩
 by_cases o:1099511627776-A.stp<A.price
 ·rw[if_pos o]at c
  simp[o];refine (Aw b.ha (by show 4<6;omega) rfl).2 ?_;rw[A5 (AD _ _ _) (v:=.int .i64 2) rfl];have n:=MG (B:={A with ste:=2}) b rfl;simp only at c;rw[n]at c;have l:KK {A with ste:=2} bb=(KK A bb).setIfInBounds 4 (.int .i64 2):=rfl;simp only[BB];rw[<-l];exact c
 rw[if_neg o]at c;simp[o,f3];rw[w64 (by omega) (by omega)];refine (Aw b.ha (by show 3<6;omega) rfl).2 ?_
 have F:ins h a (.cells ((KK A bb).setIfInBounds 3 (.int .i64 (A.rnd+1))) 155 (0,0))=Ci h a bb (nxt A 0):=by
  rw[MG b (by unfold C8 Fu nxt;simp)];rfl
 rw[F];have w:Cm (Ci h a bb (nxt A 0)) a bb (nxt A 0):=b.put;have x:=λK=>w.f (K:=K) (j:=5) (v:=.slice (some ⟨bb,0,none⟩) A.n A.n) rfl;rw[x];simp only[BQ];refine AL (λm z g=>∃i:Nat,z = .int .i64 i/\m=A.n-i/\i<=A.n/\g=Ci h a bb (nxt A i)) A.n ⟨0,rfl,rfl,by omega,rfl⟩ ?_;rintro m z g ⟨i,rfl,rfl,hi,rfl⟩;have d:Cm (Ci h a bb (nxt A i)) a bb (nxt A i):=b.put
 by_cases f:i<A.n
 ·have key:∀(q:V2->Value->PH->Prop) Kp y,(q (ptr a,.int .i64 A.n) (.int .i64 ((i:Int)+1)) (Ci h a bb (nxt A (i+1)))) ->
    Pb Kp y (ptr a,.int .i64 A.n) q (.int .i64 i) (Ci h a bb (nxt A i)):=by
   intro q Kp y u;unfold Pb ivW;have t:(i:Int)<(A.n:Int):=by omega
   have x:=λK=>d.f (K:=K) (j:=5) (v:=.slice (some ⟨bb,0,none⟩) A.n A.n) rfl;have D:=λK=>Cm.o d (i:=i) f (K:=K);have s:i*2<(C8 (nxt A i)).size:=by rw[Bs];show i*2<A.n*2;omega
   simp[t,x,f,D];rw[w64 (by omega) (by omega)];refine (Aw d.hb s rfl).2 ?_;have n:(nxt A i).now i=A.now i:=rfl;rw[ND (A:=nxt A i) f,n,eV]
   have l:Ci h a bb (nxt A (i+1))=ins (Ci h a bb (nxt A i)) bb (.cells (C8 (nxt A (i+1))) 157 (0,0)):=by
    rw[<-Uu b.ne (nxt A i) (nxt A (i+1))]
    conv=>lhs;unfold Ci
    refine GC ?_;rw[Aq _ _ b.ne];exact d.ha
   rw[<-l];exact u
  exact key _ _ _ ⟨rfl,A.n-(i+1),by omega,i+1,rfl,rfl,by omega,rfl⟩
 ·have e:i=A.n:=by omega
  subst e;unfold Pb ivW;simp;intro r C;rw[show r 0=_ from C];have E:=λK=>d.f (K:=K) (j:=4) (v:=.int .i64 A.ste) rfl;simp[E,h0];rw[eW];exact c
def DE (g o:Nat->Int) (n:Int):Nat->Int
 | 0=>n
 | k+1=>if 0<DE g o n k/\o k<g k then DE g o n k-1 else DE g o n k
def base (g:Nat->Int) (n sum:Int) (i:Nat):Int:=if 0<sum then (n*g i).tdiv sum else 0
def Ce (g:Nat->Int) (n:Int) (k:Nat) (i:Nat):Int:=
 let o:=base g n (AS g k)
 let l:=n-AS o k
 if 0<DE g o l i/\o i<g i then o i+1 else o i
theorem Nb {g:Nat->Int} {n sum:Int} {i:Nat} (d:0<=n/\n<=1048576) (b:0<=g i/\g i<=1048576):0<=base g n sum i/\base g n sum i<=1099511627776:=by
 unfold base
 split
 ·have c:0<=n*g i:=Int.mul_nonneg d.1 b.1
  have e:n*g i<=1048576*1048576:=Int.mul_le_mul d.2 b.2 b.1 (by omega);rw[Int.tdiv_eq_ediv_of_nonneg c];refine⟨Int.ediv_nonneg c (by omega),?_⟩;have:=Int.ediv_le_self sum c;omega
 ·omega
theorem Kz {g:Nat->Int} {M:Int} (b:0<=M) {k:Nat} (h:∀i,i<k->0<=g i/\g i<=M) {j:Nat} (c:j<=k):0<=AS g j/\AS g j<=j*M:=Ib b j λi hi=>h i (by omega)
theorem OY (g o:Nat->Int) (n:Int):∀k:Nat,n-k<=DE g o n k/\DE g o n k<=n
 | 0=>by unfold DE;omega
 | k+1=>by
  have:=OY g o n k;unfold DE
  split <;> omega
def Dy (f z:Nat->Int) (j:Nat):Nat->Int:=λk=>if k<j then f k else z k
theorem Fz (f z:Nat->Int) (j:Nat):upF (Dy f z j) j (f j)=Dy f z (j+1):=by
 funext k
 unfold upF Dy
 by_cases e:k=j
 ·subst e;rw[if_pos rfl,if_pos (by omega)]
 ·rw[if_neg e]
  by_cases b:k<j
  ·rw[if_pos b,if_pos (by omega)]
  ·rw[if_neg b,if_neg (by omega)]
theorem Hy {f z:Nat->Int} {j:Nat} (c:f j=z j):Dy f z (j+1)=Dy f z j:=by
 funext k
 unfold Dy
 by_cases e:k=j
 ·subst e;rw[if_pos (by omega),if_neg (by omega),c]
 ·by_cases b:k<j
  ·rw[if_pos b,if_pos (by omega)]
  ·rw[if_neg b,if_neg (by omega)]
theorem Hz (f z:Nat->Int) (n:Nat):row (Dy f z n) n=row f n:=QI λk b=>if_pos b
theorem J2 (f z:Nat->Int):Dy f z 0=z:=by funext k;unfold Dy;rw[if_neg (by omega)]
theorem Vu (f z:Nat->Int) (j:Nat):Dy f z j j=z j:=if_neg (by omega)
theorem XD (f z:Nat->Int) (j:Nat):Dy f z (j+1) j=f j:=if_pos (by omega)
def more (g o:Nat->Int) (l:Int) (i:Nat):Int:=if 0<DE g o l i/\o i<g i then o i+1 else o i
theorem XM {s n:Nat} {g:Nat->Int} {m:Int} (W:E6 h s g n) (hn:n<=16) (U:0<=m/\m<=1048576) (I:∀i,i<n->0<=g i/\g i<=1048576) (Z:m<=AS g n)
  (hR:∀b,h b=none->R (.ret (.tuple #[.slice (some ⟨b,0,none⟩) n n,.int .i64 0])) (ins h b (Dm (Ce g m n) n))) :
  A7 Tryz.prog 176 #[.int .i64 m,.slice (some ⟨s,0,none⟩) n n] h R:=by
 refine gi ?_;unfold jx eXW gAW gGW ivW pnW;simp only[BQ];refine AL (λq B g'=>∃i:Nat,B=(.slice none 0 0,.int .i64 0,.int .i64 (AS g i),.int .i64 i)/\q=n-i/\i<=n/\g'=h) n ⟨0,rfl,rfl,by omega,rfl⟩ ?_;rintro q B g' ⟨i,rfl,rfl,hi,rfl⟩
 have bs:∀j,j<=n->0<=AS g j/\AS g j<=16777216:=λj F=>by
  have:=Kz (by omega) I F;omega
 by_cases D:i<n
 ·have key:∀(w:V4->V4->PH->Prop) Kp z Y,(w (.int .i64 m,.slice (some ⟨s,0,none⟩) n n,.slice (some ⟨s,0,none⟩) n n,.int .i64 n) (.slice none 0 0,.int .i64 0,.int .i64 (AS g (i+1)),.int .i64 ((i:Int)+1)) g') ->
    PS Kp z Y (.int .i64 m,.slice (some ⟨s,0,none⟩) n n,.slice (some ⟨s,0,none⟩) n n,.int .i64 n) w (.slice none 0 0,.int .i64 0,.int .i64 (AS g i),.int .i64 i) g':=by
   intro w Kp z Y c;unfold PS gAW gGW ivW;have l:(i:Int)<(n:Int):=by omega
   have L:=I i D;have h2:¬g i<0:=by omega
   have h3:¬1048576<g i:=by omega
   have h4:=bs i (by omega);simp[l,D,GM W D,h2,h3];rw[w64 (by omega) (by omega),w64 (by omega) (by omega)];exact c
  exact key _ _ _ _ ⟨rfl,n-(i+1),by omega,i+1,rfl,rfl,by omega,rfl⟩
 have e:i=n:=by omega
 subst e;unfold PS gAW gGW ivW;simp;intro r hr;simp only[Prod.mk.injEq]at hr;obtain⟨r0,r1,r4,r5,r6⟩:=hr;rw[r0,r1,r6];have c1:¬(16:Int)<(i:Int):=by omega
 have c2:¬m<0:=by omega
 have c3:¬1048576<m:=by omega
 have c4:¬AS g i<m:=by omega
 simp[c1,c2,c3,c4];refine⟨_,_,_,_,rfl,rfl,by omega,by omega,by omega,by omega,λb J=>?_⟩;have V:b≠s:=(Gt J W).symm;simp only[BR,LD];generalize hS:AS g i=S at *;have X:∀j,j<i->0<=base g m S j/\base g m S j<=1099511627776:=λj F=>Nb U (I j F)
 have O:∀j,j<=i->0<=AS (base g m S) j/\AS (base g m S) j<=17592186044416:=λj F=>by
  have:=Kz (by omega) X F;omega
 -- the first parting
 have p:∀(f:Nat->Int),E6 (ins g' b (Dm f i)) s g i:=λf=>by show ins _ _ _ _=_;rw[Aq _ _ V.symm];exact W
 refine AL (λq B M=>∃j:Nat,B=(.int .i64 (m-AS (base g m S) j),.int .i64 j)/\q=i-j/\j<=i/\M=ins g' b (Dm (Dy (base g m S) (λ_=>0) j) i)) i ⟨0,by simp[AS],by omega,by omega,by rw[J2]⟩ ?_;rintro q B M ⟨j,rfl,rfl,F,rfl⟩
 by_cases u:j<i
 ·have key:∀(w:V6->V2->PH->Prop) Kp z,(w (.int .i64 m,.slice (some ⟨s,0,none⟩) i i,.int .i64 S,.slice (some ⟨b,0,none⟩) i i,.slice (some ⟨s,0,none⟩) i i,.int .i64 i) (.int .i64 (m-AS (base g m S) (j+1)),.int .i64 ((j:Int)+1)) (ins g' b (Dm (Dy (base g m S) (λ_=>0) (j+1)) i))) ->
    Ln Kp z (.int .i64 m,.slice (some ⟨s,0,none⟩) i i,.int .i64 S,.slice (some ⟨b,0,none⟩) i i,.slice (some ⟨s,0,none⟩) i i,.int .i64 i) w (.int .i64 (m-AS (base g m S) j),.int .i64 j) (ins g' b (Dm (Dy (base g m S) (λ_=>0) j) i)):=by
   intro w Kp z c;unfold Ln ivW;have l:(j:Int)<(i:Int):=by omega
   have L:=I j u;have h4:=O j (by omega);have h5:=X j u;simp[l,u,GM (p _) u];have y:IntKind.i64.wrap ((j:Int)+1)=(j:Int)+1:=w64 (by omega) (by omega);rw[y];refine⟨λH=>?_,λhneg=>?_⟩
   ·have E:base g m S j=(m*g j).tdiv S:=by unfold base;rw[if_pos H]
    have hmg1:0<=m*g j:=Int.mul_nonneg U.1 L.1;have hmg2:m*g j<=1048576*1048576:=Int.mul_le_mul U.2 L.2 L.1 (by omega);rw[w64 (x:=m*g j) (by omega) (by omega),Fx _ _ _ _ (by omega),<-E,w64 (by omega) (by omega)];rw[ME (AD _ _ _) u,An,Fz (base g m S) (λ_=>0) j];rw[GM (AD _ _ _) u,XD];simp;rw[w64 (by omega) (by omega)];rw[show m-AS (base g m S) j-base g m S j=m-AS (base g m S) (j+1)by simp only[AS];omega];exact c
   ·have E:base g m S j=0:=by unfold base;rw[if_neg (by omega)]
    have h6:AS (base g m S) (j+1)=AS (base g m S) j:=by simp only[AS];omega
    rw[h6]at c;rw[Hy E]at c;exact c
  exact key _ _ _ ⟨rfl,i-(j+1),by omega,j+1,by simp,by omega,by omega,rfl⟩
 have e:j=i:=by omega
 subst e;unfold Ln ivW;simp;intro r2 G;simp only[Prod.mk.injEq]at G;obtain⟨q1,q9,P⟩:=G;rw[q1,q9,P];simp only[BQ];unfold Dm;rw[Hz];generalize hL:m-AS (base g m S) j=L0 at *;have bL:-17592186044416<=L0/\L0<=1048576:=by have:=O j (by omega);omega
 -- one by one
 refine AL (λq B M=>∃t:Nat,B=(.int .i64 (DE g (base g m S) L0 t),.int .i64 t)/\q=j-t/\t<=j/\M=ins g' b (Dm (Dy (more g (base g m S) L0) (base g m S) t) j)) j ⟨0,by simp[DE],by omega,by omega,by rw[J2]⟩ ?_;rintro q B M ⟨t,rfl,rfl,ht,rfl⟩
 by_cases d:t<j
 ·have key:∀(w:V3->V2->PH->Prop) Kp z,(w (.slice (some ⟨b,0,none⟩) j j,.slice (some ⟨s,0,none⟩) j j,.int .i64 j) (.int .i64 (DE g (base g m S) L0 (t+1)),.int .i64 ((t:Int)+1)) (ins g' b (Dm (Dy (more g (base g m S) L0) (base g m S) (t+1)) j))) ->
    Lm Kp z (.slice (some ⟨b,0,none⟩) j j,.slice (some ⟨s,0,none⟩) j j,.int .i64 j) w (.int .i64 (DE g (base g m S) L0 t),.int .i64 t) (ins g' b (Dm (Dy (more g (base g m S) L0) (base g m S) t) j)):=by
   intro w Kp z c;unfold Lm gAW gGW ivW;have l:(t:Int)<(j:Int):=by omega
   have L:=I t d;have h4:=OY g (base g m S) L0 t;have h5:=X t d;have y:IntKind.i64.wrap ((t:Int)+1)=(t:Int)+1:=w64 (by omega) (by omega);have C:=λK=>GM (K:=K) (AD g' b (Dm (Dy (more g (base g m S) L0) (base g m S) t) j)) d;simp only[Vu]at C;have e1:DE g (base g m S) L0 (t+1)=if 0<DE g (base g m S) L0 t/\base g m S t<g t then DE g (base g m S) L0 t-1 else DE g (base g m S) L0 t:=rfl
   rw[e1]at c
   by_cases o:0<DE g (base g m S) L0 t
   ·by_cases v:base g m S t<g t
    ·rw[if_pos ⟨o,v⟩]at c
     simp[l,d,GM (p _) d,o,C,v];rw[w64 (x:=base g m S t+1) (by omega) (by omega),ME (AD _ _ _) d,An,w64 (by omega) (by omega),y];have N:more g (base g m S) L0 t=base g m S t+1:=if_pos ⟨o,v⟩;rw[<-N,Fz (more g (base g m S) L0) (base g m S) t];exact c
    ·rw[if_neg (λh=>v h.2)]at c
     simp[l,d,GM (p _) d,o,C,v];rw[y];have N:more g (base g m S) L0 t=base g m S t:=if_neg λh=>v h.2;rw[Hy N]at c;exact c
   ·rw[if_neg (λh=>o h.1)]at c
    simp[l,d,GM (p _) d,o];rw[y];have N:more g (base g m S) L0 t=base g m S t:=if_neg λh=>o h.1;rw[Hy N]at c;exact c
  exact key _ _ _ ⟨rfl,j-(t+1),by omega,t+1,by simp,by omega,by omega,rfl⟩
 have e:t=j:=by omega
 subst e;unfold Lm gAW gGW ivW;simp;intro r3 T;rw[show r3 9=_ from T];have:=hR b J
 have Q:row (more g (base g m S) L0) t=row (Ce g m t) t:=QI λk hk=>by
  unfold Ce more;simp only[hS,hL]
 unfold Dm;rw[Hz,Q];exact this
end
def BD (A:Auc):Int×(Nat->Int):=
 if A.ste=2 then (0,λ_=>0)else if A.rnd=1\/A.sup-A.demand=0 then (A.price,A.now)
 else (A.price-A.stp,λi=>A.now i+Ce (λk=>A.was k-A.now k) (A.sup-A.demand) A.n i)
theorem J8 (f g:Nat->Int):∀n,AS (λk=>f k-g k) n=AS f n-AS g n
 | 0=>rfl
 | n+1=>by simp only[AS,J8 f g n];omega
section
variable {h:PH} {R:RT} {a bb:Nat} {A:Auc}
theorem MB {g:Nat->Int} {m:Int} {n i:Nat} (b:0<=m/\m<=1048576) (c:∀i,i<n->0<=g i/\g i<=1048576) (hi:i<n):0<=Ce g m n i/\Ce g m n i<=1099511627777:=by
 have:=Nb (sum:=AS g n) b (c i hi);unfold Ce;simp only
 split <;> omega
theorem VS (H:Cm h a bb A) (p:A.ok) (I:A.ste=2\/A.ste=1/\A.demand<=A.sup)
  (M:∀b g,h b=none->Sub h g->E6 g b (BD A).2 A.n->R (.ret (.tuple #[.int .i64 (BD A).1,.slice (some ⟨b,0,none⟩) A.n A.n,.int .i64 0])) g) :
  A7 Tryz.prog 148 #[ptr a] h R:=by
 refine iL ?_;unfold ka eXW gAW gGW ivW pnW;have f0:=λg (I:Sub h g) K=>(H.sub I).f (K:=K) (j:=0) (v:=.int .i64 A.sup) rfl;have f2:=λg (I:Sub h g) K=>(H.sub I).f (K:=K) (j:=2) (v:=.int .i64 A.stp) rfl;have f3:=λg (I:Sub h g) K=>(H.sub I).f (K:=K) (j:=3) (v:=.int .i64 A.rnd) rfl;have f4:=λg (I:Sub h g) K=>(H.sub I).f (K:=K) (j:=4) (v:=.int .i64 A.ste) rfl;have f5:=λg (I:Sub h g) K=>(H.sub I).f (K:=K) (j:=5) (v:=.slice (some ⟨bb,0,none⟩) A.n A.n) rfl;have hn:=p.n;have b0:=p.sup;have b1:=p.stp;have b2:=p.sumB p.now (Nat.le_refl _);have b3:=p.priceB;have W:¬A.ste=0:=by omega
 simp[As Tryz.underlying96,f4 h (Sub.refl h),f5 h (Sub.refl h),W];refine⟨_,_,_,_,rfl,rfl,by omega,by omega,by omega,by omega,λb V=>?_⟩;have m:Sub h (ins h b (Dm (λ_=>0) A.n)):=AT _ V;simp only[BR,LD];rw[f4 _ m];unfold BD at M
 by_cases h2:A.ste=2
 ·rw[if_pos h2]at M
  simp[h2];exact M b _ V m (AD _ _ _)
 rw[if_neg h2]at M;have hle:A.demand<=A.sup:=by omega
 simp[h2,f0 _ m];refine La (H.sub m) p ?_;simp only[AK.elim];refine⟨by rw[f0 _ m],?_⟩;unfold Auc.demand at hle M ⊢;simp only[Ao,BO,AH,f3 _ m,BC,AZ];rw[w64 (by omega) (by omega)]
 have cpy:∀(G:PH),Sub h G->E6 G b (λ_=>0) A.n->A.rnd=1\/A.sup-AS A.now A.n=0->∀(x:V2->PH->Prop) Kp,(∀g,Sub h g->E6 g b A.now A.n->x (ptr a,.slice (some ⟨b,0,none⟩) A.n A.n) g) ->
   lf (Iu Kp x) (ptr a,.slice (some ⟨b,0,none⟩) A.n A.n,.slice (some ⟨bb,0,none⟩) A.n A.n,.int .i64 A.n) (.int .i64 0) G:=by
  intro G hG S F x Kp hx;refine AL (λq O g=>∃i:Nat,O = .int .i64 i/\q=A.n-i/\i<=A.n/\Sub h g/\E6 g b (Dy A.now (λ_=>0) i) A.n) A.n ⟨0,rfl,by omega,by omega,hG,by rw[J2];exact S⟩ ?_;rintro q O g ⟨i,rfl,rfl,hi,o,n⟩
  by_cases t:i<A.n
  ·have key:∀(y:V4->Value->PH->Prop) Kp x,(∀u,Sub h u->E6 u b (Dy A.now (λ_=>0) (i+1)) A.n->y (ptr a,.slice (some ⟨b,0,none⟩) A.n A.n,.slice (some ⟨bb,0,none⟩) A.n A.n,.int .i64 A.n) (.int .i64 ((i:Int)+1)) u) ->
     Iu Kp x (ptr a,.slice (some ⟨b,0,none⟩) A.n A.n,.slice (some ⟨bb,0,none⟩) A.n A.n,.int .i64 A.n) y (.int .i64 i) g:=by
    intro y Kp x D;unfold Iu KX ivW;have C:(i:Int)<(A.n:Int):=by omega
    simp only[AC,C,B6,AB];refine nT ?_;refine Lg (H.sub o) t λc F=>?_;have f:=AT (.cells #[.int .i64 (A.was i),.int .i64 (A.now i)] 157 (0,0)) F;have l:ins g c (.cells #[.int .i64 (A.was i),.int .i64 (A.now i)] 157 (0,0)) c=some _:=AD _ _ _;revert f l;generalize ins g c (.cells #[.int .i64 (A.was i),.int .i64 (A.now i)] 157 (0,0))=G2;intro f l;have e1:(#[.int .i64 (A.was i),.int .i64 (A.now i)]:Array Value)[1]?=some (.int .i64 (A.now i)):=rfl;simp[A5 l e1,t,ME (f _ _ n) t];rw[w64 (by omega) (by omega),Fz];refine D _ (Sub.put (o.trans f) V) (AD _ _ _)
   exact key _ _ _ λu f s=>⟨rfl,A.n-(i+1),by omega,i+1,rfl,rfl,by omega,f,s⟩
  ·have e:i=A.n:=by omega
   subst e;unfold Iu KX ivW;simp;refine hx _ o ?_;unfold E6 at n ⊢;rw[Hz]at n;exact n
 have U:A.rnd=1\/A.sup-AS A.now A.n=0->lf (Iu (λc h=>R (.pan c) h) (λv h=>exq (λρ=>(ρ 0,ρ 5)) v (λr h_5=>
   AA Tryz.prog 109 #[(r 0)] h_5 (λt68 h_6=>R (.ret (.tuple #[t68,(r 5),(.int .i64 0)])) h_6) (λc h=>R (.pan c) h)) h)) (ptr a,.slice (some ⟨b,0,none⟩) A.n A.n,.slice (some ⟨bb,0,none⟩) A.n A.n,.int .i64 A.n) (.int .i64 0) (ins h b (Dm (λ_=>0) A.n)):=λF=>by
  rw[if_pos F]at M;refine cpy _ m (AD _ _ _) F _ _ λg o n=>?_;intro r S;simp only[Prod.mk.injEq]at S;obtain⟨r0,r5⟩:=S;rw[r0,r5];refine EN (H.sub o) p ?_;simp only[AK.elim];exact M b _ V o n
 by_cases h3:A.rnd=1
 ·simp[h3,f5 _ m]
  exact U (.inl h3)
 by_cases h4:A.sup-AS A.now A.n=0
 ·simp[h3,h4,f5 _ m]
  exact U (.inr h4)
 rw[if_neg (by simp[h3,h4])]at M;clear cpy U;have hmore:=p.more (by have:=p.rnd;omega);have T:=p.fall (by have:=p.rnd;omega)
 have E:∀i,i<A.n->0<=A.was i-A.now i/\A.was i-A.now i<=1048576:=λi hi=>by
  have:=p.was i hi;have:=p.now i hi;have:=T i hi;omega
 simp[h3,h4,f5 _ m];refine⟨_,_,_,_,rfl,rfl,by omega,by omega,by omega,by omega,λb' hb'=>?_⟩;simp only[BR,LD];obtain⟨hb1,Z⟩:=JH hb';have Y:Sub h (ins (ins h b (Dm (λ_=>0) A.n)) b' (Dm (λ_=>0) A.n)):=Sub.put m hb1;rw[f5 _ Y];simp only[BQ]
 refine AL (λq O g=>∃i:Nat,O = .int .i64 i/\q=A.n-i/\i<=A.n/\Sub h g/\E6 g b (λ_=>0) A.n/\E6 g b' (Dy (λk=>A.was k-A.now k) (λ_=>0) i) A.n) A.n
  ⟨0,rfl,by omega,by omega,Y,by show ins _ _ _ _=_;rw[Aq _ _ Z.symm];exact AD _ _ _,by rw[J2];exact AD _ _ _⟩ ?_
 rintro q O g ⟨i,rfl,rfl,hi,o,hr1,n⟩
 by_cases t:i<A.n
 ·have key:∀(y:V6->Value->PH->Prop) Kp x,(∀u,Sub h u->E6 u b (λ_=>0) A.n->E6 u b' (Dy (λk=>A.was k-A.now k) (λ_=>0) (i+1)) A.n->y (ptr a,.slice (some ⟨b,0,none⟩) A.n A.n,.int .i64 (A.sup-AS A.now A.n),.slice (some ⟨b',0,none⟩) A.n A.n,.slice (some ⟨bb,0,none⟩) A.n A.n,.int .i64 A.n) (.int .i64 ((i:Int)+1)) u) ->
    Lp Kp x (ptr a,.slice (some ⟨b,0,none⟩) A.n A.n,.int .i64 (A.sup-AS A.now A.n),.slice (some ⟨b',0,none⟩) A.n A.n,.slice (some ⟨bb,0,none⟩) A.n A.n,.int .i64 A.n) y (.int .i64 i) g:=by
   intro y Kp x D;unfold Lp ivW;have C:(i:Int)<(A.n:Int):=by omega
   simp only[AC,C,B6,AB];refine nT ?_;refine Lg (H.sub o) t λc F=>?_;have f:=AT (.cells #[.int .i64 (A.was i),.int .i64 (A.now i)] 157 (0,0)) F;have l:ins g c (.cells #[.int .i64 (A.was i),.int .i64 (A.now i)] 157 (0,0)) c=some _:=AD _ _ _;revert f l;generalize ins g c (.cells #[.int .i64 (A.was i),.int .i64 (A.now i)] 157 (0,0))=G2;intro f l;have e0:(#[.int .i64 (A.was i),.int .i64 (A.now i)]:Array Value)[0]?=some (.int .i64 (A.was i)):=rfl;have e1:(#[.int .i64 (A.was i),.int .i64 (A.now i)]:Array Value)[1]?=some (.int .i64 (A.now i)):=rfl;have hgp:=E i t;have Q:IntKind.i64.wrap (A.was i-A.now i)=A.was i-A.now i:=w64 (by omega) (by omega);have P:IntKind.i64.wrap ((i:Int)+1)=(i:Int)+1:=w64 (by omega) (by omega);simp[A5 l e0,A5 l e1,t,Q,P,ME (f _ _ n) t];rw[Fz (λk=>A.was k-A.now k) (λ_=>0) i];refine D _ (Sub.put (o.trans f) hb1) ?_ (AD _ _ _);show ins _ _ _ _=_;rw[Aq _ _ Z.symm];exact f _ _ hr1
  exact key _ _ _ λu f s w=>⟨rfl,A.n-(i+1),by omega,i+1,rfl,rfl,by omega,f,s,w⟩
 have e:i=A.n:=by omega
 generalize hN:A.n=N at *;subst e;unfold Lp ivW;simp;intro r S;simp only[Prod.mk.injEq]at S;obtain⟨r0,r5,r6,r9⟩:=S;rw[r0,r5,r6,r9];unfold E6 at n;rw[Hz]at n;have hm:0<=A.sup-AS A.now i/\A.sup-AS A.now i<=1048576:=by omega
 refine XM n (by omega) hm E (by rw[J8];omega) λc F=>?_;simp only[AK.elim,Av,Au];have J:Sub h (ins g c (Dm (Ce (λk=>A.was k-A.now k) (A.sup-AS A.now i) i) i)):=o.trans (AT _ F);have B:E6 (ins g c (Dm (Ce (λk=>A.was k-A.now k) (A.sup-AS A.now i) i) i)) b (λ_=>0) i:=(AT _ F) _ _ hr1;have z:E6 (ins g c (Dm (Ce (λk=>A.was k-A.now k) (A.sup-AS A.now i) i) i)) c (Ce (λk=>A.was k-A.now k) (A.sup-AS A.now i) i) i:=AD _ _ _;have hcb:c≠b:=(Gt F hr1).symm;revert J B z;generalize ins g c (Dm (Ce (λk=>A.was k-A.now k) (A.sup-AS A.now i) i) i)=G0;intro J B z;simp only[BO,AH,Ad];rw[f5 _ J];simp only[BQ];have X:∀j,j<i->0<=Ce (λk=>A.was k-A.now k) (A.sup-AS A.now i) i j/\Ce (λk=>A.was k-A.now k) (A.sup-AS A.now i) i j<=1099511627777:=λj hj=>MB hm E hj;generalize hSH:Ce (λk=>A.was k-A.now k) (A.sup-AS A.now i) i=SH at *
 refine AL (λq O g=>∃j:Nat,O = .int .i64 j/\q=i-j/\j<=i/\Sub h g/\E6 g c SH i/\E6 g b (Dy (λk=>A.now k+SH k) (λ_=>0) j) i) i
  ⟨0,rfl,by omega,by omega,J,z,by rw[J2];exact B⟩ ?_
 rintro q O g3 ⟨j,rfl,rfl,hj,hsg3,w,hrw3⟩
 by_cases L:j<i
 ·have key:∀(y:V5->Value->PH->Prop) Kp x,(∀u,Sub h u->E6 u c SH i->E6 u b (Dy (λk=>A.now k+SH k) (λ_=>0) (j+1)) i->y (ptr a,.slice (some ⟨b,0,none⟩) i i,.slice (some ⟨c,0,none⟩) i i,.slice (some ⟨bb,0,none⟩) i i,.int .i64 i) (.int .i64 ((j:Int)+1)) u) ->
    Lo Kp x (ptr a,.slice (some ⟨b,0,none⟩) i i,.slice (some ⟨c,0,none⟩) i i,.slice (some ⟨bb,0,none⟩) i i,.int .i64 i) y (.int .i64 j) g3:=by
   intro y Kp x D;unfold Lo ivW;have C:(j:Int)<(i:Int):=by omega
   simp only[AC,C,B6,AB];refine nT ?_;have bc:=λK p=>Lg (K:=K) (H.sub hsg3) (i:=j) (by omega) p;rw[hN]at bc;refine bc _ λd hd=>?_;have f:=AT (.cells #[.int .i64 (A.was j),.int .i64 (A.now j)] 157 (0,0)) hd;have l:ins g3 d (.cells #[.int .i64 (A.was j),.int .i64 (A.now j)] 157 (0,0)) d=some _:=AD _ _ _;revert f l;generalize ins g3 d (.cells #[.int .i64 (A.was j),.int .i64 (A.now j)] 157 (0,0))=G2;intro f l;have e1:(#[.int .i64 (A.was j),.int .i64 (A.now j)]:Array Value)[1]?=some (.int .i64 (A.now j)):=rfl;have hgp:=p.now j (by omega);have hsp:=X j L;have Q:IntKind.i64.wrap (A.now j+SH j)=A.now j+SH j:=w64 (by omega) (by omega);have P:IntKind.i64.wrap ((j:Int)+1)=(j:Int)+1:=w64 (by omega) (by omega);simp[A5 l e1,L,GM (f _ _ w) L,Q,P,ME (f _ _ hrw3) L];rw[Fz (λk=>A.now k+SH k) (λ_=>0) j];refine D _ (Sub.put (hsg3.trans f) V) ?_ (AD _ _ _);show ins _ _ _ _=_;rw[Aq _ _ hcb];exact f _ _ w
  exact key _ _ _ λu f s w=>⟨rfl,i-(j+1),by omega,j+1,rfl,rfl,by omega,f,s,w⟩
 have e:j=i:=by omega
 subst e;unfold Lo ivW;simp;intro r2 s;simp only[Prod.mk.injEq]at s;obtain⟨q0,q5⟩:=s;rw[q0,q5];simp only[BO,AH,Ad];rw[f2 _ hsg3];refine EN (H.sub hsg3) p ?_;simp only[AK.elim];refine⟨by rw[f2 _ hsg3],?_⟩;simp only[Ao];rw[w64 (by omega) (by omega)];unfold E6 at hrw3;rw[Hz]at hrw3;exact M b g3 V hsg3 hrw3
end
structure OS (e:TypeId) (esz:Nat) (s:Value) (n:Nat) (l:List Value) (h:PH):Prop where
 len:l.length=n*esz
 buf:(s = .slice none 0 0/\n=0/\l = [])\/∃g c cap,s = .slice (some ⟨g,0,none⟩) n cap/\h g=some (.cells c e (0,0))/\c.size=cap*esz/\n<=cap/\c.toList.take (n*esz)=l
section
variable {h g:PH} {e:TypeId} {esz n:Nat} {l:List Value} {s:Value} {C:PH->Prop}
theorem OS.mono:C3 (OS e esz s n l):=λh g d b=>⟨b.len,by
 rcases b.buf with a | ⟨g,c,cap,a1,a2,a3⟩
 ·exact .inl a
 ·exact .inr ⟨g,c,cap,a1,d _ _ a2,a3⟩⟩
theorem Iw (H:(OS e esz s n l•C) h):∃h0,C h0/\OB e esz h0 n l h s:=by
 obtain⟨j,i,d,f,b,o,c⟩:=H;refine⟨i,c,b,o.len,?_⟩
 rcases o.buf with a | ⟨g,c,cap,a1,a2,a3⟩
 ·exact .inl a
 ·exact .inr ⟨g,c,cap,a1,f _ _ a2,d g (by rw[a2];simp),a3⟩
theorem D0 {h0:PH} (i:C h0) (a:OB e esz h0 n l h s):(OS e esz s n l•C) h:=by
 rcases a.buf with⟨rfl,rfl,rfl⟩ | ⟨g,c,cap,rfl,j,f,k⟩
 ·exact⟨λ_=>none,h0,λb d=>absurd rfl d,(λb o d=>by simp at d),a.sub,⟨a.len,.inl ⟨rfl,rfl,rfl⟩⟩,i⟩
 ·refine⟨one g (.cells c e (0,0)),h0,λb d=>?_,Ja j,a.sub,⟨a.len,.inr ⟨g,c,cap,rfl,AD _ _ _,k⟩⟩,i⟩
  by_cases e:b=g
  ·subst e;exact f
  ·exact absurd (by unfold one;rw[Aq _ _ e]) d
theorem OS.lens (o:OS e esz s n l h):∃p cap,s = .slice p n cap:=by
 rcases o.buf with⟨a,b,_⟩ | ⟨g,c,cap,a,_⟩
 ·exact⟨none,0,by rw[a,b]⟩
 ·exact⟨_,_,a⟩
theorem OS.get (o:OS e esz s n l h) (k:0<n):∃g c cap,s = .slice (some ⟨g,0,none⟩) n cap/\h g=some (.cells c e (0,0))/\n*esz<=c.size/\∀j,j<n*esz->c[j]?=l[j]?:=by
 rcases o.buf with⟨_,h0,_⟩ | ⟨g,c,cap,rfl,i,d,b,a⟩
 ·omega
 ·refine⟨g,c,cap,rfl,i,by rw[d];exact Nat.mul_le_mul_right _ b,λj f=>?_⟩
  rw[<-a,List.getElem?_take,if_pos f,Array.getElem?_toList]
end
section
variable {P:Program} {K:Value->Prop}
theorem Rp (d:Nat) {t e:TypeId} (b:P.underlying t=some (.slice e)) (a:Option Addr) (l c:Nat):Az P (Op.equalIn (d+1) t (.slice a l c) (.slice none 0 0))=some a.isNone:=by
 rw[Op.equalIn];exact Dh (DU b) (by cases a <;> rfl)
theorem Px {t e:TypeId} (b:P.underlying t=some (.slice e)) (a:Option Addr) (l c:Nat):A6 P .eql t (.slice a l c) (.slice none 0 0) K↔K (.bool a.isNone):=
 NK (λx y=>DI (λ_=>by simp) (by simp)) rfl (Rp 9999 b a l c)
end
structure Ord where
 id:Int
 own:Int
 pr:Int
 am:Int
 pl:Int
 buys:Bool
deriving DecidableEq
def Ord.cells (o:Ord):List Value:=[.int .i64 o.id,.int .i64 o.own,.int .i64 o.pr,.int .i64 o.am,.int .i64 o.pl,.bool o.buys]
def Ord.a (o:Ord):Array Value:=#[.int .i64 o.id,.int .i64 o.own,.int .i64 o.pr,.int .i64 o.am,.int .i64 o.pl,.bool o.buys]
abbrev Ord.v (o:Ord):Value:=.agg o.a
def ordsC (l:List Ord):List Value:=l.flatMap Ord.cells
theorem Ew (l:List Ord):(ordsC l).length=l.length*6:=by
 unfold ordsC
 induction l with
 | nil=>rfl
 | cons a l ih=>rw[List.flatMap_cons,List.length_append,ih];simp[Ord.cells];omega
theorem MI (l m:List Ord):ordsC (l++m)=ordsC l++ordsC m:=by simp[ordsC]
theorem Cy {l:List Ord}:∀v∈ordsC l,v.oneCell'=true:=by
 intro v b;obtain⟨o,_,a⟩:=List.mem_flatMap.1 b;simp only[Ord.cells,List.mem_cons,List.not_mem_nil,or_false]at a
 rcases a with rfl | rfl | rfl | rfl | rfl | rfl <;> rfl
theorem Ex:∀(l:List Ord) (i:Nat) (o:Ord),l[i]?=some o->∀j,j<6->(ordsC l)[i*6+j]?=o.cells[j]?
 | [],i,o,h,_,_=>by simp at h
 | a::l,0,o,h,j,hj=>by
  simp only[List.getElem?_cons_zero,Option.some.injEq]at h;subst h;unfold ordsC;rw[List.flatMap_cons,List.getElem?_append_left (by show 0*6+j<6;omega),Nat.zero_mul,Ad]
 | a::l,i+1,o,h,j,hj=>by
  simp only[List.getElem?_cons_succ]at h;unfold ordsC;rw[List.flatMap_cons,List.getElem?_append_right (by show 6<=_;omega)];have:=Ex l i o h j hj;unfold ordsC at this;rw[<-this]
  congr 1
  show (i+1)*6+j-6=_;omega
def Df (h:PH) (s:Value) (l:List Ord):Prop:=OS 78 6 s l.length (ordsC l) h
theorem Ux {h:PH} {s:Value} {l:List Ord} (m:Df h s l) {i:Nat} {o:Ord} (f:l[i]?=some o):∃g c cap,s = .slice (some ⟨g,0,none⟩) l.length cap/\h g=some (.cells c 78 (0,0))/\i*6+6<=c.size/\c.extract (i*6) (i*6+6)=o.a /\
  ∀j v,o.a[j]?=some v->c[i*6+j]?=some v:=by
 have hi:i<l.length:=(Bc.1 f).1;obtain⟨g,c,cap,rfl,n,k,b⟩:=OS.get m (by omega)
 have d:∀j,j<6->c[i*6+j]?=o.a[j]?:=λj d=>by
  rw[b _ (by omega),Ex l i o f j d,show o.cells=o.a.toList from rfl,Array.getElem?_toList]
 refine⟨g,c,cap,rfl,n,by omega,?_,λj v e=>?_⟩
 ·apply Array.ext_getElem?
  intro j;rw[Array.getElem?_extract]
  rcases Nat.lt_or_ge j 6 with a | a
  ·rw[if_pos (by omega),d j a]
  ·rw[if_neg (by omega),D1 (show o.a.size<=j from a)]
 ·have a:j<6:=by
   rcases Nat.lt_or_ge j 6 with a | a
   ·exact a
   ·rw[D1 (show o.a.size<=j from a)]at e;cases e
  rw[d j a,e]
def B0 (o:Ord):Bool:=decide (0<=o.id/\o.id<=9007199254740992/\0<=o.own/\o.own<16/\0<=o.pr/\o.pr<=1099511627776/\1<=o.am/\o.am<=1048576)
def idx:List Ord->Int->Option Nat
 | [],_=>none
 | o::l,i=>if o.id=i then some 0 else (idx l i).map (· + 1)
def Rf (l:List Ord) (i:Int):Int:=match idx l i with | some k=>k | none=>-1
theorem Dt {i:Int}:∀{l:List Ord} {k:Nat},idx l i=some k->k<l.length/\(∃o,l[k]?=some o/\o.id=i)/\∀j,j<k->∀o,l[j]?=some o->o.id≠i
 | [],k,h=>by simp[idx]at h
 | a::l,k,h=>by
  unfold idx at h
  by_cases e:a.id=i
  ·rw[if_pos e]at h;cases h
   exact⟨by simp,⟨a,rfl,e⟩,λj c=>absurd c (by omega)⟩
  ·rw[if_neg e]at h
   obtain⟨m,d,rfl⟩:=Option.map_eq_some_iff.1 h;obtain⟨n,⟨o,g,f⟩,h4⟩:=Dt d;refine⟨by simp;omega,⟨o,by simpa using g,f⟩,λj c o b=>?_⟩
   match j with
   | 0=>simp at b;rw[<-b];exact e
   | j+1=>exact h4 j (by omega) o (by simpa using b)
theorem LQ {i:Int}:∀{l:List Ord},idx l i=none->∀o∈l,o.id≠i
 | [],_,o,ho=>by cases ho
 | a::l,h,o,ho=>by
  unfold idx at h
  by_cases e:a.id=i
  ·rw[if_pos e]at h;cases h
  ·rw[if_neg e]at h
   rcases List.mem_cons.1 ho with rfl | ho
   ·exact e
   ·exact LQ (Option.map_eq_none_iff.1 h) o ho
theorem aS {i:Int}:∀{l:List Ord} {k:Nat} {o:Ord},l[k]?=some o->o.id=i->(∀j,j<k->∀o,l[j]?=some o->o.id≠i)->idx l i=some k
 | [],k,o,h,_,_=>by simp at h
 | a::l,0,o,h,ho,_=>by
  simp at h;subst h;unfold idx;rw[if_pos ho]
 | a::l,k+1,o,h,ho,hj=>by
  unfold idx;rw[if_neg (hj 0 (by omega) a rfl),aS (k:=k) (by simpa using h) ho (λj c o' b=>hj (j+1) (by omega) o' (by simpa using b))]
  rfl
theorem WX {i:Int}:∀{l:List Ord},(∀(j:Nat) (o:Ord),l[j]?=some o->o.id≠i)->idx l i=none
 | [],_=>rfl
 | a::l,h=>by
  unfold idx;rw[if_neg (h 0 a rfl),WX λj o b=>h (j+1) o (by simpa using b)]
  rfl
section
variable {h:PH} {R:RT} {b:Nat} {s:Value} {l:List Ord} {n:Int}
theorem O3 {o:Ord} (y:R (.ret (.bool (B0 o))) h):A7 Tryz.prog 93 #[o.v] h R:=by
 refine A7.drop (nK ?_);unfold pK jq3 gGW ivW;refine Ai λc G z x f=>?_;have p:=λK=>A5 (K:=K) f (show o.a[0]?=some (.int .i64 o.id)from rfl);have m:=λK=>A5 (K:=K) f (show o.a[1]?=some (.int .i64 o.own)from rfl);have k:=λK=>A5 (K:=K) f (show o.a[2]?=some (.int .i64 o.pr)from rfl);have j:=λK=>A5 (K:=K) f (show o.a[3]?=some (.int .i64 o.am)from rfl);have a:∀{t:Bool},B0 o=t->(∃g,Sub g G/\R (.ret (.bool t)) g):=λ{t} e=>⟨h,x,by rw[<-e];exact y⟩
 by_cases d:0<=o.id
 ·by_cases i:o.id<=9007199254740992
  ·by_cases q:0<=o.own
   ·by_cases r:o.own<16
    ·by_cases u:0<=o.pr
     ·by_cases v:o.pr<=1099511627776
      ·by_cases w:1<=o.am
       ·simp[p,m,k,j,d,i,q,r,u,v,w]
        exact a (by unfold B0;congr 1;simp[d,i,q,r,u,v,w])
       ·simp[p,m,k,j,d,i,q,r,u,v,w]
        exact a (by simp[B0,w])
      ·simp[p,m,k,j,d,i,q,r,u,v]
       exact a (by simp[B0,v])
     ·simp[p,m,k,j,d,i,q,r,u]
      exact a (by simp[B0,u])
    ·simp[p,m,k,j,d,i,q,r]
     exact a (by simp[B0,r])
   ·simp[p,m,k,j,d,i,q]
    exact a (by simp[B0,q])
  ·simp[p,m,k,j,d,i]
   exact a (by simp[B0,i])
 ·simp[p,m,k,j,d]
  exact a (by simp[B0,d])
theorem fO {o:Ord} {p:Nat} (g:h p=some (.cells #[.int .i64 n] 3 (0,0))) (i:R (.ret (.bool (decide (o.id=n)))) h):A7 Tryz.prog 143 #[o.v,ptr p] h R:=by
 refine A7.drop (iQ ?_);unfold kg;refine Ai λc G j d a=>?_;have f:=λK=>A5 (K:=K) a (show o.a[0]?=some (.int .i64 o.id)from rfl);have e:=λK=>A5 (K:=K) (d _ _ g) (show (#[.int .i64 n]:Array Value)[0]?=some (.int .i64 n)from rfl);simp[f,e];exact⟨h,d,i⟩
theorem VH {p:Nat} (D:Df h s l) (L:l.length<1000000) (H:h p=some (.cells #[.int .i64 n] 3 (0,0))) (k:R (.ret (.int .i64 (Rf l n))) h) :
  A7 Tryz.prog 142 #[s,.func (.func 143) #[] #[ptr p]] h R:=by
 refine Wp ?_;unfold Z9 eXW ivW pnW;obtain⟨C,cap,q⟩:=OS.lens D;rw[q];simp only[BQ];refine AL (λm B g'=>∃i:Nat,B=(.int .i64 0,.int .i64 i)/\m=l.length-i/\i<=l.length/\g'=h/\∀j,j<i->∀o,l[j]?=some o->o.id≠n) l.length ⟨0,rfl,rfl,by omega,rfl,λj F=>absurd F (by omega)⟩ ?_;rintro m B g' ⟨i,rfl,rfl,hi,rfl,hnot⟩
 by_cases y:i<l.length
 ·obtain⟨o,f⟩:∃o,l[i]?=some o:=⟨_,Bu y⟩
  have key:∀(v:V3->V2->PH->Prop) Kp A u,(o.id=n->u (.int .i64 i) g')->(o.id≠n->v (.slice C l.length cap,.func (.func 143) #[] #[ptr p],.int .i64 l.length) (.int .i64 0,.int .i64 ((i:Int)+1)) g') ->
    JN Kp A u (.slice C l.length cap,.func (.func 143) #[] #[ptr p],.int .i64 l.length) v (.int .i64 0,.int .i64 i) g':=by
   intro v Kp A u J K;unfold JN ivW;obtain⟨g,c,G,t,I,w,z,_⟩:=Ux D f;rw[q]at t;cases t;have x:(i:Int)<(l.length:Int):=by omega
   simp only[AC,x,B6,AB,B9];refine⟨λ_=>⟨by omega,by omega,?_⟩,λe=>absurd e (by simp)⟩;rw[show 0+(i:Int).toNat*6=i*6 by omega,AI I w,z];refine⟨_,_,_,rfl,?_⟩;refine fO H ?_;simp only[AK.elim,AB,CF,D9];refine⟨J,λd=>?_⟩;simp only[AG];rw[w64 (by omega) (by omega)];exact K d
  refine key _ _ _ _ (λt=>?_) (λd=>⟨rfl,l.length-(i+1),by omega,i+1,rfl,rfl,by omega,rfl,λj F o' a=>?_⟩)
  ·intro r E
   rw[show r 4=_ from E];have:=aS f t hnot;unfold Rf at k;rw[this]at k;exact k
  ·by_cases e:j=i
   ·subst e;rw[f]at a;cases a;exact d
   ·exact hnot j (by omega) o' a
 ·have e:i=l.length:=by omega
  subst e;unfold JN ivW;simp;intro r E;have:idx l n=none:=WX λj o f=>hnot j (Bc.1 f).1 o f;unfold Rf at k;rw[this]at k;exact k
abbrev DP (s:Value) (nx:Int):Obj:=.cells #[s,.int .i64 nx] 152 (0,0)
theorem Wy {nx:Int} (g:h b=some (DP s nx)) (f:Df h s l) (e:l.length<1000000) (i:R (.ret (.int .i64 (Rf l n))) h):A7 Tryz.prog 94 #[ptr b,.int .i64 n] h R:=by
 refine A7.drop (nJ ?_);unfold pJ pnW;refine Ai λc G j a d=>?_;have lb:=λK=>A5 (K:=K) (a _ _ g) (show (#[s,.int .i64 nx]:Array Value)[0]?=some s from rfl);simp[lb];refine VH (OS.mono _ _ a f) e d ?_;exact⟨h,a,i⟩
end
structure Bk where
 next:Int
 l:List Ord
deriving DecidableEq
structure Bk.ok (B:Bk):Prop where
 right:∀o∈B.l,B0 o=true
 ids:B.l.Pairwise λx y=>x.id≠y.id
 pls:B.l.Pairwise λx y=>x.pl<y.pl
 pl:∀o∈B.l,1<=o.pl/\o.pl<B.next
 len:B.l.length<=64
 nx:1<=B.next/\B.next<=9007199254740992
def BkP (b:Nat) (B:Bk):PH->Prop:=λh=>∃s,(OS 78 6 s B.l.length (ordsC B.l)•pt b (DP s B.next)) h
theorem BkP.mono {b:Nat} {B:Bk}:C3 (BkP b B):=λh g hs ⟨s,H⟩=>⟨s,EF H hs⟩
section
variable {h g:PH} {b:Nat} {B:Bk} {C:PH->Prop} {e:TypeId} {esz n:Nat} {l:List Value} {s:Value}
theorem VZ (H:BkP b B h):∃s,h b=some (DP s B.next)/\Df h s B.l:=by
 obtain⟨s,H⟩:=H;exact⟨s,AF (Ij _ _) H,AJ OS.mono H⟩
theorem Lf (H:(BkP b B•C) h):∃s h0,(pt b (DP s B.next)•C) h0/\OB 78 6 h0 B.l.length (ordsC B.l) h s:=by
 obtain⟨s,H⟩:=Nz.1 H;obtain⟨h0,c,a⟩:=Iw (ZD H);exact⟨s,h0,c,a⟩
theorem Jw {h0:PH} {s:Value} (c:(pt b (DP s B.next)•C) h0) (a:OB 78 6 h0 B.l.length (ordsC B.l) h s):(BkP b B•C) h:=by
 refine Nz.2 ⟨s,?_⟩;rw[Bf];exact D0 c a
theorem OB.ld {h0:PH} {b:Nat} {o:Obj} (a:OB e esz h0 n l h s) (c:h0 b=some o):h b=some o:=a.sub _ _ c
theorem OB.st {h0:PH} {b:Nat} {o p:Obj} (d:OB e esz h0 n l h s) (i:h0 b=some o):OB e esz (ins h0 b p) n l (ins h b p) s:=
 ⟨d.sub.both,d.len,by
  rcases d.buf with a | ⟨g,c,cap,a1,a2,a3,a4⟩
  ·exact .inl a
  ·have f:g≠b:=λe=>by rw[e,i]at a3;cases a3
   exact .inr ⟨g,c,cap,a1,by rw[Aq _ _ f];exact a2,by rw[Aq _ _ f];exact a3,a4⟩⟩
end
section
variable {h g:PH} {R:RT} {b:Nat} {l:List Ord} {s:Value}
theorem Ti (z:Df h s l) (F:l.length<=64) (r:∀g u,OB 78 6 h l.length (ordsC l) g u->R (.ret u) g):A7 Tryz.prog 91 #[s] h R:=by
 refine nL ?_;unfold pL CO FP
 rcases z.buf with⟨rfl,h0,C⟩ | ⟨D,c,cap,rfl,w,q,B,i⟩
 ·rw[Px Tryz.underlying69]
  simp;rw[h0,C]at r;exact r _ _ ⟨Sub.refl h,rfl,.inl ⟨rfl,rfl,rfl⟩⟩
 ·rw[Px Tryz.underlying69]
  simp;refine⟨_,rfl,λd p=>?_⟩;have a:=AT (.cells (rep #[Value.int .i64 0,.int .i64 0,.int .i64 0,.int .i64 0,.int .i64 0,.bool false] (0*6)) 78) p;have y:(rep #[Value.int .i64 0,.int .i64 0,.int .i64 0,.int .i64 0,.int .i64 0,.bool false] (0*6)).size=0:=by simp[rep]
  unfold Ab I3;refine .inr (.inr ⟨rfl,D,0,l.length,cap,c,_,(0,0),rfl,a _ _ w,by rw[q];omega,?_,?_⟩)
  ·rw[List.drop_zero,i];exact Cy
  ·rw[List.drop_zero,i]
   refine .inr (.inl ⟨d,0,0,_,rfl,AD _ _ _,by simp[rep],Nat.le_refl _,by simp only[roomBytes];omega,λt off E G f=>?_,λt n v e k j=>?_⟩)
   ·cases f
    exact Gt p w
   ·simp only[Nat.zero_mul,List.take_zero,List.nil_append,Ad]at j k ⊢
    have m:h t=none:=by
     rcases e with rfl | e
     ·exact p
     ·exact a.fresh e
    refine r _ _ ⟨Sub.put (λx o f=>?_) m,Ew l,.inr ⟨t,_,n,rfl,AD _ _ _,m,by simp only[List.size_toArray,List.length_append];exact j,k,?_⟩⟩
    ·unfold Eh
     cases A:Nat.beq x d
     ·exact a x o f
     ·rw[Nat.eq_of_beq_eq_true A,p]at f;cases f
    ·rw[<-Ew l];simp
end
def E4 (B:Bk) (o:Ord):Int×Bk:=
 if B0 o=false\/o.pl≠0 then (1,B)else if (idx B.l o.id).isSome then (63,B)else if B.l.length=64\/9007199254740992<=B.next then (2,B)
 else (0,{next:=B.next+1,l:=B.l ++ [{o with pl:=B.next}]})
theorem GF (o:Ord):Instr.fill (λi=>some (i*6,6)) (rep #[Value.int .i64 0,.int .i64 0,.int .i64 0,.int .i64 0,.int .i64 0,.bool false] (1*6)) [(0,o.v)]=some o.a:=by
 have e:Array.range 6=#[0,1,2,3,4,5]:=by decide
 simp[Instr.fill,rep,Value.cells,e,Ord.a]
theorem Gq (l:List Ord) (o:Ord):ordsC l++o.a.toList=ordsC (l ++ [o]):=by rw[MI];simp[ordsC,Ord.cells,Ord.a]
theorem Gv {l:List Ord} {n:Int} (a:idx l n=none):Rf l n = -1:=by unfold Rf;rw[a]
theorem FJ {l:List Ord} {n:Int} {k:Nat} (a:idx l n=some k):Rf l n=k:=by unfold Rf;rw[a]
section
variable {h g:PH} {R:RT} {b:Nat} {B:Bk} {C:PH->Prop}
theorem p7 {o:Ord} (H:(BkP b B•C) h) (hlen:B.l.length<=64) (hnx:1<=B.next/\B.next<=9007199254740992) (a:∀g,(BkP b (E4 B o).2•C) g->R (.ret (.int .i64 (E4 B o).1)) g) :
  A7 Tryz.prog 116 #[ptr b,o.v] h R:=by
 refine j0 ?_;unfold lH Rb CO FP gAW gGW ivW pnW;obtain⟨s,h0,W,S⟩:=Lf H;rw[show Value.cells o.v=o.a from rfl];refine AX λc w=>?_;have f:=AM W;have ob1:=S.up (AT (.cells o.a 78 (0,0)) w);have x:ins h c (.cells o.a 78 (0,0)) c=some (.cells o.a 78 (0,0)):=AD _ _ _;have T:Sub h (ins h c (.cells o.a 78 (0,0))):=AT _ w;have V:c≠b:=(Gt w (S.ld f)).symm;have M:(BkP b B•C) (ins h c (.cells o.a 78 (0,0))):=EF H T;unfold E4 at a;rw[As Tryz.underlying93];have Z:=λK=>AI (K:=K) x (off:=0) (n:=6) (by show 0+6<=6;omega);have X:o.a.extract 0 (0+6)=o.a:=rfl;rw[X]at Z;have l4:=λK=>A5 (K:=K) x (show o.a[4]?=some (.int .i64 o.pl)from rfl);have l0:=λK=>A5 (K:=K) x (show o.a[0]?=some (.int .i64 o.id)from rfl);simp[Z];refine O3 ?_;simp only[AK.elim];cases hr:B0 o with
 | false=>
  rw[if_pos (.inl hr)]at a;simp;exact a _ M
 | true=>
  by_cases t:o.pl=0
  ·rw[if_neg (by simp[hr,t])]at a
   simp[l4,t,l0];refine Wy (ob1.ld f) (AJ OS.mono (D0 W ob1)) (by omega) ?_;simp only[AK.elim];cases u:idx B.l o.id with
   | some k=>
    rw[u]at a;rw[FJ u];simp at a ⊢;exact a _ M
   | none=>
    rw[u]at a;rw[Gv u];have A:=λK=>A5 (K:=K) (ob1.ld f) (show (#[s,.int .i64 B.next]:Array Value)[0]?=some s from rfl);have L:=λK=>A5 (K:=K) (ob1.ld f) (show (#[s,.int .i64 B.next]:Array Value)[1]?=some (.int .i64 B.next)from rfl);obtain⟨p,cap,D⟩:=GN ob1
    by_cases N:B.l.length=64
    ·rw[if_neg (by simp),if_pos (.inl N)]at a
     simp[A,D,N];exact a _ M
    ·have h64':¬(B.l.length:Int)=64:=by omega
     by_cases q:9007199254740992<=B.next
     ·rw[if_neg (by simp),if_pos (.inr q)]at a
      simp[A,D,h64',L,q];exact a _ M
     ·rw[if_neg (by simp),if_neg (by omega)]at a
      simp[A,D,h64',L,q]
      -- the place
      refine (Aw x (by show 4<6;omega) rfl).2 ?_;have ea:o.a.setIfInBounds 4 (.int .i64 B.next)=({o with pl:=B.next}:Ord).a:=rfl;rw[ea,An];have z:=S.up (AT (.cells ({o with pl:=B.next}:Ord).a 78 (0,0)) w);have lb1':=λK=>A5 (K:=K) (z.ld f) (show (#[s,.int .i64 B.next]:Array Value)[1]?=some (.int .i64 B.next)from rfl);rw[lb1',AG,w64 (by omega) (by omega)];refine (Aw (z.ld f) (by show 1<2;omega) rfl).2 ?_;have eb:(#[s,.int .i64 B.next]:Array Value).setIfInBounds 1 (.int .i64 (B.next+1))=#[s,.int .i64 (B.next+1)]:=rfl;rw[eb];have j:=z.st f (p:=DP s (B.next+1));have i:(pt b (DP s (B.next+1))•C) (ins h0 b (DP s (B.next+1))):=Bb W
      have r:ins (ins h c (.cells ({o with pl:=B.next}:Ord).a 78 (0,0))) b (DP s (B.next+1)) c=some (.cells ({o with pl:=B.next}:Ord).a 78 (0,0)):=by
       rw[Aq _ _ V];exact AD _ _ _
      show A0 none _ (ins _ b (DP s (B.next+1))) _;revert j r i;generalize ins (ins h c (.cells ({o with pl:=B.next}:Ord).a 78 (0,0))) b (DP s (B.next+1))=G;generalize ins h0 b (DP s (B.next+1))=G0;intro j i r;rw[A5 (j.ld (AM i)) (show (#[s,.int .i64 (B.next+1)]:Array Value)[0]?=some s from rfl)];rw[AI r (off:=0) (n:=6) (by show 0+6<=6;omega)];rw[show ({o with pl:=B.next}:Ord).a.extract 0 (0+6)=({o with pl:=B.next}:Ord).a from rfl];refine⟨_,GF {o with pl:=B.next},λd hd=>?_⟩;have J:=j.up (AT (.cells ({o with pl:=B.next}:Ord).a 78) hd)
      refine Db (m:=1) (news:=({o with pl:=B.next}:Ord).a.toList) J (by simp only[roomBytes];omega) (by omega) rfl
       (λK' U=>.inr (.inr ⟨rfl,d,0,1,1,_,_,_,rfl,AD _ _ _,by show 0+1*6<=6;omega,?_,U⟩)) (λb' off l cc hx gg cap Q=>?_) λg5 P y=>?_
      ·intro v hv
       have:v∈ordsC [{o with pl:=B.next}]:=hv;exact Cy v this
      ·cases hx
       intro e
       rcases J.buf with⟨F,_⟩ | ⟨g',c',cap',F,h2,h3,_⟩
       ·rw[F]at Q;cases Q
       ·rw[F]at Q;cases Q
        rcases j.buf with⟨E,_⟩ | ⟨g3,c3,cap3,E,O,_⟩
        ·rw[E]at F;cases F
        ·rw[E]at F;cases F;rw[<-e,hd]at O;cases O
      ·refine (Aw (y.ld (AM i)) (by show 0<2;omega) (by obtain⟨p,cap,rfl⟩:=GN y;rfl)).2 ?_
       have Y:(#[s,.int .i64 (B.next+1)]:Array Value).setIfInBounds 0 P=#[P,.int .i64 (B.next+1)]:=rfl;rw[Y];refine a _ ?_;have I:=y.st (AM i) (p:=DP P (B.next+1));rw[Gq]at I;refine Jw (s:=P) (B:={next:=B.next+1,l:=B.l ++ [{o with pl:=B.next}]}) (Bb i) ?_;rw[List.length_append];exact I
  ·rw[if_pos (.inr t)]at a
   simp[l4,t];exact a _ M
theorem Qo (H:BkP b B h) (c:B.l.length<=64) (f:∀g s,OB 78 6 h B.l.length (ordsC B.l) g s->R (.ret s) g):A7 Tryz.prog 51 #[ptr b] h R:=by
 refine oD ?_;unfold qD pnW;obtain⟨s,e,d⟩:=VZ H;have lb:=λK=>A5 (K:=K) e (show (#[s,.int .i64 B.next]:Array Value)[0]?=some s from rfl);simp[As Tryz.underlying93,lb];refine Ti d c λg i a=>?_;exact f _ _ a
end
theorem OE {l:List Ord} {c:Array Value} (g:l.length*6<=c.size) (H:∀i o,l[i]?=some o->∀j,j<6->c[i*6+j]?=o.cells[j]?):c.toList.take (l.length*6)=ordsC l:=by
 apply List.ext_getElem?;intro m;rw[List.getElem?_take]
 by_cases a:m<l.length*6
 ·rw[if_pos a]
  have hi:m/6<l.length:=by omega
  have b:l[m/6]?=some l[m/6]:=Bu hi;have e:m/6*6+m%6=m:=by omega
  have f:=H (m/6) _ b (m%6) (by omega);have d:=Ex l (m/6) _ b (m%6) (by omega);rw[e]at f d;rw[Array.getElem?_toList,f,d]
 ·rw[if_neg a,List.getElem?_eq_none (by rw[Ew];omega)]
theorem JE {l:List Ord} {c:Array Value} (d:c.toList.take (l.length*6)=ordsC l) {i:Nat} {o:Ord} (a:l[i]?=some o) {j:Nat} (b:j<6):c[i*6+j]?=o.cells[j]?:=by
 have hi:i<l.length:=(Bc.1 a).1;rw[<-Ex l i o a j b,<-d,List.getElem?_take,if_pos (by omega),Array.getElem?_toList]
section
variable {h h0 g:PH} {R:RT} {b:Nat} {B:Bk} {C:PH->Prop} {l:List Ord} {s:Value}
theorem WL {k:Nat} {o o':Ord} {K:PH->Prop} {off:Nat} {v:Value} (y:OB 78 6 h0 l.length (ordsC l) h s) (D:l[k]?=some o) (A:off+v.cells.size<=6) (F:v.cells.toList.all Value.oneCell'=true)
  (E:∀j,j<6->o'.cells[j]?=if off<=j/\j<off+v.cells.size then v.cells[j-off]? else o.cells[j]?)
  (I:∀g,OB 78 6 h0 l.length (ordsC (l.set k o')) g s->K g) {q:Nat} (z:v.cells.size=q) :
  ∃t cap,s = .slice (some ⟨t,0,none⟩) l.length cap/\A9 q (.pointer (some ⟨t,k*6+off,none⟩)) v h K:=by
 have G:k<l.length:=(Bc.1 D).1
 rcases y.buf with⟨_,L,_⟩ | ⟨t,c,cap,rfl,H,r,d,u,f⟩
 ·omega
 refine⟨t,cap,rfl,?_⟩;have x:v.cells.toList.length=v.cells.size:=Array.length_toList;rw[Hx H z (by rw[d,<-z];omega) F];refine I _ ⟨Sub.put y.sub r,by rw[Ew,List.length_set],.inr ⟨t,_,cap,rfl,AD _ _ _,r,by rw[FA];exact d,u,?_⟩⟩;have a:(l.set k o').length=l.length:=List.length_set;rw[<-a];refine OE (by rw[FA,d,a];omega) λi p m j w=>?_;have hi:i<l.length:=by rw[<-a];exact (Bc.1 m).1
 rw[EH,x]
 by_cases e:i=k
 ·subst e
  rw[List.getElem?_set_self G]at m;cases m;rw[E j w]
  by_cases n:off<=j/\j<off+v.cells.size
  ·rw[if_pos ⟨by omega,by omega,by omega⟩,if_pos n,Array.getElem?_toList]
   congr 1
   omega
  ·rw[if_neg (by omega),if_neg n]
   exact JE f D w
 ·rw[List.getElem?_set_ne (λJ=>e J.symm)]at m
  rw[if_neg (by omega)];exact JE f m w
theorem RN {k:Nat} {o o':Ord} {K:PH->Prop} (c:OB 78 6 h0 l.length (ordsC l) h s) (a:l[k]?=some o) (d:∀g,OB 78 6 h0 l.length (ordsC (l.set k o')) g s->K g) :
  AR 6 s (.int .i64 k) λt=>A9 6 t o'.v h K:=by
 have f:k<l.length:=(Bc.1 a).1
 obtain⟨m,cap,rfl,H⟩:=WL (o':=o') (off:=0) (v:=o'.v) (q:=6) c a (by show 0+6<=6;omega) (by cases o';rfl) (λj i=>by
  have e:o'.v.cells.size=6:=rfl;rw[e,if_pos ⟨by omega,by omega⟩];show _=o'.a[j-0]?;rw[Nat.sub_zero,show o'.cells=o'.a.toList from rfl,Array.getElem?_toList]) d rfl
 rw[B9];refine⟨by omega,by omega,?_⟩
 simpa using H
theorem eQ {k:Nat} {o:Ord} {x:Int} {K:PH->Prop} (c:OB 78 6 h0 l.length (ordsC l) h s) (a:l[k]?=some o) (e:∀g,OB 78 6 h0 l.length (ordsC (l.set k {o with am:=x})) g s->K g) :
  AR 6 s (.int .i64 k) λt=>vFA 3 t λt=>A9 1 t (.int .i64 x) h K:=by
 have i:k<l.length:=(Bc.1 a).1
 obtain⟨m,cap,rfl,H⟩:=WL (o':={o with am:=x}) (off:=3) (v:=.int .i64 x) (q:=1) c a (by show 3+1<=6;omega) (by rfl) (λj d=>by
  have f:(Value.int .i64 x).cells=#[.int .i64 x]:=rfl;rw[f]
  match j,d with
  | 0,_=>rfl
  | 1,_=>rfl
  | 2,_=>rfl
  | 3,_=>rfl
  | 4,_=>rfl
  | 5,_=>rfl) e rfl
 rw[B9];refine⟨by omega,by omega,?_⟩;rw[AH]
 simpa using H
theorem Qg {k:Nat} (K:OB 78 6 h0 l.length (ordsC l) h s) (Q:k<l.length) (Y:l.length<=64) (S:∀g J,OB 78 6 h0 (l.eraseIdx k).length (ordsC (l.eraseIdx k)) g J->R (.ret J) g) :
  A7 Tryz.prog 156 #[s,.int .i64 k,.int .i64 ((k:Int)+1)] h R:=by
 refine iD ?_;unfold kP CO FP
 rcases K.buf with⟨_,Z,_⟩ | ⟨d,c,cap,rfl,M,D,a,P,o⟩
 ·omega
 simp only[BQ];refine⟨_,_,_,_,_,_,_,k,rfl,rfl,rfl,by omega,by omega,by omega,.inr ⟨_,_,rfl,by omega,by omega,by omega⟩,?_⟩;have G:¬((k:Int)=(k:Int)+1):=by omega
 simp only[BC,G,BW,AB];refine nF ?_
 -- what is ahead,what is behind
 refine⟨_,_,_,rfl,⟨_,_,rfl,by omega,by omega,?_⟩⟩;have hc0:¬cap=0:=by omega
 simp only[CK,hc0,if_false,Nat.zero_mul,Nat.sub_zero,BR,Option.map_some,Addr.add,Nat.add_zero];refine⟨_,_,_,rfl,⟨_,_,rfl,by omega,by omega,?_⟩⟩;have U:((k:Int)+1).toNat=k+1:=by omega
 simp only[U];refine⟨by omega,by omega,rfl,?_⟩;have f:(l.eraseIdx k).length=l.length-1:=List.length_eraseIdx_of_lt Q;simp only[if_true];generalize E:(if cap=k+1 then (some ⟨d,0,none⟩:Option Addr)else Option.map (λx:Addr=>x.add ((k+1)*6)) (some (⟨d,0,none⟩:Addr)))=px
 have q:∃off,px=some ⟨d,off,none⟩/\off+(l.length-(k+1))*6<=c.size/\(c.toList.drop off).take ((l.length-(k+1))*6)=(c.toList.drop ((k+1)*6)).take ((l.length-(k+1))*6):=by
  by_cases e:cap=k+1
  ·rw[if_pos e]at E
   refine⟨0,E.symm,by rw[a];omega,?_⟩;have:l.length-(k+1)=0:=by omega
   rw[this];simp
  ·rw[if_neg e]at E
   refine⟨0+(k+1)*6,E.symm,by rw[a];omega,by rw[Ad]⟩
 obtain⟨off,F,y,z⟩:=q;rw[F];unfold Ab I3
 have n:((c.toList.drop ((k+1)*6)).take ((l.length-(k+1))*6)).length=(l.length-(k+1))*6:=by
  have I:c.toList.length=cap*6:=by rw[Array.length_toList,a]
  rw[List.length_take,List.length_drop,I];omega
 have t:∀m,m<l.length*6->c[m]?=(ordsC l)[m]?:=λm r=>by rw[<-o,List.getElem?_take,if_pos r,Array.getElem?_toList]
 refine .inr (.inr ⟨rfl,d,off,l.length-(k+1),_,c,_,(0,0),rfl,M,y,?_,?_⟩)
 ·intro v w
  rw[z]at w;obtain⟨m,r⟩:=List.mem_iff_getElem?.1 w;rw[List.getElem?_take]at r
  split at r
  ·rename_i O
   rw[List.getElem?_drop,Array.getElem?_toList,t _ (by omega)]at r;exact Cy v (List.mem_of_getElem? r)
  ·cases r
 ·rw[z]
  refine .inr (.inr ⟨d,0,k,cap,c,_,(0,0),rfl,.inl ⟨by omega,M,by rw[n,a];omega,.inl (Nat.zero_le _),?_⟩⟩);generalize T:(c.toList.drop ((k+1)*6)).take ((l.length-(k+1))*6)=N at *;have X:k+(l.length-(k+1))=l.length-1:=by omega
  rw[X];simp only[BQ];refine⟨_,_,_,rfl,⟨_,_,rfl,by omega,by omega,⟨_,_,rfl,by omega,by omega,?_⟩⟩⟩;simp only[BR,Option.map_some,Addr.add];have H:¬cap=l.length-1:=by omega
  rw[if_neg H]
  have V:(if (l.length-1)*6=0 then (⟨d,0,none⟩:Addr)else ⟨d,0+(l.length-1)*6,none⟩)=⟨d,0+(l.length-1)*6,none⟩:=by
   split
   ·rename_i e;rw[e]
   ·rfl
  rw[V];have W:l.length-(l.length-1)=1:=by omega
  rw[W];refine .inr ⟨d,_,1,_,wr c (0+k*6) N,_,(0,0),rfl,by omega,AD _ _ _,by rw[FA,a];show 0+(l.length-1)*6+1*6<=_;omega,.inl (Nat.zero_le _),?_,?_⟩
  ·intro v w
   simp at w
   rcases w with rfl | rfl <;> rfl
  ·rw[An]
   refine S _ _ ⟨Sub.put K.sub D,Ew _,.inr ⟨d,_,cap,by rw[f],AD _ _ _,D,by rw[FA,FA];exact a,by rw[f];omega,?_⟩⟩;refine OE (by rw[FA,FA,a,f];omega) λi p u j L=>?_;have hi:i<l.length-1:=by rw[<-f];exact (Bc.1 u).1
   rw[EH,if_neg (by omega),EH,n];rw[List.getElem?_eraseIdx]at u
   by_cases A:i<k
   ·rw[if_pos A]at u
    rw[if_neg (by omega)];exact JE o u L
   ·rw[if_neg A]at u
    rw[if_pos ⟨by omega,by omega,by omega⟩,<-T,List.getElem?_take,if_pos (by omega),List.getElem?_drop,Array.getElem?_toList];rw[show (k+1)*6+(i*6+j-(0+k*6))=(i+1)*6+j by omega];exact JE o u L
end
def TA (l:List Ord) (id own:Int):Int×Int:=match idx l id with
 | none=>(0,3)
 | some k=>match l[k]? with
  | some o=>if o.own=own then (k,0)else (0,80)
  | none=>(0,3)
def OH:Ord:={id:=0,own:=0,pr:=0,am:=0,pl:=0,buys:=false}
def EZ (l:List Ord) (id:Int):Ord×Bool:=match idx l id with
 | none=>(OH,false)
 | some k=>match l[k]? with
  | some o=>(o,true)
  | none=>(OH,false)
def Bw (B:Bk) (id own price a:Int):Int×Bk:=match idx B.l id with
 | none=>(3,B)
 | some k=>match B.l[k]? with
  | none=>(3,B)
  | some o=>if o.own≠own then (80,B)else if B0 {o with pr:=price,am:=a} = false then (1,B)
   else if price=o.pr/\a<=o.am then (0,{B with l:=B.l.set k {o with pr:=price,am:=a}})
   else if 9007199254740992<=B.next then (2,B)else (0,{next:=B.next+1,l:=B.l.eraseIdx k ++ [{o with pr:=price,am:=a,pl:=B.next}]})
def CN (B:Bk) (id own:Int):Int×Bk:=match idx B.l id with
 | none=>(3,B)
 | some k=>match B.l[k]? with
  | none=>(3,B)
  | some o=>if o.own≠own then (80,B)else (0,{B with l:=B.l.eraseIdx k})
section
variable {h h0 g:PH} {R:RT} {b:Nat} {B:Bk} {C:PH->Prop} {l:List Ord} {s:Value} {id own:Int}
theorem WJ {k:Nat} {o:Ord} (f:Df h s l) (a:l[k]?=some o) {j:Nat} {v:Value} (d:o.a[j]?=some v) {K:Value->Prop} (i:K v):AR 6 s (.int .i64 k) λt=>vFA j t λt=>A0 none t h K:=by
 obtain⟨g,c,cap,rfl,m,e,p,n⟩:=Ux f a;have hk':k<l.length:=(Bc.1 a).1;rw[B9];refine⟨by omega,by omega,?_⟩;rw[AH,A5 m (v:=v) (by simpa using n j v d)];exact i
theorem MJ {k:Nat} {o:Ord} (f:Df h s l) (e:l[k]?=some o) {K:Value->Prop} (i:K o.v):AR 6 s (.int .i64 k) λt=>A0 (some 6) t h K:=by
 obtain⟨g,c,cap,rfl,j,a,d,m⟩:=Ux f e;have hk':k<l.length:=(Bc.1 e).1;rw[B9];refine⟨by omega,by omega,?_⟩;rw[show 0+(k:Int).toNat*6=k*6 by omega,AI j a,d];exact i
theorem Wr {nx:Int} (i:h b=some (DP s nx)) (e:Df h s l) (n:l.length<=64) (d:R (.ret (.tuple #[.int .i64 (TA l id own).1,.int .i64 (TA l id own).2])) h) :
  A7 Tryz.prog 155 #[ptr b,.int .i64 id,.int .i64 own] h R:=by
 refine iE ?_;unfold kQ fK Pp N8 ivW pnW;simp[As Tryz.underlying93];refine Wy i e (by omega) ?_;simp only[AK.elim];have lb:=λK=>A5 (K:=K) i (show (#[s,.int .i64 nx]:Array Value)[0]?=some s from rfl);unfold TA at d;cases a:idx l id with
 | none=>
  rw[a]at d;rw[Gv a];simp;exact d
 | some k=>
  rw[a]at d;rw[FJ a];obtain⟨p,⟨o,f,_⟩,_⟩:=Dt a;simp only[f]at d;have m:¬(k:Int)<0:=by omega
  simp only[AC,m,BW,AB];refine nF ?_;simp only[BO,AH,Ad,lb];refine WJ e f (j:=1) (v:=.int .i64 o.own) rfl ?_
  by_cases c:o.own=own
  ·rw[if_pos c]at d
   simp[c];exact d
  ·rw[if_neg c]at d
   simp[c];exact d
theorem Qp (H:BkP b B h) (A:B.l.length<=64) (f:R (.ret (.tuple #[(EZ B.l id).1.v,.bool (EZ B.l id).2])) h):A7 Tryz.prog 118 #[ptr b,.int .i64 id] h R:=by
 refine A7.drop (iy ?_);unfold lF ml CO ivW pnW;obtain⟨s,w,u⟩:=VZ H;refine AX λc j=>?_;have a:Sub h (ins h c (.cells OH.a 78 (0,0))):=AT _ j;show (A6 _ _ _ _ _ λt=>dIf t _ _);have e:ins h c (.cells OH.a 78 (0,0)) c=some (.cells OH.a 78 (0,0)):=AD _ _ _
 change A6 _ _ _ _ _ λt8=>dIf t8 (BA _ _ _ λt9=>A9 6 (.pointer (some ⟨c,0,none⟩)) t9 (ins h c (.cells OH.a 78 (0,0))) _) (AA _ _ _ (ins h c (.cells OH.a 78 (0,0))) _ _)
 revert e a;generalize ins h c (.cells OH.a 78 (0,0))=G;intro a e;rw[As Tryz.underlying93];simp;refine Wy (a _ _ w) (OS.mono _ _ a u) (by omega) ?_;simp only[AK.elim];unfold EZ at f;have lb:=λK=>A5 (K:=K) (a _ _ w) (show (#[s,.int .i64 B.next]:Array Value)[0]?=some s from rfl)
 have q:∀(o:Ord) (t:Bool),R (.ret (.tuple #[o.v,.bool t])) h->A9 6 (.pointer (some ⟨c,0,none⟩)) o.v G λm=>A0 (some 6) (.pointer (some ⟨c,0,none⟩)) m λi=>∃g,Sub g m/\R (.ret (.tuple #[i,.bool t])) g:=by
  intro o t y;refine AN e (by rfl) (by rfl) (by cases o;rfl) ?_;rw[AI (AD _ _ _) (off:=0) (n:=6) (by show 0+6<=6;omega)];rw[show o.a.extract 0 (0+6)=o.a from rfl];refine⟨h,λx p r=>?_,y⟩;rw[Aq _ _ (Gt j r)];exact a _ _ r
 cases d:idx B.l id with
 | none=>
  rw[d]at f;rw[Gv d];simp;refine⟨_,rfl,?_⟩;exact q OH false f
 | some k=>
  rw[d]at f;rw[FJ d];obtain⟨D,⟨o,v,_⟩,_⟩:=Dt d;simp only[v]at f;have z:¬(k:Int)<0:=by omega
  simp only[AC,z,BW,AB];refine nF ?_;simp only[BO,AH,Ad,lb];refine MJ (OS.mono _ _ a u) v ?_;exact q o true f
theorem YQ (H:(BkP b B•C) h) (m:B.l.length<=64) (d:∀g,(BkP b (CN B id own).2•C) g->R (.ret (.int .i64 (CN B id own).1)) g) :
  A7 Tryz.prog 120 #[ptr b,.int .i64 id,.int .i64 own] h R:=by
 refine iu ?_;unfold lD ivW pnW;obtain⟨s,h0,j,i⟩:=Lf H;have c:=AM j;refine Wr (i.ld c) (AJ OS.mono (D0 j i)) m ?_;simp only[AK.elim,Av,Au];unfold CN at d;unfold TA;cases f:idx B.l id with
 | none=>
  rw[f]at d;simp;exact d _ H
 | some k=>
  rw[f]at d;obtain⟨r,⟨o,q,_⟩,_⟩:=Dt f;simp only[q]at d ⊢
  by_cases a:o.own=own
  ·rw[if_neg (by simp[a])]at d
   have lb:=λK=>A5 (K:=K) (i.ld c) (show (#[s,.int .i64 B.next]:Array Value)[0]?=some s from rfl);simp[a,lb];rw[w64 (by omega) (by omega)];refine Qg i r m λg n e=>?_;simp only[AK.elim,BO,AH,Ad];refine (Aw (e.ld c) (by show 0<2;omega) (by obtain⟨p,cap,rfl⟩:=GN e;rfl)).2 ?_;exact d _ (Jw (s:=n) (B:={B with l:=B.l.eraseIdx k}) (Bb j) (e.st c))
  ·rw[if_pos a]at d
   simp[a];exact d _ H
theorem p8 (c:∀g b,h b=none->Sub h g->(∀(C:PH->Prop),C h->(BkP b {next:=1,l:=[]}•C) g)->R (.ret (ptr b)) g):A7 Tryz.prog 44 #[] h R:=by
 refine oK ?_;unfold qK Ep ivW;refine⟨_,rfl,?_⟩;refine AX λb a=>?_;refine c _ b a (AT _ a) λC d=>?_;have e:(Value.agg #[.slice none 0 0,.int .i64 1]).cells=#[.slice none 0 0,.int .i64 1]:=rfl;have:=Ar (o:=DP (.slice none 0 0) 1) a d;exact Jw (s:=.slice none 0 0) (B:={next:=1,l:=[]}) this ⟨Sub.refl _,rfl,.inl ⟨rfl,rfl,rfl⟩⟩
end
section
variable {h h0 g:PH} {R:RT} {b:Nat} {B:Bk} {C:PH->Prop} {l:List Ord} {s:Value} {id own:Int} {e:TypeId} {esz n:Nat} {L:List Value}
theorem OB.new {c:Nat} {o:Obj} (d:OB e esz h0 n L h s) (i:h c=none):OB e esz (ins h0 c o) n L (ins h c o) s:=
 ⟨d.sub.both,d.len,by
  rcases d.buf with a | ⟨g,c',cap,a1,a2,a3,a4⟩
  ·exact .inl a
  ·have f:g≠c:=λe=>by rw[e,i]at a2;cases a2
   exact .inr ⟨g,c',cap,a1,by rw[Aq _ _ f];exact a2,by rw[Aq _ _ f];exact a3,a4⟩⟩
theorem cJ {p m:Int} (H:(BkP b B•C) h) (hz:B.l.length<=64) (hnx:1<=B.next/\B.next<=9007199254740992) (i:∀g,(BkP b (Bw B id own p m).2•C) g->R (.ret (.int .i64 (Bw B id own p m).1)) g) :
  A7 Tryz.prog 119 #[ptr b,.int .i64 id,.int .i64 own,.int .i64 p,.int .i64 m] h R:=by
 refine iw ?_;unfold lE Rb CO FP gAW gGW ivW pnW;obtain⟨s,h0,Y,D⟩:=Lf H;have Q:=AM Y;refine Wr (D.ld Q) (AJ OS.mono (D0 Y D)) hz ?_;simp only[AK.elim,Av,Au];unfold Bw at i;unfold TA;cases N:idx B.l id with
 | none=>
  rw[N]at i;simp;exact i _ H
 | some k=>
  rw[N]at i;obtain⟨hk,⟨o,ho,_⟩,_⟩:=Dt N;simp only[ho]at i ⊢
  by_cases E:o.own=own
  ·rw[if_neg (by simp[E])]at i
   have lb:=λK=>A5 (K:=K) (D.ld Q) (show (#[s,.int .i64 B.next]:Array Value)[0]?=some s from rfl);rw[if_pos E];simp only[BB,B6,Bool.not_true,AB];refine nF ?_;simp only[BO,AH,Ad,lb];refine MJ (AJ OS.mono (D0 Y D)) ho ?_;refine AX λc r=>?_;refine AN (cs:=o.a) (AD _ _ _) (by rfl) (by rfl) (by cases o;rfl) ?_;rw[An];have j:∀x:Ord,ins h c (.cells x.a 78 (0,0)) c=some (.cells x.a 78 (0,0)):=λx=>AD _ _ _;have hcb:c≠b:=(Gt r (D.ld Q)).symm;have l2:=λK=>A5 (K:=K) (j o) (show o.a[2]?=some (.int .i64 o.pr)from rfl);have l3:=λK=>A5 (K:=K) (j o) (show o.a[3]?=some (.int .i64 o.am)from rfl)
   have z:∀t41:Bool,t41=decide (p=o.pr/\m<=o.am)->A9 1 (.pointer (some ⟨c,2,none⟩)) (.int .i64 p) (ins h c (.cells o.a 78 (0,0))) λh_8=>
     A9 1 (.pointer (some ⟨c,3,none⟩)) (.int .i64 m) h_8 λh_9=>
     A0 (some 6) (.pointer (some ⟨c,0,none⟩)) h_9 λt47=>
     AA Tryz.prog 93 #[t47] h_9 (λt48 a=>
     vUn Tryz.prog .not t48 λt49=>
     dIf t49 (R (.ret (.int .i64 1)) a)
     (dIf (.bool t41) (AY (ptr b) λt53=>
     vFA 0 t53 λt54=>
     A0 none t54 a λt55=>
     A0 (some 6) (.pointer (some ⟨c,0,none⟩)) a λt57=>
     AR 6 t55 (.int .i64 k) λt58=>
     A9 6 t58 t57 a λh_11=>
     R (.ret (.int .i64 0)) h_11)
     (AY (ptr b) λt61=>
     vFA 1 t61 λt62=>
     A0 none t62 a λt63=>
     A6 Tryz.prog .geq 3 t63 (.int .i64 9007199254740992) λt64=>
     dIf t64 (R (.ret (.int .i64 2)) a)
     (AY (ptr b) λt66=>
     vFA 1 t66 λt67=>
     A0 none t67 a λt68=>
     vFA 4 (.pointer (some ⟨c,0,none⟩)) λt69=>
     A9 1 t69 t68 a λI=>
     AY (ptr b) λt71=>
     vFA 1 t71 λt72=>
     A0 none t72 I λt73=>
     A6 Tryz.prog .add 3 t73 (.int .i64 1) λt74=>
     AY (ptr b) λt75=>
     vFA 1 t75 λt76=>
     A9 1 t76 t74 I λA=>
     AY (ptr b) λt79=>
     vFA 0 t79 λt80=>
     A0 none t80 A λt81=>
     A6 Tryz.prog .add 3 (.int .i64 k) (.int .i64 1) λt84=>
     A0 (some 6) (.pointer (some ⟨c,0,none⟩)) A λt86=>
     ((1*6<=2^24)/\Aj 78 6 1 #[.int .i64 0,.int .i64 0,.int .i64 0,.int .i64 0,.int .i64 0,.bool false] [(0,t86)] (λ_=>none) λu_3 h_14=>
     True) /\
     AA Tryz.prog 156 #[t81,(.int .i64 k),t84] A (λt85 F=>
     (A0 (some 6) (.pointer (some ⟨c,0,none⟩)) F λu_4=>
     t86=u_4) /\
     (1*6<=2^24)/\Aj 78 6 1 #[.int .i64 0,.int .i64 0,.int .i64 0,.int .i64 0,.int .i64 0,.bool false] [(0,t86)] F λt87 h_16=>
     (0<6)/\(0<48)/\(Array.size #[(.int .i64 0:Value),(.int .i64 0:Value),(.int .i64 0:Value),(.int .i64 0:Value),(.int .i64 0:Value),(.bool false:Value)]=6)/\Ab false 78 6 48 t85 t87 h_16 λt88 h_17=>
     AY (ptr b) λt89=>
     vFA 0 t89 λt90=>
     A9 1 t90 t88 h_17 λh_18=>
     R (.ret (.int .i64 0)) h_18)
     (λc h=>R (.pan c) h)))))
     (λc h=>R (.pan c) h):=by
    intro t41 ht;refine (Aw (j o) (by show 2<6;omega) rfl).2 ?_;rw[An,show o.a.setIfInBounds 2 (.int .i64 p)=({o with pr:=p}:Ord).a from rfl];refine (Aw (j {o with pr:=p}) (by show 3<6;omega) rfl).2 ?_;rw[An,show ({o with pr:=p}:Ord).a.setIfInBounds 3 (.int .i64 m)=({o with pr:=p,am:=m}:Ord).a from rfl];generalize hw:({o with pr:=p,am:=m}:Ord)=w at *;have hw2:({o with pr:=p,am:=m,pl:=B.next}:Ord) = {w with pl:=B.next}:=by rw[<-hw]
    rw[hw2]at i;rw[AI (j w) (off:=0) (n:=6) (by show 0+6<=6;omega),show w.a.extract 0 (0+6)=w.a from rfl];refine O3 ?_;simp only[AK.elim,Bm,AB];have hH1:(BkP b B•C) (ins h c (.cells w.a 78 (0,0))):=EF H (AT _ r);cases hr:B0 w with
    | false=>
     rw[if_pos hr]at i;exact⟨λ_=>i _ hH1,λe=>absurd e (by simp)⟩
    | true=>
     rw[if_neg (by simp[hr])]at i;refine nF ?_;have ob1:=D.new (o:=.cells w.a 78 (0,0)) r;have X:(pt b (DP s B.next)•C) (ins h0 c (.cells w.a 78 (0,0))):=EF Y (AT _ (D.sub.fresh r));have Z:=AM X;have lb0:=λK=>A5 (K:=K) (ob1.ld Z) (show (#[s,.int .i64 B.next]:Array Value)[0]?=some s from rfl);have lb1:=λK=>A5 (K:=K) (ob1.ld Z) (show (#[s,.int .i64 B.next]:Array Value)[1]?=some (.int .i64 B.next)from rfl)
     by_cases f:p=o.pr/\m<=o.am
     ·rw[if_pos f]at i
      have e1:t41=true:=by rw[ht];simp[f]
      rw[e1];refine nT ?_;simp only[BO,AH,Ad,lb0];rw[AI (j w) (off:=0) (n:=6) (by show 0+6<=6;omega),show w.a.extract 0 (0+6)=w.a from rfl];refine RN (o':=w) ob1 ho λg y=>?_;refine i _ ?_;have e2:(B.l.set k w).length=B.l.length:=List.length_set;refine Jw (s:=s) (B:={B with l:=B.l.set k w}) X ?_;rw[e2];exact y
     ·rw[if_neg f]at i
      have e1:t41=false:=by rw[ht];simpa using f
      rw[e1];refine nF ?_;simp only[BO,AH,Ad,lb1,By,AB,CF,D9];refine⟨λO=>?_,λV=>?_⟩
      ·rw[if_pos O]at i
       exact i _ hH1
      ·rw[if_neg V]at i
       refine (Aw (j w) (by show 4<6;omega) rfl).2 ?_;rw[An,show w.a.setIfInBounds 4 (.int .i64 B.next)=({w with pl:=B.next}:Ord).a from rfl];generalize hw3:({w with pl:=B.next}:Ord)=w2 at *;have y:=D.new (o:=.cells w2.a 78 (0,0)) r;have W:(pt b (DP s B.next)•C) (ins h0 c (.cells w2.a 78 (0,0))):=EF Y (AT _ (D.sub.fresh r));have P:=AM W;rw[A5 (y.ld P) (show (#[s,.int .i64 B.next]:Array Value)[1]?=some (.int .i64 B.next)from rfl),AG,w64 (by omega) (by omega)];refine (Aw (y.ld P) (by show 1<2;omega) rfl).2 ?_;rw[show (#[s,.int .i64 B.next]:Array Value).setIfInBounds 1 (.int .i64 (B.next+1))=#[s,.int .i64 (B.next+1)]from rfl];have u:=y.st P (p:=DP s (B.next+1));have t:=Bb (p:=DP s (B.next+1)) W
       have q:ins (ins h0 c (.cells w2.a 78 (0,0))) b (DP s (B.next+1)) c=some (.cells w2.a 78 (0,0)):=by
        rw[Aq _ _ hcb];exact AD _ _ _
       show A0 none _ (ins _ b (DP s (B.next+1))) _;revert u q t;generalize ins (ins h c (.cells w2.a 78 (0,0))) b (DP s (B.next+1))=G;generalize ins (ins h0 c (.cells w2.a 78 (0,0))) b (DP s (B.next+1))=G0;intro u t q;rw[A5 (u.ld (AM t)) (show (#[s,.int .i64 (B.next+1)]:Array Value)[0]?=some s from rfl)];rw[AG,w64 (by omega) (by omega)];rw[AI (u.ld q) (off:=0) (n:=6) (by show 0+6<=6;omega),show w2.a.extract 0 (0+6)=w2.a from rfl];refine⟨⟨by omega,_,GF w2,λ_ _=>trivial⟩,?_⟩;refine Qg u hk hz λg s' M=>?_;simp only[AK.elim];rw[AI (M.ld q) (off:=0) (n:=6) (by show 0+6<=6;omega),show w2.a.extract 0 (0+6)=w2.a from rfl];refine⟨rfl,by omega,_,GF w2,λd hd=>⟨by omega,by omega,rfl,?_⟩⟩;have ob5:=M.up (AT (.cells w2.a 78) hd);have hnl:(B.l.eraseIdx k).length=B.l.length-1:=List.length_eraseIdx_of_lt hk
       refine Db (m:=1) (news:=w2.a.toList) ob5 (by simp only[roomBytes];omega) (by omega) rfl
        (λK' hk'=>.inr (.inr ⟨rfl,d,0,1,1,_,_,_,rfl,AD _ _ _,by show 0+1*6<=6;omega,?_,hk'⟩)) (λb' off l cc hx gg cap hs=>?_) λg5 s5 J=>?_
       ·intro v hv
        have:v∈ordsC [w2]:=hv;exact Cy v this
       ·cases hx
        intro e
        rcases M.buf with⟨S,_⟩ | ⟨g3,c3,cap3,S,h2',_⟩
        ·rw[S]at hs;cases hs
        ·rw[S]at hs;cases hs;rw[<-e,hd]at h2';cases h2'
       ·try simp only[BO,AH,Ad]
        refine (Aw (J.ld (AM t)) (by show 0<2;omega) (by obtain⟨p,cap,rfl⟩:=GN J;rfl)).2 ?_;rw[show (#[s,.int .i64 (B.next+1)]:Array Value).setIfInBounds 0 s5=#[s5,.int .i64 (B.next+1)]from rfl];refine i _ ?_;have U:=J.st (AM t) (p:=DP s5 (B.next+1));rw[Gq]at U;refine Jw (s:=s5) (B:={next:=B.next+1,l:=B.l.eraseIdx k ++ [w2]}) (Bb t) ?_;rw[List.length_append];exact U
   by_cases T:p=o.pr
   ·by_cases hm:m<=o.am
    ·have:=z true (by simp[T,hm])
     rw[T]at this ⊢;simp[l2,l3,hm]
     simpa using this
    ·have:=z false (by simp[T,hm])
     rw[T]at this ⊢;simp[l2,l3,hm]
     simpa using this
   ·simp[l2,T]
    have:=z false (by simp[T])
    simpa using this
  ·rw[if_pos E]at i
   simp[E];exact i _ H
end
def X3 (f:Nat) (p:Ord->Bool):Prop:=∀(o:Ord) (g:PH) (R:RT),R (.ret (.bool (p o))) g->A7 Tryz.prog f #[o.v] g R
section
variable {h h0 g:PH} {R:RT} {b:Nat} {B:Bk} {C:PH->Prop} {l:List Ord} {s:Value} {p:Ord->Bool} {f:Nat}
theorem Y2 (t:Df h s l) (J:l.length<1000000) (D:X3 f p) (H:(∀(j:Nat) (o:Ord),l[j]?=some o->p o=false)->R (.ret (.int .i64 (-1))) h)
  (F:∀(i:Nat) (o:Ord),l[i]?=some o->p o=true->(∀j,j<i->∀o,l[j]?=some o->p o=false)->R (.ret (.int .i64 i)) h) :
  A7 Tryz.prog 142 #[s,.func (.func f) #[] #[]] h R:=by
 refine Wp ?_;unfold Z9 eXW ivW pnW;obtain⟨y,cap,k⟩:=OS.lens t;rw[k];simp only[BQ];refine AL (λm x g'=>∃i:Nat,x=(.int .i64 0,.int .i64 i)/\m=l.length-i/\i<=l.length/\g'=h/\∀j,j<i->∀o,l[j]?=some o->p o=false) l.length ⟨0,rfl,rfl,by omega,rfl,λj A=>absurd A (by omega)⟩ ?_;rintro m x g' ⟨i,rfl,rfl,hi,rfl,hnot⟩
 by_cases v:i<l.length
 ·obtain⟨o,d⟩:∃o,l[i]?=some o:=⟨_,Bu v⟩
  have key:∀(q:V3->V2->PH->Prop) Kp w n,(p o=true->n (.int .i64 i) g')->(p o=false->q (.slice y l.length cap,.func (.func f) #[] #[],.int .i64 l.length) (.int .i64 0,.int .i64 ((i:Int)+1)) g') ->
    JN Kp w n (.slice y l.length cap,.func (.func f) #[] #[],.int .i64 l.length) q (.int .i64 0,.int .i64 i) g':=by
   intro q Kp w n G I;unfold JN ivW;have u:(i:Int)<(l.length:Int):=by omega
   simp only[AC,u,B6,AB];refine nT ?_;rw[k]at t;refine MJ t d ?_;refine⟨_,_,_,rfl,?_⟩;refine D o _ _ ?_;simp only[AK.elim,AB];refine⟨G,λc=>?_⟩;simp only[AG];rw[w64 (by omega) (by omega)];exact I c
  refine key _ _ _ _ (λE=>?_) (λc=>⟨rfl,l.length-(i+1),by omega,i+1,rfl,rfl,by omega,rfl,λj A o' a=>?_⟩)
  ·intro r z
   rw[show r 4=_ from z];exact F i o d E hnot
  ·by_cases e:j=i
   ·subst e;rw[d]at a;cases a;exact c
   ·exact hnot j (by omega) o' a
 ·have e:i=l.length:=by omega
  subst e;unfold JN ivW;simp;intro r z;exact H λj o d=>hnot j (Bc.1 d).1 o d
theorem Mv {l:List Ord} (H:∀(j:Nat) (o:Ord),l[j]?=some o->p o=false):l.filter (λo=>!p o)=l:=by
 rw[List.filter_eq_self];intro o a;obtain⟨j,c⟩:=List.mem_iff_getElem?.1 a;rw[H j o c];rfl
theorem KI (T:OB 78 6 h0 l.length (ordsC l) h s) (hz:l.length<=64) (hp:X3 f p)
  (V:∀g L,OB 78 6 h0 (l.filter λo=>!p o).length (ordsC (l.filter λo=>!p o)) g L->R (.ret L) g) :
  A7 Tryz.prog 172 #[s,.func (.func f) #[] #[]] h R:=by
 refine gp ?_;unfold kB CO eXW ivW pnW;have Z:Df h s l:=AJ OS.mono (D0 (C:=emp) trivial T);refine Y2 Z (by omega) hp (λhno=>?_) (λi o ho Y P=>?_)
 ·simp[AK.elim]
  rw[Mv hno]at V;exact V _ _ T
 have hi:i<l.length:=(Bc.1 ho).1;have hi1:¬(i:Int) = -1:=by omega
 simp[AK.elim,hi1];rw[w64 (by omega) (by omega)];obtain⟨J,c,cap,y,_⟩:=RP T (by omega)
 -- the round
 have H:(l.take (i+1)).filter (λo=>!p o)=l.take i:=by
  rw[List.take_add_one,List.filter_append,ho]
  have:(l.take i).filter (λo=>!p o)=l.take i:=Mv (p:=p) λj o' u=>by
   rw[List.getElem?_take]at u
   split at u
   ·rename_i hj;exact P j hj o' u
   ·cases u
  rw[this];simp[Y]
 refine AL (λq L g=>∃(j:Nat) (m:List Ord),L=(.int .i64 ((l.take j).filter λo=>!p o).length,.int .i64 j)/\q=l.length-j/\i<j/\j<=l.length/\m.length=l.length/\m.take ((l.take j).filter λo=>!p o).length=(l.take j).filter (λo=>!p o) /\
   (∀t,j<=t->m[t]?=l[t]?)/\((l.take j).filter λo=>!p o).length<j/\OB 78 6 h0 l.length (ordsC m) g s) (l.length-(i+1))
  ⟨i+1,l,by rw[H];simp;omega,rfl,by omega,by omega,rfl,by rw[H];simp,λ_ _=>rfl,by rw[H];simp;omega,T⟩ ?_
 rintro q L g ⟨j,m,rfl,rfl,hij,hj,hml,htk,hdr,hlt0,obm⟩
 have hlenF:((l.take j).filter λo=>!p o).length<=64:=by
  have:=List.length_filter_le (λo=>!p o) (l.take j);rw[List.length_take]at this;omega
 generalize hF:(l.take j).filter (λo=>!p o)=F at *
 by_cases hjn:j<l.length
 ·obtain⟨o',u⟩:∃o',l[j]?=some o':=⟨_,Bu hjn⟩
  have hmo:m[j]?=some o':=by rw[hdr j (Nat.le_refl _),u]
  have hF':(l.take (j+1)).filter (λo=>!p o)=F++(if p o' then []else [o']):=by
   rw[List.take_add_one,List.filter_append,hF,u];cases a:p o' <;> simp[a]
  have key:∀(U:V2->V2->PH->Prop) Kp x0,(p o'=true->∀E,OB 78 6 h0 l.length (ordsC m) E s->U (s,.func (.func f) #[] #[]) (.int .i64 F.length,.int .i64 ((j:Int)+1)) E) ->
    (p o'=false->∀E,OB 78 6 h0 l.length (ordsC (m.set F.length o')) E s->U (s,.func (.func f) #[] #[]) (.int .i64 ((F.length:Int)+1),.int .i64 ((j:Int)+1)) E) ->
    PT Kp x0 (s,.func (.func f) #[] #[]) U (.int .i64 F.length,.int .i64 j) g:=by
   intro U Kp x0 hT hN;unfold PT GB CO ivW;rw[y]at obm ⊢;have hlt:(j:Int)<(l.length:Int):=by omega
   simp only[BQ,AC,hlt,B6,AB];refine nT ?_
   have N:Df g (.slice (some ⟨J,0,none⟩) l.length cap) m:=by
    have:=AJ OS.mono (D0 (C:=emp) trivial obm);unfold Df;rw[hml];exact this
   refine MJ N hmo ?_;refine AX λd hd=>?_;refine AN (cs:=o'.a) (AD _ _ _) (by rfl) (by rfl) (by cases o';rfl) ?_;rw[An];have w:=obm.up (AT (.cells o'.a 78 (0,0)) hd);have I:ins g d (.cells o'.a 78 (0,0)) d=some (.cells o'.a 78 (0,0)):=AD _ _ _;revert w I;generalize ins g d (.cells o'.a 78 (0,0))=G;intro w I
   have ld:∀K,A0 (some 6) (.pointer (some ⟨d,0,none⟩)) G K↔K o'.v:=λK=>by
    rw[AI I (off:=0) (n:=6) (by show 0+6<=6;omega),show o'.a.extract 0 (0+6)=o'.a from rfl]
   rw[ld];refine⟨_,_,_,rfl,?_⟩;refine hp o' _ _ ?_;have M:IntKind.i64.wrap ((j:Int)+1)=(j:Int)+1:=w64 (by omega) (by omega);simp only[AK.elim,Bm,AB];cases a:p o' with
   | true=>
    refine nF ?_;simp only[AG,M];rw[<-y]at w ⊢;exact hT a _ w
   | false=>
    refine nT ?_;rw[ld];obtain⟨x,hx⟩:∃x,m[F.length]?=some x:=⟨_,Bu (by omega)⟩;rw[<-hml]at w;rw[<-hml];refine RN (o':=o') w hx λE k=>?_;simp only[AG,M];rw[w64 (by omega) (by omega)];rw[hml]at k ⊢;rw[<-y]at k ⊢;exact hN a _ k
  refine key _ _ _ (λa E k=>?_) (λa E k=>?_)
  ·rw[a,if_pos rfl,List.append_nil]at hF'
   exact⟨rfl,l.length-(j+1),by omega,j+1,m,by rw[hF'];simp,rfl,by omega,by omega,hml,by rw[hF'];exact htk,λt X=>hdr t (by omega),by rw[hF'];omega,k⟩
  ·rw[a]at hF'
   simp only[Ba,if_false]at hF';refine⟨rfl,l.length-(j+1),by omega,j+1,m.set F.length o',by rw[hF'];simp,rfl,by omega,by omega,by rw[List.length_set];exact hml,?_,λt X=>?_,by rw[hF'];simp;omega,k⟩
   ·rw[hF',List.length_append,List.length_singleton,List.take_add_one,List.take_set_of_le (Nat.le_refl _),htk,List.getElem?_set_self (by omega)]
    rfl
   ·rw[List.getElem?_set_ne (by omega)]
    exact hdr t (by omega)
 ·have e:j=l.length:=by omega
  subst e;unfold PT GB CO ivW;rw[y];simp;intro r hr;simp only[Prod.mk.injEq]at hr;obtain⟨r0,r5⟩:=hr;rw[r0,r5];rw[List.take_length]at hF;rw[hF]at V
  rcases obm.buf with⟨S,_⟩ | ⟨g3,c3,cap3,S,hg3,D,z,hle3,A⟩
  ·rw[y]at S;cases S
  ·rw[y]at S;cases S
   have Q:¬cap=F.length:=by omega
   refine⟨_,_,_,rfl,⟨_,_,rfl,by omega,by omega,?_⟩⟩;simp only[BR,Option.map_some,Addr.add,Q,if_false]
   have e3:(if F.length*6=0 then (⟨J,0,none⟩:Addr)else ⟨J,0+F.length*6,none⟩)=⟨J,0+F.length*6,none⟩:=by
    split
    ·rename_i e;rw[e]
    ·rfl
   rw[e3];refine .inr ⟨J,_,l.length-F.length,_,c3,_,(0,0),rfl,by omega,hg3,by rw[z];show 0+F.length*6+(l.length-F.length)*6<=_;omega,.inl (Nat.zero_le _),?_,?_⟩
   ·intro v hv
    simp at hv
    rcases hv with rfl | rfl <;> rfl
   ·refine⟨_,_,_,rfl,⟨_,_,rfl,by omega,by omega,?_⟩⟩
    have hc0:¬cap=0:=by omega
    simp only[CK,hc0,if_false,Nat.zero_mul,Nat.sub_zero,BR,Option.map_some,Addr.add,Nat.add_zero,if_true];refine V _ _ ⟨Sub.put obm.sub D,Ew _,.inr ⟨J,_,cap,rfl,AD _ _ _,D,by rw[FA];exact z,by omega,?_⟩⟩;refine OE (by rw[FA,z];omega) λt o2 O t2 W=>?_;have X:t<F.length:=(Bc.1 O).1;rw[EH,if_neg (by omega)]
    have hmt:m[t]?=some o2:=by
     rw[<-O,<-htk,List.getElem?_take,if_pos X]
    rw[<-hml]at A;exact JE A hmt W
theorem T6:X3 190 (λo=>!B0 o):=λo g R e=>by
 refine A7.drop (gN ?_);unfold jl pnW;refine Ai λc G i d a=>?_;rw[AI a (off:=0) (n:=6) (by show 0+6<=6;omega),show (Value.cells o.v).extract 0 (0+6)=o.a from rfl];refine O3 ?_;simp only[AK.elim,Bm];exact⟨g,d,e⟩
theorem Xz:X3 173 (λo=>decide (o.am=0)):=λo g R i=>by
 refine A7.drop (gl ?_);unfold kA ivW;refine Ai λc G j e a=>?_;have d:=λK=>A5 (K:=K) a (show o.a[3]?=some (.int .i64 o.am)from rfl);simp[d];exact⟨g,e,i⟩
def Bj (l:List Ord):List Ord:=l.filter B0
theorem QK (k:Df h s l) (j:l.length<=64) (n:∀g d,OB 78 6 h (Bj l).length (ordsC (Bj l)) g d->R (.ret d) g):A7 Tryz.prog 184 #[s] h R:=by
 refine gU ?_;unfold jq ivW pnW;obtain⟨r,cap,c⟩:=OS.lens k;have i:¬(64:Int)<(l.length:Int):=by omega
 rw[c];simp[i];rw[<-c];refine Ti k j λg d m=>?_;simp only[AK.elim];refine KI m j T6 λt q a=>?_;simp only[AK.elim];have e:(l.filter λo=>!(!B0 o))=Bj l:=by unfold Bj;congr 1;funext o;simp
 rw[e]at a;exact n _ _ a
end
def JK (a b:Int):Int:=if a<b then -1 else if b<a then 1 else 0
def Ml (x y:Ord):Int:=if (if x.buys then-JK x.pr y.pr else JK x.pr y.pr)≠0 then (if x.buys then-JK x.pr y.pr else JK x.pr y.pr)else JK x.pl y.pl
theorem VR (a b:Int):JK a b = -1\/JK a b=0\/JK a b=1:=by unfold JK;split <;> (try split) <;> simp
section
variable {h h0 g:PH} {R:RT} {l:List Ord} {s:Value}
theorem Zw {a:Int} (b:R (.ret (.bool false)) h):A7 Tryz.prog 196 #[.int .i64 a] h R:=by
 refine gI ?_;unfold jg;simp[b]
theorem Ke {a b:Int} (c:R (.ret (.int .i64 (JK a b))) h):A7 Tryz.prog 192 #[.int .i64 a,.int .i64 b] h R:=by
 refine gL ?_;unfold jj ivW pnW;refine Zw ?_;simp only[AK.elim];refine Zw ?_;unfold JK at c;simp only[AK.elim]
 by_cases d:a<b
 ·rw[if_pos d]at c
  simp[d,c]
 ·rw[if_neg d]at c
  by_cases e:b<a
  ·rw[if_pos e]at c
   simp[d,e,c]
  ·rw[if_neg e]at c
   simp[d,e,c]
theorem lZ {q:Nat} {a b:Int} (n:h q=some (.cells #[.int .i64 a,.int .i64 b] 3 (0,0))) (d:R (.ret (.int .i64 (if a≠0 then a else b))) h):A7 Tryz.prog 193 #[.slice (some ⟨q,0,none⟩) 2 2] h R:=by
 refine gK ?_;unfold ji eXW ivW pnW;simp only[BQ];have m:=λK=>A5 (K:=K) n (show (#[.int .i64 a,.int .i64 b]:Array Value)[0]?=some (.int .i64 a)from rfl);have k:=λK=>A5 (K:=K) n (show (#[.int .i64 a,.int .i64 b]:Array Value)[1]?=some (.int .i64 b)from rfl);refine Jd 3 (Di λu i=>?_);unfold PN ivW
 by_cases f:a=0
 ·rw[if_neg (by simp[f])]at d
  simp[m,f];refine i _ _ (Di λt e=>?_);unfold PN ivW;rw[w64 (by omega) (by omega)]
  by_cases j:b=0
  ·rw[j]at d
   simp[k,j];refine e _ _ (Di λp o=>?_);unfold PN ivW;rw[w64 (by omega) (by omega)];simp;intro r c;simp only[Prod.mk.injEq]at c;rw[c.2];exact d
  ·simp[k,j]
   intro r c;simp only[Prod.mk.injEq]at c;rw[c.1];exact d
 ·rw[if_pos f]at d
  simp[m,f];intro r c;simp only[Prod.mk.injEq]at c;rw[c.1];exact d
theorem cj {x y:Ord} (e:R (.ret (.int .i64 (Ml x y))) h):A7 Tryz.prog 186 #[x.v,y.v] h R:=by
 refine A7.drop (gS ?_);unfold jo mm pnW;refine Ai λc G v p k=>?_;refine Ai λd w u b f=>?_;have a:=b _ _ k;have x2:=λK=>A5 (K:=K) a (show x.a[2]?=some (.int .i64 x.pr)from rfl);have o:=λK=>A5 (K:=K) a (show x.a[4]?=some (.int .i64 x.pl)from rfl);have n:=λK=>A5 (K:=K) a (show x.a[5]?=some (.bool x.buys)from rfl);have r:=λK=>A5 (K:=K) f (show y.a[2]?=some (.int .i64 y.pr)from rfl);have m:=λK=>A5 (K:=K) f (show y.a[4]?=some (.int .i64 y.pl)from rfl);simp[x2,r];refine Ke ?_;simp only[AK.elim];unfold Ml at e;have t:=VR x.pr y.pr;cases i:x.buys with
 | true=>
  rw[i]at e;simp only[if_true]at e;simp[n,i,o,m];rw[w64 (by omega) (by omega)];refine Ke ?_;simp only[AK.elim];refine⟨_,LU _ _ rfl rfl,λq j=>?_⟩;refine lZ (AD _ _ _) ?_;exact⟨h,(p.trans b).trans (AT _ j),e⟩
 | false=>
  rw[i]at e;simp only[Ba,if_false]at e;simp[n,i,o,m];refine Ke ?_;simp only[AK.elim];refine⟨_,LU _ _ rfl rfl,λq j=>?_⟩;refine lZ (AD _ _ _) ?_;exact⟨h,(p.trans b).trans (AT _ j),e⟩
end
def DN (at_:Int) (o:Ord):Int:=if o.buys=true/\at_<=o.pr then o.am else 0
def Bt (at_:Int) (o:Ord):Int:=if o.buys=false/\o.pr<=at_ then o.am else 0
def Ah (f:Ord->Int):List Ord->Int
 | []=>0
 | o::l=>f o+Ah f l
theorem I2 (f:Ord->Int):∀(l m:List Ord),Ah f (l++m)=Ah f l+Ah f m
 | [],m=>by simp[Ah]
 | o::l,m=>by simp only[List.cons_append,Ah,I2 f l m];omega
theorem I1 (f:Ord->Int) {l:List Ord} {i:Nat} {o:Ord} (a:l[i]?=some o):Ah f (l.take (i+1))=Ah f (l.take i)+f o:=by
 rw[List.take_add_one,a,I2];simp[Ah]
theorem JV {f:Ord->Int} {M:Int} (b:0<=M):∀(l:List Ord),(∀o∈l,0<=f o/\f o<=M)->0<=Ah f l/\Ah f l<=l.length*M
 | [],_=>by simp[Ah]
 | o::l,H=>by
  have d:=JV b l λo a=>H o (by simp[a]);have c:=H o (by simp);simp only[Ah,List.length_cons];have:((l.length+1:Nat):Int)*M=l.length*M+M:=by rw[Int.natCast_add,Int.add_mul];simp
  omega
def BE (r:List Ord) (pa:Int×Int) (o:Ord):Int×Int:=
 let n:=min (Ah (DN o.pr) r) (Ah (Bt o.pr) r)
 if pa.2<n\/(n=pa.2/\0<n/\o.pr<pa.1)then (o.pr,n)else pa
def Cq (r:List Ord):Int×Int:=r.foldl (BE r) (0,0)
theorem Am {o:Ord}:B0 o=true↔(0<=o.id/\o.id<=9007199254740992/\0<=o.own/\o.own<16/\0<=o.pr/\o.pr<=1099511627776/\1<=o.am/\o.am<=1048576):=by unfold B0;simp
theorem Fm {l:List Ord}:∀o∈Bj l,B0 o=true:=λo a=>(List.mem_filter.1 a).2
section
variable {h h0 g:PH} {R:RT} {l:List Ord} {s:Value}
theorem IH {K:Value->PH->Prop} {k:Nat} {o:Ord} (a:Df h s l) (b:l[k]?=some o) (d:∀c,h c=none->K (ptr c) (ins h c (.cells o.a 78 (0,0)))) :
  AR 6 s (.int .i64 k) λt=>A0 (some 6) t h λv=>Ag #[.int .i64 0,.int .i64 0,.int .i64 0,.int .i64 0,.int .i64 0,.bool false] 78 h λp i=>A9 6 p v i λf=>K p f:=by
 refine MJ a b ?_;refine AX λc e=>?_;refine AN (cs:=o.a) (AD _ _ _) (by rfl) (by rfl) (by cases o;rfl) ?_;rw[An];exact d c e
theorem bT (hs:Df h s l) (hz:l.length<=64) (hR:R (.ret (.tuple #[.int .i64 (Cq (Bj l)).1,.int .i64 (Cq (Bj l)).2])) h):A7 Tryz.prog 170 #[s] h R:=by
 refine A7.drop (gu ?_);unfold kD eXW ivW pnW;refine QK hs hz λL s1 ob=>?_;have hlen:(Bj l).length<=64:=Nat.le_trans (List.length_filter_le _ _) hz;have b:=λo ho=>Am.1 (Fm (l:=l) o ho);generalize Bj l=r at *;obtain⟨P,cap,rfl⟩:=GN ob;simp only[AK.elim,BQ];have W:Df L (.slice P r.length cap) r:=AJ OS.mono (D0 (C:=emp) trivial ob);refine AL (λq S g=>∃i:Nat,S=(.int .i64 ((r.take i).foldl (BE r) (0,0)).1,.int .i64 ((r.take i).foldl (BE r) (0,0)).2,.int .i64 i)/\q=r.length-i/\i<=r.length/\Sub L g) r.length ⟨0,rfl,rfl,by omega,Sub.refl L⟩ ?_;rintro q S g ⟨i,rfl,rfl,hi,hsg⟩
 by_cases hin:i<r.length
 ·obtain⟨o,ho⟩:∃o,r[i]?=some o:=⟨_,Bu hin⟩
  have D:(r.take (i+1)).foldl (BE r) (0,0)=BE r ((r.take i).foldl (BE r) (0,0)) o:=by
   rw[List.take_add_one,ho,List.foldl_append];rfl
  generalize hpa:(r.take i).foldl (BE r) (0,0)=pa at *
  have key:∀(B:V3->V3->PH->Prop) Kp x0,(∀N,Sub L N->B (.slice P r.length cap,.slice P r.length cap,.int .i64 r.length) (.int .i64 (BE r pa o).1,.int .i64 (BE r pa o).2,.int .i64 ((i:Int)+1)) N) ->
    PW Kp x0 (.slice P r.length cap,.slice P r.length cap,.int .i64 r.length) B (.int .i64 pa.1,.int .i64 pa.2,.int .i64 i) g:=by
   intro B Kp x0 I;unfold PW CO eXW gAW gGW ivW;have H:(i:Int)<(r.length:Int):=by omega
   simp only[AC,H,B6,AB];refine nT ?_;refine IH (OS.mono _ _ hsg W) ho λc hc=>?_;simp only[BQ];have v:Sub L (ins g c (.cells o.a 78 (0,0))):=hsg.trans (AT _ hc);have y:ins g c (.cells o.a 78 (0,0)) c=some (.cells o.a 78 (0,0)):=AD _ _ _;revert v y;generalize ins g c (.cells o.a 78 (0,0))=G;intro v y;have k:IntKind.i64.wrap ((i:Int)+1)=(i:Int)+1:=w64 (by omega) (by omega)
   have bB:∀j,0<=Ah (DN o.pr) (r.take j)/\Ah (DN o.pr) (r.take j)<=67108864:=λj=>by
    have L:=JV (f:=DN o.pr) (M:=1048576) (by omega) (r.take j) λx z=>by
     have:=b x (List.mem_of_mem_take z);unfold DN;split <;> omega
    have h2:(r.take j).length<=64:=by rw[List.length_take];omega
    omega
   have bS:∀j,0<=Ah (Bt o.pr) (r.take j)/\Ah (Bt o.pr) (r.take j)<=67108864:=λj=>by
    have L:=JV (f:=Bt o.pr) (M:=1048576) (by omega) (r.take j) λx z=>by
     have:=b x (List.mem_of_mem_take z);unfold Bt;split <;> omega
    have h2:(r.take j).length<=64:=by rw[List.length_take];omega
    omega
   refine AL (λq S g=>∃j:Nat,S=(.int .i64 (Ah (DN o.pr) (r.take j)),.int .i64 (Ah (Bt o.pr) (r.take j)),.int .i64 j)/\q=r.length-j/\j<=r.length/\Sub G g) r.length ⟨0,rfl,rfl,by omega,Sub.refl G⟩ ?_;rintro q S g ⟨j,rfl,rfl,hj,hsg⟩
   by_cases hjn:j<r.length
   ·obtain⟨x,z⟩:∃x,r[j]?=some x:=⟨_,Bu hjn⟩
    have T:∀(F:V9) (B:V9->V3->PH->Prop) Kp x2,F.2.2.2.1=ptr c->F.2.2.2.2.2.2.2.1 = .slice P r.length cap->F.2.2.2.2.2.2.2.2 = .int .i64 r.length ->
      (∀N,Sub G N->B F (.int .i64 (Ah (DN o.pr) (r.take (j+1))),.int .i64 (Ah (Bt o.pr) (r.take (j+1))),.int .i64 ((j:Int)+1)) N) ->
      PV Kp x2 F B (.int .i64 (Ah (DN o.pr) (r.take j)),.int .i64 (Ah (Bt o.pr) (r.take j)),.int .i64 j) g:=by
     intro F B Kp x2 e1 e2 e3 I;unfold PV CO gGW ivW;rw[e1,e2,e3];have H:(j:Int)<(r.length:Int):=by omega
     simp only[AC,H,B6,AB];refine nT ?_;refine IH (OS.mono _ _ (v.trans hsg) W) z λd hd=>?_;have u:Sub G (ins g d (.cells x.a 78 (0,0))):=hsg.trans (AT _ hd);have m:ins g d (.cells x.a 78 (0,0)) d=some (.cells x.a 78 (0,0)):=AD _ _ _;revert u m;generalize ins g d (.cells x.a 78 (0,0))=G2;intro u m;have p:=λK=>A5 (K:=K) (u _ _ y) (show o.a[2]?=some (.int .i64 o.pr)from rfl);have x2:=λK=>A5 (K:=K) m (show x.a[2]?=some (.int .i64 x.pr)from rfl);have Z:=λK=>A5 (K:=K) m (show x.a[3]?=some (.int .i64 x.am)from rfl);have Y:=λK=>A5 (K:=K) m (show x.a[5]?=some (.bool x.buys)from rfl);have hB:=I1 (DN o.pr) z;have hS:=I1 (Bt o.pr) z;have b1:=bB j;have b2:=bS j;have b3:=b x (List.mem_of_getElem? z);have t:IntKind.i64.wrap ((j:Int)+1)=(j:Int)+1:=w64 (by omega) (by omega);have V:IntKind.i64.wrap (Ah (DN o.pr) (r.take j)+x.am)=Ah (DN o.pr) (r.take j)+x.am:=w64 (by omega) (by omega);have U:IntKind.i64.wrap (Ah (Bt o.pr) (r.take j)+x.am)=Ah (Bt o.pr) (r.take j)+x.am:=w64 (by omega) (by omega);have a:=I _ u;rw[hB,hS]at a;rw[show DN o.pr x=(if x.buys=true/\o.pr<=x.pr then x.am else 0)from rfl,show Bt o.pr x=(if x.buys=false/\x.pr<=o.pr then x.am else 0)from rfl]at a;cases A:x.buys with
     | true=>
      by_cases w:o.pr<=x.pr
      ·simp[Y,A,x2,p,w,Z,V,t]
       simpa [A,w]using a
      ·simp[Y,A,x2,p,w,Z,V,t]
       simpa [A,w]using a
     | false=>
      by_cases w:x.pr<=o.pr
      ·simp[Y,A,x2,p,w,Z,U,t]
       simpa [A,w]using a
      ·simp[Y,A,x2,p,w,Z,U,t]
       simpa [A,w]using a
    exact T _ _ _ _ rfl rfl rfl λN E=>⟨rfl,r.length-(j+1),by omega,j+1,rfl,rfl,by omega,E⟩
   ·have e:j=r.length:=by omega
    unfold PV CO gGW ivW;have J:¬(j:Int)<(r.length:Int):=by omega
    simp only[AC,J,BW,AB];refine nF ?_;intro ρ hρ;simp only[Prod.mk.injEq]at hρ;obtain⟨r0,r2,r3,r5,r6,r7,r13,r14,r15⟩:=hρ;simp only[r0,r2,r3,r5,r6,r7,r13,r14,r15];rw[e,List.take_length];have p:=λK=>A5 (K:=K) (hsg _ _ y) (show o.a[2]?=some (.int .i64 o.pr)from rfl);have a:=I _ (v.trans hsg);unfold BE at a;simp only[E7,Ba,if_false]
    have X:(if Ah (Bt o.pr) r<Ah (DN o.pr) r then Ah (Bt o.pr) r else Ah (DN o.pr) r)=min (Ah (DN o.pr) r) (Ah (Bt o.pr) r):=by
     split <;> omega
    rw[X];generalize min (Ah (DN o.pr) r) (Ah (Bt o.pr) r)=n at *
    by_cases Q:pa.2<n
    ·simp only[Q,true_or,if_true]at a
     simp[Q,p,k];exact a
    ·by_cases O:n=pa.2
     ·by_cases c3:0<n
      ·by_cases c4:o.pr<pa.1
       ·rw[if_pos (.inr ⟨O,c3,c4⟩)]at a
        simp[Q,<-O,c3,c4,p,k];exact a
       ·rw[if_neg (by omega)]at a
        simp[Q,<-O,c3,c4,p,k];rw[O];exact a
      ·rw[if_neg (by omega)]at a
       simp[Q,<-O,c3,p,k];rw[O];exact a
     ·rw[if_neg (by omega)]at a
      simp[Q,O,p,k];exact a
  refine key _ _ _ λN E=>⟨rfl,r.length-(i+1),by omega,i+1,by rw[D];rfl,rfl,by omega,E⟩
 ·have e:i=r.length:=by omega
  unfold PW CO eXW gAW gGW ivW;have J:¬(i:Int)<(r.length:Int):=by omega
  simp only[AC,J,BW,AB];refine nF ?_;intro ρ hρ;simp only[Prod.mk.injEq]at hρ;rw[hρ.1,hρ.2,e,List.take_length];exact⟨h,ob.sub.trans hsg,hR⟩
end
end Go.Pw
