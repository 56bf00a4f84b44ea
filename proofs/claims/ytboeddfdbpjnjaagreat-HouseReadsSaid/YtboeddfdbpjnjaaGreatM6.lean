/- Texts of this claim, one behind the other. -/
import Derived.Test.YtboeddfdbpjnjaaGreatM3
import Derived.Test.YtboeddfdbpjnjaaGreatM5
set_option linter.unusedSimpArgs false
set_option linter.unusedVariables false
namespace Go.Pw
open Go Go.Proofs
structure Led where
 goods:Int
 n:Nat
 f:Nat->Nat->Int
 r:Nat->ByteArray
def Led.set (L:Led) (i j:Nat) (v:Int):Led:={L with f:=λa b=>if a=i/\b=j then v else L.f a b}
def Led.setR (L:Led) (i:Nat) (s:ByteArray):Led:={L with r:=λa=>if a=i then s else L.r a}
def ledCell (L:Led) (k:Nat):Value:=if k%12=11 then .string (L.r (k/12))else .int .i64 (L.f (k/12) (k%12))
def ledCells (L:Led):Array Value:=Array.ofFn (n:=L.n*12) λk=>ledCell L k.val
theorem ledCells_size (L:Led):(ledCells L).size=L.n*12:=by simp[ledCells]
theorem ledCells_at (L:Led) (k:Nat) (hk:k<L.n*12):(ledCells L)[k]?=some (ledCell L k):=by
 unfold ledCells;simp[hk]
theorem ledCells_get {L:Led} {i j:Nat} (hi:i<L.n) (hj:j<11):(ledCells L)[i*12+j]?=some (.int .i64 (L.f i j)):=by
 rw[ledCells_at _ _ (by omega)]
 unfold ledCell
 rw[show (i*12+j)%12=j by omega,show (i*12+j)/12=i by omega,if_neg (by omega)]
theorem ledCells_rep {L:Led} {i:Nat} (hi:i<L.n):(ledCells L)[i*12+11]?=some (.string (L.r i)):=by
 rw[ledCells_at _ _ (by omega)]
 unfold ledCell
 rw[show (i*12+11)%12=11 by omega,show (i*12+11)/12=i by omega,if_pos rfl]
theorem ledCells_set {L:Led} {i j:Nat} (hi:i<L.n) (hj:j<11) (v:Int):(ledCells L).setIfInBounds (i*12+j) (.int .i64 v)=ledCells (L.set i j v):=by
 apply Array.ext_getElem?
 intro k
 rcases Nat.lt_or_ge k (L.n*12)with hk | hk
 ·rw[ledCells_at (L.set i j v) k hk]
  by_cases he:i*12+j=k
  ·subst he
   rw[Array.getElem?_setIfInBounds_self_of_lt (by rw[ledCells_size];exact hk)]
   unfold ledCell Led.set
   rw[show (i*12+j)%12=j by omega,show (i*12+j)/12=i by omega,if_neg (by omega)]
   simp
  ·rw[Array.getElem?_setIfInBounds_ne he,ledCells_at _ _ hk]
   unfold ledCell Led.set
   have:¬(k/12=i/\k%12=j):=by omega
   simp only[this,if_false]
 ·rw[Array.getElem?_eq_none (by simpa [ledCells_size]using hk),Array.getElem?_eq_none (by rw[ledCells_size];exact hk)]
theorem ledCells_setR {L:Led} {i:Nat} (hi:i<L.n) (s:ByteArray):(ledCells L).setIfInBounds (i*12+11) (.string s)=ledCells (L.setR i s):=by
 apply Array.ext_getElem?
 intro k
 rcases Nat.lt_or_ge k (L.n*12)with hk | hk
 ·rw[ledCells_at (L.setR i s) k hk]
  by_cases he:i*12+11=k
  ·subst he
   rw[Array.getElem?_setIfInBounds_self_of_lt (by rw[ledCells_size];exact hk)]
   unfold ledCell Led.setR
   rw[show (i*12+11)%12=11 by omega,show (i*12+11)/12=i by omega,if_pos rfl]
   simp
  ·rw[Array.getElem?_setIfInBounds_ne he,ledCells_at _ _ hk]
   unfold ledCell Led.setR
   by_cases h11:k%12=11
   ·have:¬(k/12=i):=by omega
    simp only[this,if_false]
   ·simp only[h11,if_false]
 ·rw[Array.getElem?_eq_none (by simpa [ledCells_size]using hk),Array.getElem?_eq_none (by rw[ledCells_size];exact hk)]
structure LedAt (h:PH) (x b:Nat) (L:Led):Prop where
 hx:h x=some (.cells #[.int .i64 L.goods,.slice (some ⟨b,0,none⟩) L.n L.n] 149 (0,0))
 hb:h b=some (.cells (ledCells L) 132 (0,0))
 ne:x≠b
def putLed (h:PH) (b:Nat) (L:Led):PH:=ins h b (.cells (ledCells L) 132 (0,0))
theorem putLed_self {h:PH} {x b:Nat} {L:Led} (hL:LedAt h x b L):putLed h b L=h:=ins_self hL.hb
theorem LedAt.put {h:PH} {x b:Nat} {L M:Led} (hL:LedAt h x b L) (hg:M.goods=L.goods) (hn:M.n=L.n):LedAt (putLed h b M) x b M:=
 ⟨by unfold putLed;rw[ins_ne _ _ hL.ne,hL.hx,hg,hn],ins_eq _ _ _,hL.ne⟩
theorem putLed_put (h:PH) (b:Nat) (L M:Led):putLed (putLed h b L) b M=putLed h b M:=ins_ins _ _ _ _
abbrev ptr (x:Nat):Value:=.pointer (some ⟨x,0,none⟩)
section
variable {h:PH} {R:AEnd->PH->Prop} {x b:Nat} {L:Led}
theorem amount_spec {n:Int} (hR:R (.ret (.bool (decide (1<=n/\n<=1099511627776)))) h):ACalls Tryz.prog 149 #[.int .i64 n] h R:=by
 refine call149 ?_
 unfold sh149
 by_cases h1:1<=n <;> by_cases h2:n<=1099511627776 <;> simp[h1,h2]at hR <;> simp[h1,h2,hR]
theorem find_bad (hL:LedAt h x b L) {who:Int} (hw:who<0\/(L.n:Int)<=who) (hR:R (.ret (.tuple #[.pointer none,.int .i64 60])) h):ACalls Tryz.prog 57 #[ptr x,.int .i64 who] h R:=by
 refine call57 ?_
 unfold sh57 ptr
 rw[vBin_pnil Tryz.underlying81]
 by_cases h0:who<0
 ·simp[h0,hR]
 ·have h1:(L.n:Int)<=who:=by omega
  simp[h0,hR,h1,vLoad_1 hL.hx]
theorem find_ok (hL:LedAt h x b L) {i:Nat} (hi:i<L.n) (hR:R (.ret (.tuple #[.pointer (some ⟨b,i*12,none⟩),.int .i64 0])) h):ACalls Tryz.prog 57 #[ptr x,.int .i64 i] h R:=by
 refine call57 ?_
 unfold sh57 ptr
 rw[vBin_pnil Tryz.underlying81]
 have h0:¬((i:Int)<0):=by omega
 have h1:¬((L.n:Int)<=(i:Int)):=by omega
 simp[h0,h1,vLoad_1 hL.hx,hR,hi]
def partE (L:Led) (good n:Int):Int:=if 0<=good/\good<L.goods/\1<=n/\n<=1099511627776 then 0 else 1
theorem part_ok (hL:LedAt h x b L) {i:Nat} {good n:Int} (hi:i<L.n) (hR:R (.ret (.tuple #[.pointer (some ⟨b,i*12,none⟩),.int .i64 (partE L good n)])) h) :
  ACalls Tryz.prog 105 #[ptr x,.int .i64 i,.int .i64 good,.int .i64 n] h R:=by
 refine call105 ?_
 unfold sh105
 refine find_ok hL hi ?_
 unfold partE at hR
 by_cases h1:good<0
 ·have:¬(0<=good):=by omega
  simp[this]at hR
  simp[AEnd.elim,h1,hR]
 ·have h1':0<=good:=by omega
  by_cases h2:L.goods<=good
  ·have:¬(good<L.goods):=by omega
   simp[this]at hR
   simp[AEnd.elim,h1,h2,hR,vLoad_1 hL.hx]
  ·have h2':good<L.goods:=by omega
   simp[AEnd.elim,h1,h2,vLoad_1 hL.hx]
   refine amount_spec ?_
   by_cases h3:1<=n/\n<=1099511627776
   ·simp[h1',h2',h3]at hR
    simp[AEnd.elim,h3,hR]
   ·have:¬(0<=good/\good<L.goods/\1<=n/\n<=1099511627776):=by omega
    rw[if_neg this]at hR
    simp[AEnd.elim,h3,hR]
theorem LedAt.sub {g:PH} (hL:LedAt h x b L) (hs:Sub h g):LedAt g x b L:=⟨hs _ _ hL.hx,hs _ _ hL.hb,hL.ne⟩
section
variable {K:Value->Prop} {KH:PH->Prop} {i:Nat}
theorem LedAt.ld (hL:LedAt h x b L) (hi:i<L.n) {j:Nat} (hj:j<11):vLoad none (.pointer (some ⟨b,i*12+j,none⟩)) h K↔K (.int .i64 (L.f i j)):=vLoad_1 hL.hb (ledCells_get hi hj)
theorem LedAt.ld0 (hL:LedAt h x b L) (hi:i<L.n):vLoad none (.pointer (some ⟨b,i*12,none⟩)) h K↔K (.int .i64 (L.f i 0)):=vLoad_1 hL.hb (ledCells_get hi (by omega) (j:=0))
theorem LedAt.ldR (hL:LedAt h x b L) (hi:i<L.n):vLoad none (.pointer (some ⟨b,i*12+11,none⟩)) h K↔K (.string (L.r i)):=vLoad_1 hL.hb (ledCells_rep hi)
theorem LedAt.st (hL:LedAt h x b L) (hi:i<L.n) {j:Nat} (hj:j<11) (v:Int):vStore 1 (.pointer (some ⟨b,i*12+j,none⟩)) (.int .i64 v) h KH↔KH (putLed h b (L.set i j v)):=by
 rw[vStore_1 hL.hb (by rw[ledCells_size];omega) rfl,ledCells_set hi hj];rfl
theorem LedAt.st0 (hL:LedAt h x b L) (hi:i<L.n) (v:Int):vStore 1 (.pointer (some ⟨b,i*12,none⟩)) (.int .i64 v) h KH↔KH (putLed h b (L.set i 0 v)):=hL.st hi (j:=0) (by omega) v
theorem LedAt.stR (hL:LedAt h x b L) (hi:i<L.n) (s:ByteArray):vStore 1 (.pointer (some ⟨b,i*12+11,none⟩)) (.string s) h KH↔KH (putLed h b (L.setR i s)):=by
 rw[vStore_1 hL.hb (by rw[ledCells_size];omega) rfl,ledCells_setR hi];rfl
theorem LedAt.after (hL:LedAt h x b L) (i j:Nat) (v:Int):LedAt (putLed h b (L.set i j v)) x b (L.set i j v):=hL.put rfl rfl
end
def takeL (L:Led) (i:Nat) (n:Int):Int×Led:=if partE L 0 n≠0 then (1,L)else if L.f i 0-L.f i 1<n then (61,L)else (0,L.set i 0 (L.f i 0-n))
def holdL (L:Led) (i:Nat) (n:Int):Int×Led:=if partE L 0 n≠0 then (1,L)else if L.f i 0-L.f i 1<n then (61,L)else (0,L.set i 1 (L.f i 1+n))
def freeL (L:Led) (i:Nat) (n:Int):Int×Led:=if partE L 0 n≠0 then (1,L)else if L.f i 1<n then (61,L)else (0,L.set i 1 (L.f i 1-n))
def fetchL (L:Led) (i:Nat) (g n:Int):Int×Led:=if partE L g n≠0 then (1,L)else if L.f i (2+g.toNat)-L.f i (6+g.toNat)<n then (61,L)else (0,L.set i (2+g.toNat) (L.f i (2+g.toNat)-n))
def lockL (L:Led) (i:Nat) (g n:Int):Int×Led:=if partE L g n≠0 then (1,L)else if L.f i (2+g.toNat)-L.f i (6+g.toNat)<n then (61,L)else (0,L.set i (6+g.toNat) (L.f i (6+g.toNat)+n))
def unlockL (L:Led) (i:Nat) (g n:Int):Int×Led:=if partE L g n≠0 then (1,L)else if L.f i (6+g.toNat)<n then (61,L)else (0,L.set i (6+g.toNat) (L.f i (6+g.toNat)-n))
structure Led.small (L:Led):Prop where
 num:∀i j,i<L.n->j<11->0<=L.f i j/\L.f i j<=1099511627776
 cl:L.n<=16
 gd:L.goods<=4
 rep:∀i,i<L.n->(L.r i).size<=256
theorem partE_cases (L:Led) (g n:Int):partE L g n=0\/partE L g n=1:=by unfold partE;split <;> simp
theorem partE_n {g n:Int} (h:partE L g n=0):0<=g/\g<L.goods/\1<=n/\n<=1099511627776:=by
 unfold partE at h
 split at h
 ·assumption
 ·cases h
variable {i:Nat} {g n:Int}
theorem take_ok (hL:LedAt h x b L) (hs:L.small) (hi:i<L.n) (hR:R (.ret (.int .i64 (takeL L i n).1)) (putLed h b (takeL L i n).2)) :
  ACalls Tryz.prog 67 #[ptr x,.int .i64 i,.int .i64 n] h R:=by
 refine call67 ?_
 unfold sh67
 refine part_ok hL hi ?_
 rcases partE_cases L 0 n with hp | hp
 ·have hn:=partE_n hp
  have g0:=hs.num i 0 hi (by omega)
  have g1:=hs.num i 1 hi (by omega)
  simp only[takeL,hp]at hR
  simp[AEnd.elim,hp,hL.ld0 hi,hL.ld hi]
  rw[w64 (by omega) (by omega)]
  refine⟨λhlt=>?_,λhle=>?_⟩
  ·simp[hlt,putLed_self hL]at hR
   exact hR
  ·have hlt:¬(L.f i 0-L.f i 1<n):=by omega
   simp[hlt]at hR
   try simp only[vBin_add,vBin_sub]
   rw[w64 (by omega) (by omega),hL.st0 hi]
   exact hR
 ·simp[takeL,hp,putLed_self hL]at hR
  simp[AEnd.elim,hp,hR]
theorem hold_ok (hL:LedAt h x b L) (hs:L.small) (hi:i<L.n) (hR:R (.ret (.int .i64 (holdL L i n).1)) (putLed h b (holdL L i n).2)) :
  ACalls Tryz.prog 152 #[ptr x,.int .i64 i,.int .i64 n] h R:=by
 refine call152 ?_
 unfold sh152
 refine part_ok hL hi ?_
 rcases partE_cases L 0 n with hp | hp
 ·have hn:=partE_n hp
  have g0:=hs.num i 0 hi (by omega)
  have g1:=hs.num i 1 hi (by omega)
  simp only[holdL,hp]at hR
  simp[AEnd.elim,hp,hL.ld0 hi,hL.ld hi]
  rw[w64 (by omega) (by omega)]
  refine⟨λhlt=>?_,λhle=>?_⟩
  ·simp[hlt,putLed_self hL]at hR
   exact hR
  ·have hlt:¬(L.f i 0-L.f i 1<n):=by omega
   simp[hlt]at hR
   try simp only[vBin_add,vBin_sub]
   rw[w64 (by omega) (by omega),hL.st hi (by omega)]
   exact hR
 ·simp[holdL,hp,putLed_self hL]at hR
  simp[AEnd.elim,hp,hR]
theorem free_ok (hL:LedAt h x b L) (hs:L.small) (hi:i<L.n) (hR:R (.ret (.int .i64 (freeL L i n).1)) (putLed h b (freeL L i n).2)) :
  ACalls Tryz.prog 153 #[ptr x,.int .i64 i,.int .i64 n] h R:=by
 refine call153 ?_
 unfold sh153
 refine part_ok hL hi ?_
 rcases partE_cases L 0 n with hp | hp
 ·have hn:=partE_n hp
  have g1:=hs.num i 1 hi (by omega)
  simp only[freeL,hp]at hR
  simp[AEnd.elim,hp,hL.ld0 hi,hL.ld hi]
  refine⟨λhlt=>?_,λhle=>?_⟩
  ·simp[hlt,putLed_self hL]at hR
   exact hR
  ·have hlt:¬(L.f i 1<n):=by omega
   simp[hlt]at hR
   try simp only[vBin_add,vBin_sub]
   rw[w64 (by omega) (by omega),hL.st hi (by omega)]
   exact hR
 ·simp[freeL,hp,putLed_self hL]at hR
  simp[AEnd.elim,hp,hR]
theorem fetch_ok (hL:LedAt h x b L) (hs:L.small) (hi:i<L.n) (hR:R (.ret (.int .i64 (fetchL L i g n).1)) (putLed h b (fetchL L i g n).2)) :
  ACalls Tryz.prog 71 #[ptr x,.int .i64 i,.int .i64 g,.int .i64 n] h R:=by
 refine call71 ?_
 unfold sh71
 refine part_ok hL hi ?_
 rcases partE_cases L g n with hp | hp
 ·have hn:=partE_n hp
  have hg4:g<4:=by have:=hs.gd;omega
  have g0:=hs.num i (2+g.toNat) hi (by omega)
  have g1:=hs.num i (6+g.toNat) hi (by omega)
  simp only[fetchL,hp]at hR
  simp[AEnd.elim,hp,hn.1,hg4,Nat.add_assoc,hL.ld hi (j:=2+g.toNat) (by omega),hL.ld hi (j:=6+g.toNat) (by omega)]
  rw[w64 (by omega) (by omega)]
  refine⟨λhlt=>?_,λhle=>?_⟩
  ·simp[hlt,putLed_self hL]at hR
   exact hR
  ·have hlt:¬(L.f i (2+g.toNat)-L.f i (6+g.toNat)<n):=by omega
   simp[hlt]at hR
   try simp only[vBin_add,vBin_sub]
   rw[w64 (by omega) (by omega),hL.st hi (by omega)]
   exact hR
 ·simp[fetchL,hp,putLed_self hL]at hR
  simp[AEnd.elim,hp,hR]
theorem lock_ok (hL:LedAt h x b L) (hs:L.small) (hi:i<L.n) (hR:R (.ret (.int .i64 (lockL L i g n).1)) (putLed h b (lockL L i g n).2)) :
  ACalls Tryz.prog 107 #[ptr x,.int .i64 i,.int .i64 g,.int .i64 n] h R:=by
 refine call107 ?_
 unfold sh107
 refine part_ok hL hi ?_
 rcases partE_cases L g n with hp | hp
 ·have hn:=partE_n hp
  have hg4:g<4:=by have:=hs.gd;omega
  have g0:=hs.num i (2+g.toNat) hi (by omega)
  have g1:=hs.num i (6+g.toNat) hi (by omega)
  simp only[lockL,hp]at hR
  simp[AEnd.elim,hp,hn.1,hg4,Nat.add_assoc,hL.ld hi (j:=2+g.toNat) (by omega),hL.ld hi (j:=6+g.toNat) (by omega)]
  rw[w64 (by omega) (by omega)]
  refine⟨λhlt=>?_,λhle=>?_⟩
  ·simp[hlt,putLed_self hL]at hR
   exact hR
  ·have hlt:¬(L.f i (2+g.toNat)-L.f i (6+g.toNat)<n):=by omega
   simp[hlt]at hR
   try simp only[vBin_add,vBin_sub]
   rw[w64 (by omega) (by omega),hL.st hi (by omega)]
   exact hR
 ·simp[lockL,hp,putLed_self hL]at hR
  simp[AEnd.elim,hp,hR]
theorem unlock_ok (hL:LedAt h x b L) (hs:L.small) (hi:i<L.n) (hR:R (.ret (.int .i64 (unlockL L i g n).1)) (putLed h b (unlockL L i g n).2)) :
  ACalls Tryz.prog 154 #[ptr x,.int .i64 i,.int .i64 g,.int .i64 n] h R:=by
 refine call154 ?_
 unfold sh154
 refine part_ok hL hi ?_
 rcases partE_cases L g n with hp | hp
 ·have hn:=partE_n hp
  have hg4:g<4:=by have:=hs.gd;omega
  have g1:=hs.num i (6+g.toNat) hi (by omega)
  simp only[unlockL,hp]at hR
  simp[AEnd.elim,hp,hn.1,hg4,Nat.add_assoc,hL.ld hi (j:=6+g.toNat) (by omega)]
  refine⟨λhlt=>?_,λhle=>?_⟩
  ·simp[hlt,putLed_self hL]at hR
   exact hR
  ·have hlt:¬(L.f i (6+g.toNat)<n):=by omega
   simp[hlt]at hR
   try simp only[vBin_add,vBin_sub]
   rw[w64 (by omega) (by omega),hL.st hi (by omega)]
   exact hR
 ·simp[unlockL,hp,putLed_self hL]at hR
  simp[AEnd.elim,hp,hR]
end
end Go.Pw
set_option linter.unusedSimpArgs false
set_option linter.unusedVariables false
namespace Go.Pw
open Go Go.Proofs
def entCells (L:Led) (i:Nat):Array Value:=#[.int .i64 (L.f i 0),.int .i64 (L.f i 1),.int .i64 (L.f i 2),.int .i64 (L.f i 3),.int .i64 (L.f i 4),.int .i64 (L.f i 5),.int .i64 (L.f i 6),.int .i64 (L.f i 7),.int .i64 (L.f i 8),.int .i64 (L.f i 9),.int .i64 (L.f i 10),.string (L.r i)]
def acctCells (L:Led) (i:Nat):Array Value:=#[.int .i64 (L.f i 0),.int .i64 (L.f i 1),.int .i64 (L.f i 2),.int .i64 (L.f i 3),.int .i64 (L.f i 4),.int .i64 (L.f i 5),.int .i64 (L.f i 6),.int .i64 (L.f i 7),.int .i64 (L.f i 8),.int .i64 (L.f i 9)]
theorem ledCells_ent {L:Led} {i:Nat} (hi:i<L.n):(ledCells L).extract (i*12) (i*12+12)=entCells L i:=by
 have key:∀j,j<12->(ledCells L)[i*12+j]?=(entCells L i)[j]?:=λj hj=>match j,hj with
  | 0,_=>by have:=ledCells_get hi (j:=0) (by omega);simpa [entCells]using this
  | 1,_=>by have:=ledCells_get hi (j:=1) (by omega);simpa [entCells]using this
  | 2,_=>by have:=ledCells_get hi (j:=2) (by omega);simpa [entCells]using this
  | 3,_=>by have:=ledCells_get hi (j:=3) (by omega);simpa [entCells]using this
  | 4,_=>by have:=ledCells_get hi (j:=4) (by omega);simpa [entCells]using this
  | 5,_=>by have:=ledCells_get hi (j:=5) (by omega);simpa [entCells]using this
  | 6,_=>by have:=ledCells_get hi (j:=6) (by omega);simpa [entCells]using this
  | 7,_=>by have:=ledCells_get hi (j:=7) (by omega);simpa [entCells]using this
  | 8,_=>by have:=ledCells_get hi (j:=8) (by omega);simpa [entCells]using this
  | 9,_=>by have:=ledCells_get hi (j:=9) (by omega);simpa [entCells]using this
  | 10,_=>by have:=ledCells_get hi (j:=10) (by omega);simpa [entCells]using this
  | 11,_=>by have:=ledCells_rep hi;simpa [entCells]using this
  | n+12,h=>absurd h (by omega)
 apply Array.ext_getElem?
 intro j
 rw[Array.getElem?_extract]
 rcases Nat.lt_or_ge j 12 with hj | hj
 ·rw[if_pos (by rw[ledCells_size];omega),key j hj]
 ·rw[if_neg (by rw[ledCells_size];omega),Array.getElem?_eq_none (by simpa [entCells]using hj)]
theorem entCells_acct (L:Led) (i:Nat):(entCells L i).extract 0 10=acctCells L i:=rfl
def sumN (g:Nat->Int):Nat->Int
 | 0=>0
 | k+1=>sumN g k+g k
theorem sumN_bd {g:Nat->Int} {M:Int} (hM:0<=M):∀(k:Nat),(∀i,i<k->0<=g i/\g i<=M)->0<=sumN g k/\sumN g k<=k*M
 | 0,_=>by simp[sumN]
 | k+1,h=>by
  have ih:=sumN_bd hM k (λi hi=>h i (by omega))
  have h1:=h k (by omega)
  simp only[sumN]
  rw[show ((k+1:Nat):Int)*M=k*M+M by rw[Int.natCast_add,Int.add_mul];simp]
  omega
def cells4 (g:Nat->Int):Array Value:=#[.int .i64 (g 0),.int .i64 (g 1),.int .i64 (g 2),.int .i64 (g 3)]
theorem cells4_get (g:Nat->Int) {m:Nat} (hm:m<4):(cells4 g)[m]?=some (.int .i64 (g m)):=match m,hm with
 | 0,_=>rfl
 | 1,_=>rfl
 | 2,_=>rfl
 | 3,_=>rfl
 | n+4,h=>absurd h (by omega)
theorem cells4_set (g:Nat->Int) {m:Nat} (hm:m<4) (v:Int):(cells4 g).setIfInBounds m (.int .i64 v)=cells4 (λj=>if j=m then v else g j):=match m,hm with
 | 0,_=>rfl
 | 1,_=>rfl
 | 2,_=>rfl
 | 3,_=>rfl
 | n+4,h=>absurd h (by omega)
theorem cells4_congr {g g':Nat->Int} (h:∀j,j<4->g j=g' j):cells4 g=cells4 g':=by
 unfold cells4;rw[h 0 (by omega),h 1 (by omega),h 2 (by omega),h 3 (by omega)]
theorem entCells_goods (L:Led) (i:Nat):(entCells L i).extract 2 6=cells4 λj=>L.f i (2+j):=rfl
section
variable {h:PH} {R:AEnd->PH->Prop} {x b:Nat} {L:Led} {K:Value->Prop} {KH:PH->Prop}
theorem LedAt.ldEnt (hL:LedAt h x b L) {i:Nat} (hi:i<L.n):vLoad (some 12) (.pointer (some ⟨b,i*12,none⟩)) h K↔K (.agg (entCells L i)):=by
 rw[vLoad_n hL.hb (by rw[ledCells_size];omega),ledCells_ent hi]
def cashOf (L:Led):Int:=sumN (λi=>L.f i 0) L.n
def goodOf (L:Led) (j:Nat):Int:=sumN (λi=>L.f i (2+j)) L.n
theorem totals_ok (hL:LedAt h x b L) (hs:L.small) (hR:R (.ret (.tuple #[.int .i64 (cashOf L),.agg (cells4 (goodOf L))])) h):ACalls Tryz.prog 50 #[ptr x] h R:=by
 refine ACalls.drop (call50 ?_)
 unfold sh50
 refine vNew_i λc hc=>?_
 have hL1:∀o,LedAt (ins h c o) x b L:=λo=>hL.sub (sub_ins _ hc)
 rw[vBin_pnil Tryz.underlying81]
 simp only[dIf_b,Bool.false_eq_true,false_implies,true_and,vNil_p,vFA_p,forall_const,Nat.zero_add]
 have hcl:=hs.cl
 rw[vLoad_1 (hL1 _).hx (v:=.slice (some ⟨b,0,none⟩) L.n L.n) rfl]
 simp only[vLenS_s]
 have bd:∀j k,j<11->k<=L.n->0<=sumN (λi=>L.f i j) k/\sumN (λi=>L.f i j) k<=17592186044416:=λj k hj hk=>by
  have h1:=sumN_bd (g:=λi=>L.f i j) (M:=1099511627776) (by omega) k (λi hi=>hs.num i j (by omega) hj)
  have h2:=hs.cl
  refine⟨h1.1,?_⟩
  have:(k:Int)*1099511627776<=16*1099511627776:=Int.mul_le_mul_of_nonneg_right (by omega) (by omega)
  omega
 refine lf_intro (λm s g=>∃k,k<=L.n/\m=L.n-k/\s=(.int .i64 (sumN (λi=>L.f i 0) k),.int .i64 (k:Nat))/\Sub (ins h c (.cells (cells4 λj=>sumN (λi=>L.f i (2+j)) k) 59 (0,0))) g) L.n ?_ ?_
 ·exact⟨0,by omega,by omega,rfl,Sub.refl _⟩
 ·rintro m s g ⟨k,hk,rfl,rfl,hg⟩
  unfold b50_3
  have hLg:LedAt g x b L:=(hL1 _).sub hg
  simp only[vBin_lss,dIf_b,decide_eq_true_eq,decide_eq_false_iff_not]
  refine⟨λhlt=>?_,λhge=>?_⟩
  ·have hlt':k<L.n:=by omega
   have b0:=bd 0 k (by omega) hk
   have e0:=hs.num k 0 hlt' (by omega)
   simp only[vIxS_p,Nat.zero_add,Int.toNat_natCast]
   refine⟨by omega,by omega,?_⟩
   rw[hLg.ldEnt hlt']
   refine vNew_i λq hq=>?_
   have hqc:q≠c:=λe=>by subst e;rw[hg.get]at hq;cases hq
   refine vStore_to (ins_eq _ _ _) (by rfl) (by rfl) (by rfl) ?_
   rw[ins_ins]
   simp only[vFA_p]
   rw[vLoad_1 (ins_eq _ _ _) (v:=.int .i64 (L.f k 0)) rfl]
   simp only[vBin_add]
   rw[w64 (by omega) (by omega)]
   rw[vLoad_n (ins_eq _ _ _) (by simp[entCells])]
   rw[show (entCells L k).extract (0+0+2) (0+0+2+4)=cells4 λj=>L.f k (2+j)from rfl]
   have hgq:∀o,Sub (ins h c (.cells (cells4 λj=>sumN (λi=>L.f i (2+j)) k) 59 (0,0))) (ins g q o):=λo=>hg.put (hg.fresh hq)
   refine lf_intro (λm s g=>∃t,t<=4/\m=4-t/\s = .int .i64 (t:Nat)/\Sub (ins h c (.cells (cells4 λj=>if j<t then sumN (λi=>L.f i (2+j)) (k+1)else sumN (λi=>L.f i (2+j)) k) 59 (0,0))) g) 4 ?_ ?_
   ·exact⟨0,by omega,by omega,rfl,by simpa using hgq _⟩
   ·rintro m s g' ⟨t,ht,rfl,rfl,hg'⟩
    unfold b50_7
    simp only[vBin_lss,dIf_b,decide_eq_true_eq,decide_eq_false_iff_not]
    refine⟨λhlt2=>?_,λhge2=>?_⟩
    ·have ht4:t<4:=by omega
     have bt:=bd (2+t) k (by omega) hk
     have et:=hs.num k (2+t) hlt' (by omega)
     refine⟨_,_,_,rfl,rfl,by omega,by omega,.int .i64 (L.f k (2+t)),?_,?_⟩
     ·simpa using cells4_get (λj=>L.f k (2+j)) ht4
     ·simp only[vIxA_p,Nat.zero_add,Int.toNat_natCast,Nat.mul_one]
      refine⟨by omega,by omega,?_⟩
      rw[vLoad_1 hg'.get (cells4_get _ ht4)]
      simp only[vBin_add,vIxA_p,Nat.zero_add,Int.toNat_natCast,Nat.mul_one]
      refine⟨by omega,by omega,?_⟩
      rw[vStore_1 hg'.get (by simpa [cells4]using ht4) rfl,cells4_set _ ht4]
      refine⟨trivial,3-t,by omega,t+1,by omega,by omega,?_,?_⟩
      ·rw[w64 (by omega) (by omega)];rfl
      ·rw[if_neg (by omega),w64 (by omega) (by omega)]
       rw[show (cells4 λj=>if j=t then sumN (λi=>L.f i (2+t)) k+L.f k (2+t)else if j<t then sumN (λi=>L.f i (2+j)) (k+1)else sumN (λi=>L.f i (2+j)) k) =
        cells4 λj=>if j<t+1 then sumN (λi=>L.f i (2+j)) (k+1)else sumN (λi=>L.f i (2+j)) k from cells4_congr λj hj=>by
         by_cases e1:j=t
         ·subst e1;rw[if_pos rfl,if_pos (by omega)];rfl
         ·rw[if_neg e1]
          by_cases e2:j<t
          ·rw[if_pos e2,if_pos (by omega)]
          ·rw[if_neg e2,if_neg (by omega)]]
       exact hg'.over
    ·have:t=4:=by omega
     subst this
     intro r hr
     simp only[Prod.mk.injEq]at hr
     obtain⟨r2,r3,r13,r14,r15⟩:=hr
     simp only[r15,vBin_add,r3,r13,r14,r2]
     refine⟨trivial,L.n-(k+1),by omega,k+1,by omega,rfl,?_,?_⟩
     ·rw[w64 (by omega) (by omega)];rfl
     ·rw[show (cells4 λj=>sumN (λi=>L.f i (2+j)) (k+1))=cells4 λj=>if j<4 then sumN (λi=>L.f i (2+j)) (k+1)else sumN (λi=>L.f i (2+j)) k from cells4_congr λj hj=>by rw[if_pos hj]]
      exact hg'
  ·have:k=L.n:=by omega
   subst this
   intro r hr
   simp only[Prod.mk.injEq]at hr
   obtain⟨r2,r3⟩:=hr
   simp only[r2,r3]
   rw[vLoad_n hg.get (by simp[cells4])]
   exact⟨h,Sub.under hc hg,hR⟩
def payL (L:Led) (i:Nat) (n:Int):Int×Led:=if partE L 0 n≠0 then (1,L)else if 1099511627776<cashOf L+n then (62,L)else (0,L.set i 0 (L.f i 0+n))
def storeL (L:Led) (i:Nat) (g n:Int):Int×Led:=if partE L g n≠0 then (1,L)else if 1099511627776<goodOf L g.toNat+n then (62,L)else (0,L.set i (2+g.toNat) (L.f i (2+g.toNat)+n))
theorem bd_sum (hs:L.small) {j:Nat} (hj:j<11):0<=sumN (λi=>L.f i j) L.n/\sumN (λi=>L.f i j) L.n<=17592186044416:=by
 have h1:=sumN_bd (g:=λi=>L.f i j) (M:=1099511627776) (by omega) L.n (λi hi=>hs.num i j hi hj)
 have h2:=hs.cl
 refine⟨h1.1,?_⟩
 have:(L.n:Int)*1099511627776<=16*1099511627776:=Int.mul_le_mul_of_nonneg_right (by omega) (by omega)
 omega
variable {i:Nat} {g n:Int}
theorem pay_ok (hL:LedAt h x b L) (hs:L.small) (hi:i<L.n) (hR:R (.ret (.int .i64 (payL L i n).1)) (putLed h b (payL L i n).2)) :
  ACalls Tryz.prog 65 #[ptr x,.int .i64 i,.int .i64 n] h R:=by
 refine ACalls.drop (call65 ?_)
 unfold sh65
 refine part_ok hL hi ?_
 rcases partE_cases L 0 n with hp | hp
 ·have hn:=partE_n hp
  have g0:=hs.num i 0 hi (by omega)
  have b0:=bd_sum hs (j:=0) (by omega)
  simp only[payL,hp]at hR
  simp[AEnd.elim,hp]
  refine totals_ok hL hs ?_
  simp only[AEnd.elim,vExt_20,vExt_21]
  refine vNew_i λc hc=>?_
  refine vStore_to (ins_eq _ _ _) (by rfl) (by rfl) (by rfl) ?_
  rw[ins_ins]
  have hL1:∀o,LedAt (ins h c o) x b L:=λo=>hL.sub (sub_ins _ hc)
  have hcb:c≠b:=(ne_fresh hc hL.hb).symm
  simp only[vBin_add]
  unfold cashOf
  rw[w64 (by omega) (by omega)]
  simp only[vBin_gtr,dIf_b,decide_eq_true_eq,decide_eq_false_iff_not,vNil_p,vFA_p,Nat.add_zero]
  refine⟨λhlt=>⟨h,sub_ins _ hc,?_⟩,λhle=>?_⟩
  ·simp[cashOf,hlt,putLed_self hL]at hR
   exact hR
  ·simp[cashOf,hle]at hR
   rw[(hL1 _).ld0 hi]
   simp only[vBin_add]
   rw[w64 (by omega) (by omega),(hL1 _).st0 hi]
   refine⟨_,?_,hR⟩
   unfold putLed
   exact (sub_ins _ hc).both
 ·simp[payL,hp,putLed_self hL]at hR
  simp[AEnd.elim,hp]
  exact⟨h,Sub.refl _,hR⟩
theorem store_ok (hL:LedAt h x b L) (hs:L.small) (hi:i<L.n) (hR:R (.ret (.int .i64 (storeL L i g n).1)) (putLed h b (storeL L i g n).2)) :
  ACalls Tryz.prog 69 #[ptr x,.int .i64 i,.int .i64 g,.int .i64 n] h R:=by
 refine ACalls.drop (call69 ?_)
 unfold sh69
 refine part_ok hL hi ?_
 rcases partE_cases L g n with hp | hp
 ·have hn:=partE_n hp
  have hg4:g<4:=by have:=hs.gd;omega
  have g0:=hs.num i (2+g.toNat) hi (by omega)
  have b0:=bd_sum hs (j:=2+g.toNat) (by omega)
  simp only[storeL,hp]at hR
  simp[AEnd.elim,hp]
  refine totals_ok hL hs ?_
  simp only[AEnd.elim,vExt_20,vExt_21]
  refine vNew_i λc hc=>?_
  refine vStore_to (ins_eq _ _ _) (by rfl) (by rfl) (by rfl) ?_
  rw[ins_ins]
  have hL1:∀o,LedAt (ins h c o) x b L:=λo=>hL.sub (sub_ins _ hc)
  simp only[vIxA_p,Nat.zero_add,Nat.mul_one]
  refine⟨hn.1,by omega,?_⟩
  rw[vLoad_1 (ins_eq _ _ _) (cells4_get _ (by omega))]
  simp only[vBin_add]
  unfold goodOf
  rw[w64 (by omega) (by omega)]
  simp only[vBin_gtr,dIf_b,decide_eq_true_eq,decide_eq_false_iff_not,vNil_p,vFA_p,Nat.add_zero,vIxA_p,Nat.mul_one]
  refine⟨λhlt=>⟨h,sub_ins _ hc,?_⟩,λhle=>⟨hn.1,by omega,?_⟩⟩
  ·simp[goodOf,hlt,putLed_self hL]at hR
   exact hR
  ·simp[goodOf,hle]at hR
   rw[Nat.add_assoc,(hL1 _).ld hi (by omega)]
   simp only[vBin_add]
   refine⟨hn.1,by omega,?_⟩
   rw[w64 (by omega) (by omega),(hL1 _).st hi (by omega)]
   refine⟨_,?_,hR⟩
   unfold putLed
   exact (sub_ins _ hc).both
 ·simp[storeL,hp,putLed_self hL]at hR
  simp[AEnd.elim,hp]
  exact⟨h,Sub.refl _,hR⟩
end
end Go.Pw
set_option linter.unusedSimpArgs false
set_option linter.unusedVariables false
namespace Go.Pw
open Go Go.Proofs
section
variable {h:PH} {R:AEnd->PH->Prop} {x b:Nat} {L:Led} {K:Value->Prop} {KH:PH->Prop} {i j:Nat} {g n:Int}
def moveTo (L:Led) (i j:Nat) (n:Int):Led:=
 let L1:=L.set i 1 (L.f i 1-n)
 let L2:=L1.set i 0 (L1.f i 0-n)
 L2.set j 0 (L2.f j 0+n)
def moveL (L:Led) (i j:Nat) (n:Int):Int×Led:=if partE L 0 n≠0 then (1,L)else if L.f i 1<n then (61,L)else (0,moveTo L i j n)
def handTo (L:Led) (i j:Nat) (g:Nat) (n:Int):Led:=
 let L1:=L.set i (6+g) (L.f i (6+g)-n)
 let L2:=L1.set i (2+g) (L1.f i (2+g)-n)
 L2.set j (2+g) (L2.f j (2+g)+n)
def handL (L:Led) (i j:Nat) (g n:Int):Int×Led:=if partE L g n≠0 then (1,L)else if L.f i (6+g.toNat)<n then (61,L)else (0,handTo L i j g.toNat n)
def markL (L:Led) (i:Nat) (s:Int) (t:ByteArray):Int×Led:=
 if s<1\/1099511627776<s\/256<(t.size:Int)then (1,L)else if s<=L.f i 10 then (91,L)else (0,(L.set i 10 s).setR i t)
theorem set_ne {L:Led} {i j a c:Nat} {v:Int} (h:¬(a=i/\c=j)):(L.set i j v).f a c=L.f a c:=by simp[Led.set,h]
theorem move_ok (hL:LedAt h x b L) (hs:L.small) (hi:i<L.n) (hj:j<L.n) (hR:R (.ret (.int .i64 (moveL L i j n).1)) (putLed h b (moveL L i j n).2)) :
  ACalls Tryz.prog 175 #[ptr x,.int .i64 i,.int .i64 j,.int .i64 n] h R:=by
 refine call175 ?_
 unfold sh175
 refine find_ok hL hi ?_
 simp[AEnd.elim]
 refine part_ok hL hj ?_
 rcases partE_cases L 0 n with hp | hp
 ·have hn:=partE_n hp
  have g1:=hs.num i 1 hi (by omega)
  have g0:=hs.num i 0 hi (by omega)
  have g2:=hs.num j 0 hj (by omega)
  simp only[moveL,hp]at hR
  simp[AEnd.elim,hp,vLoad_1 hL.hx,hi,hL.ld hi]
  refine⟨λhlt=>?_,λhle=>?_⟩
  ·simp[hlt,putLed_self hL]at hR
   exact hR
  ·have hlt:¬(L.f i 1<n):=by omega
   simp[hlt]at hR
   rw[w64 (by omega) (by omega),hL.st hi (by omega)]
   have hL1:=hL.after i 1 (L.f i 1-n)
   rw[hL1.ld0 hi]
   have e1:(L.set i 1 (L.f i 1-n)).f i 0=L.f i 0:=set_ne (by omega)
   simp only[vBin_sub,vBin_add]
   rw[e1,w64 (by omega) (by omega),hL1.st0 hi]
   have hL2:=hL1.after i 0 (L.f i 0-n)
   rw[hL2.ld0 hj]
   have e2:-1099511627776<=((L.set i 1 (L.f i 1-n)).set i 0 (L.f i 0-n)).f j 0/\((L.set i 1 (L.f i 1-n)).set i 0 (L.f i 0-n)).f j 0<=1099511627776:=by
    by_cases e:j=i
    ·subst e;simp only[Led.set,and_self,if_true];omega
    ·rw[set_ne (by omega),set_ne (by omega)];omega
   simp only[vBin_add]
   rw[w64 (by omega) (by omega),hL2.st0 hj]
   rw[putLed_put,putLed_put]
   unfold moveTo at hR
   simp only[e1]at hR
   exact hR
 ·simp[moveL,hp,putLed_self hL]at hR
  simp[AEnd.elim,hp,hR]
theorem hand_ok (hL:LedAt h x b L) (hs:L.small) (hi:i<L.n) (hj:j<L.n) (hR:R (.ret (.int .i64 (handL L i j g n).1)) (putLed h b (handL L i j g n).2)) :
  ACalls Tryz.prog 174 #[ptr x,.int .i64 i,.int .i64 j,.int .i64 g,.int .i64 n] h R:=by
 refine call174 ?_
 unfold sh174
 refine find_ok hL hi ?_
 simp[AEnd.elim]
 refine part_ok hL hj ?_
 rcases partE_cases L g n with hp | hp
 ·have hn:=partE_n hp
  have hg4:g<4:=by have:=hs.gd;omega
  have g1:=hs.num i (6+g.toNat) hi (by omega)
  have g0:=hs.num i (2+g.toNat) hi (by omega)
  have g2:=hs.num j (2+g.toNat) hj (by omega)
  simp only[handL,hp]at hR
  simp[AEnd.elim,hp,vLoad_1 hL.hx,hi,hn.1,hg4,Nat.add_assoc]
  rw[hL.ld hi (by omega)]
  simp only[vBin_lss,dIf_b,decide_eq_true_eq,decide_eq_false_iff_not,Int.not_lt]
  refine⟨λhlt=>?_,λhle=>?_⟩
  ·simp[hlt,putLed_self hL]at hR
   exact hR
  ·have hlt:¬(L.f i (6+g.toNat)<n):=by omega
   simp[hlt]at hR
   rw[hL.ld hi (by omega)]
   simp only[vBin_sub,vBin_add]
   rw[w64 (by omega) (by omega),hL.st hi (by omega)]
   have hL1:=hL.after i (6+g.toNat) (L.f i (6+g.toNat)-n)
   rw[hL1.ld hi (by omega)]
   have e1:(L.set i (6+g.toNat) (L.f i (6+g.toNat)-n)).f i (2+g.toNat)=L.f i (2+g.toNat):=set_ne (by omega)
   simp only[vBin_sub,vBin_add]
   rw[e1,w64 (by omega) (by omega),hL1.st hi (by omega)]
   have hL2:=hL1.after i (2+g.toNat) (L.f i (2+g.toNat)-n)
   rw[hL2.ld hj (by omega)]
   have e2:-1099511627776<=((L.set i (6+g.toNat) (L.f i (6+g.toNat)-n)).set i (2+g.toNat) (L.f i (2+g.toNat)-n)).f j (2+g.toNat)/\((L.set i (6+g.toNat) (L.f i (6+g.toNat)-n)).set i (2+g.toNat) (L.f i (2+g.toNat)-n)).f j (2+g.toNat)<=1099511627776:=by
    by_cases e:j=i
    ·subst e;simp only[Led.set,and_self,if_true];omega
    ·rw[set_ne (by omega),set_ne (by omega)];omega
   simp only[vBin_sub,vBin_add]
   rw[w64 (by omega) (by omega),hL2.st hj (by omega)]
   rw[putLed_put,putLed_put]
   unfold handTo at hR
   simp only[e1]at hR
   exact hR
 ·simp[handL,hp,putLed_self hL]at hR
  simp[AEnd.elim,hp,hR]
theorem mark_ok (hL:LedAt h x b L) (hi:i<L.n) {s:Int} {t:ByteArray} (hR:R (.ret (.int .i64 (markL L i s t).1)) (putLed h b (markL L i s t).2)) :
  ACalls Tryz.prog 35 #[ptr x,.int .i64 i,.int .i64 s,.string t] h R:=by
 refine call35 ?_
 unfold sh35
 refine find_ok hL hi ?_
 unfold markL at hR
 by_cases h1:s<1
 ·simp[h1,putLed_self hL]at hR
  simp[AEnd.elim,h1,hR]
 ·by_cases h2:1099511627776<s
  ·simp[h2,putLed_self hL]at hR
   simp[AEnd.elim,h1,h2,hR]
  ·by_cases h3:256<(t.size:Int)
   ·simp[h3,putLed_self hL]at hR
    simp[AEnd.elim,h1,h2,h3,hR]
   ·rw[if_neg (by omega)]at hR
    simp[AEnd.elim,h1,h2,h3,hL.ld hi]
    refine⟨λhle=>?_,λhgt=>?_⟩
    ·simp[hle,putLed_self hL]at hR
     exact hR
    ·rw[if_neg (by omega)]at hR
     rw[hL.st hi (by omega),(hL.after i 10 s).stR hi,putLed_put]
     exact hR
theorem last_ok (hL:LedAt h x b L) (hi:i<L.n) (hR:R (.ret (.tuple #[.int .i64 (L.f i 10),.string (L.r i)])) h):ACalls Tryz.prog 31 #[ptr x,.int .i64 i] h R:=by
 refine call31 ?_
 unfold sh31
 refine find_ok hL hi ?_
 simp[AEnd.elim,hL.ld hi,hL.ldR hi,hR]
def acct0:Array Value:=#[.int .i64 0,.int .i64 0,.int .i64 0,.int .i64 0,.int .i64 0,.int .i64 0,.int .i64 0,.int .i64 0,.int .i64 0,.int .i64 0]
theorem acct_bad (hL:LedAt h x b L) {who:Int} (hw:who<0\/(L.n:Int)<=who) (hR:R (.ret (.tuple #[.agg acct0,.bool false])) h):ACalls Tryz.prog 30 #[ptr x,.int .i64 who] h R:=by
 refine ACalls.drop (call30 ?_)
 unfold sh30
 refine vNew_i λc hc=>?_
 refine find_bad (hL.sub (sub_ins _ hc)) hw ?_
 simp[AEnd.elim]
 refine⟨_,rfl,?_⟩
 refine vStore_to (ins_eq _ _ _) (by rfl) (by rfl) (by rfl) ?_
 rw[ins_ins,vLoad_n (ins_eq _ _ _) (by simp)]
 exact⟨h,sub_ins _ hc,hR⟩
theorem acct_ok (hL:LedAt h x b L) (hi:i<L.n) (hR:R (.ret (.tuple #[.agg (acctCells L i),.bool true])) h):ACalls Tryz.prog 30 #[ptr x,.int .i64 i] h R:=by
 refine ACalls.drop (call30 ?_)
 unfold sh30
 refine vNew_i λc hc=>?_
 have hL1:=hL.sub (sub_ins (h:=h) (.cells acct0 61 (0,0)) hc)
 refine find_ok (L:=L) hL1 hi ?_
 simp[AEnd.elim]
 rw[vLoad_n hL1.hb (by rw[ledCells_size];omega)]
 have he:(ledCells L).extract (i*12) (i*12+10)=acctCells L i:=by
  have h1:=ledCells_ent hi
  have h2:=entCells_acct L i
  rw[<-h1]at h2
  rw[<-h2,Array.extract_extract]
  congr 1
  omega
 rw[he]
 refine vStore_to (ins_eq _ _ _) (by rfl) (by rfl) (by rfl) ?_
 rw[ins_ins,vLoad_n (ins_eq _ _ _) (by simp[acctCells])]
 exact⟨h,sub_ins _ hc,by simpa [acctCells]using hR⟩
def newLed (c g:Int):Led:={goods:=g,n:=c.toNat,f:=λ_ _=>0,r:=λ_=>⟨#[]⟩}
theorem new_bad {c g:Int} (hb:¬(1<=c/\c<=16/\1<=g/\g<=4)) (hR:R (.ret (.tuple #[.pointer none,.int .i64 1])) h):ACalls Tryz.prog 43 #[.int .i64 c,.int .i64 g] h R:=by
 refine call43 ?_
 unfold sh43
 by_cases h1:c<1
 ·simp[h1,hR]
 ·by_cases h2:16<c
  ·simp[h1,h2,hR]
  ·by_cases h3:g<1
   ·simp[h1,h2,h3,hR]
   ·have h4:4<g:=by omega
    simp[h1,h2,h3,h4,hR]
theorem newLed_cells (c g:Int):rep #[.int .i64 0,.int .i64 0,.int .i64 0,.int .i64 0,.int .i64 0,.int .i64 0,.int .i64 0,.int .i64 0,.int .i64 0,.int .i64 0,.int .i64 0,.string ⟨#[]⟩] (c.toNat*12)=ledCells (newLed c g):=by
 apply Array.ext_getElem?
 intro k
 unfold rep
 rcases Nat.lt_or_ge k (c.toNat*12)with hk | hk
 ·rw[ledCells_at _ _ (by simpa [newLed]using hk)]
  simp only[Array.getElem?_map,Array.getElem?_range,hk,if_true,Option.map_some]
  congr 1
  have hm:k%12<12:=by omega
  unfold ledCell newLed
  simp only[List.size_toArray,List.length_cons,List.length_nil]
  match hk:k%12,hm with
  | 0,_=>rfl
  | 1,_=>rfl
  | 2,_=>rfl
  | 3,_=>rfl
  | 4,_=>rfl
  | 5,_=>rfl
  | 6,_=>rfl
  | 7,_=>rfl
  | 8,_=>rfl
  | 9,_=>rfl
  | 10,_=>rfl
  | 11,_=>rfl
  | n+12,h=>exact absurd h (by omega)
 ·rw[Array.getElem?_eq_none (by simp;omega),Array.getElem?_eq_none (by rw[ledCells_size];simpa [newLed]using hk)]
theorem new_ok {c g:Int} (hc1:1<=c) (hc2:c<=16) (hg1:1<=g) (hg2:g<=4)
  (hR:∀x b,h b=none->h x=none->x≠b->R (.ret (.tuple #[ptr x,.int .i64 0])) (ins (ins h b (.cells (ledCells (newLed c g)) 132 (0,0))) x (.cells #[.int .i64 g,.slice (some ⟨b,0,none⟩) c.toNat c.toNat] 149 (0,0)))) :
  ACalls Tryz.prog 43 #[.int .i64 c,.int .i64 g] h R:=by
 refine call43 ?_
 unfold sh43
 have h1:¬c<1:=by omega
 have h2:¬16<c:=by omega
 have h3:¬g<1:=by omega
 have h4:¬4<g:=by omega
 simp[h1,h2,h3,h4]
 refine⟨_,_,_,_,rfl,rfl,by omega,by omega,by omega,by omega,λb hb=>?_⟩
 refine⟨_,rfl,?_⟩
 refine vNew_i λx hx=>?_
 obtain⟨hx1,hx2⟩:=fresh_of hx
 have:=hR x b hb hx1 hx2
 rw[newLed_cells c g]
 exact this
end
end Go.Pw
set_option linter.unusedSimpArgs false
set_option linter.unusedVariables false
namespace Go.Pw
open Go Go.Proofs
structure ActV where
 k:Int
 who:Int
 to:Int
 good:Int
 n:Int
 t:ByteArray
def ActV.cells (a:ActV):Array Value:=#[.int .i64 a.k,.int .i64 a.who,.int .i64 a.to,.int .i64 a.good,.int .i64 a.n,.string a.t]
def ActV.v (a:ActV):Value:=.agg a.cells
section
variable {h:PH} {R:AEnd->PH->Prop} {x b:Nat} {L:Led}
def rnd (k:Int):Int:=if k.tmod 11<0 then 0-k.tmod 11 else k.tmod 11
end
end Go.Pw
set_option linter.unusedSimpArgs false
set_option linter.unusedVariables false
namespace Go.Pw
open Go Go.Proofs
structure Inv (L:Led):Prop where
 pos:∀i j,i<L.n->j<11->0<=L.f i j
 cash:cashOf L<=1099511627776
 good:∀j,j<4->goodOf L j<=1099511627776
 held:∀i,i<L.n->L.f i 1<=L.f i 0
 lock:∀i j,i<L.n->j<4->L.f i (6+j)<=L.f i (2+j)
 stamp:∀i,i<L.n->L.f i 10<=1099511627776
 cl:L.n<=16
 gd:L.goods<=4
 g0:1<=L.goods
 rep:∀i,i<L.n->(L.r i).size<=256
theorem sumN_ge {g:Nat->Int}:∀(k:Nat),(∀i,i<k->0<=g i)->∀i,i<k->g i<=sumN g k
 | 0,_,i,hi=>absurd hi (by omega)
 | k+1,h,i,hi=>by
  have h0:0<=sumN g k:=by
   have:∀m,m<=k->0<=sumN g m:=λm=>by
    induction m with
    | zero=>intro _;simp[sumN]
    | succ m ih=>intro hm;simp only[sumN];have:=ih (by omega);have:=h m (by omega);omega
   exact this k (Nat.le_refl _)
  simp only[sumN]
  by_cases e:i=k
  ·subst e;omega
  ·have:=sumN_ge k (λi hi=>h i (by omega)) i (by omega)
   have:=h k (by omega)
   omega
theorem sumN_congr {g g':Nat->Int}:∀(k:Nat),(∀i,i<k->g i=g' i)->sumN g k=sumN g' k
 | 0,_=>rfl
 | k+1,h=>by simp only[sumN];rw[sumN_congr k (λi hi=>h i (by omega)),h k (by omega)]
theorem sumN_put {g:Nat->Int} {a:Nat} {v:Int}:∀(k:Nat),a<k->sumN (λi=>if i=a then v else g i) k=sumN g k+v-g a
 | 0,h=>absurd h (by omega)
 | k+1,h=>by
  simp only[sumN]
  by_cases e:a=k
  ·subst e
   rw[sumN_congr (g':=g) a (λi hi=>if_neg (by omega)),if_pos rfl];omega
  ·rw[sumN_put k (by omega),if_neg (by omega)];omega
theorem Inv.small {L:Led} (h:Inv L):L.small where
 num i j hi hj:=by
  refine⟨h.pos i j hi hj,?_⟩
  have hc:L.f i 0<=1099511627776:=Int.le_trans (sumN_ge (g:=λi=>L.f i 0) L.n (λa ha=>h.pos a 0 ha (by omega)) i hi) h.cash
  have hg:∀m,m<4->L.f i (2+m)<=1099511627776:=λm hm=>Int.le_trans (sumN_ge (g:=λi=>L.f i (2+m)) L.n (λa ha=>h.pos a (2+m) ha (by omega)) i hi) (h.good m hm)
  match j,hj with
  | 0,_=>exact hc
  | 1,_=>exact Int.le_trans (h.held i hi) hc
  | 2,_=>exact hg 0 (by omega)
  | 3,_=>exact hg 1 (by omega)
  | 4,_=>exact hg 2 (by omega)
  | 5,_=>exact hg 3 (by omega)
  | 6,_=>exact Int.le_trans (h.lock i 0 hi (by omega)) (hg 0 (by omega))
  | 7,_=>exact Int.le_trans (h.lock i 1 hi (by omega)) (hg 1 (by omega))
  | 8,_=>exact Int.le_trans (h.lock i 2 hi (by omega)) (hg 2 (by omega))
  | 9,_=>exact Int.le_trans (h.lock i 3 hi (by omega)) (hg 3 (by omega))
  | 10,_=>exact h.stamp i hi
  | n+11,hj=>exact absurd hj (by omega)
 cl:=h.cl
 gd:=h.gd
 rep:=h.rep
theorem sum_set (L:Led) {i j c:Nat} {v:Int} (hi:i<L.n):sumN (λa=>(L.set i j v).f a c) L.n=if c=j then sumN (λa=>L.f a c) L.n+v-L.f i c else sumN (λa=>L.f a c) L.n:=by
 by_cases e:c=j
 ·subst e
  rw[if_pos rfl,<-sumN_put (g:=λa=>L.f a c) L.n hi]
  apply sumN_congr
  intro a _
  simp[Led.set]
 ·rw[if_neg e]
  apply sumN_congr
  intro a _
  simp[Led.set,e]
theorem Inv.set {L:Led} (h:Inv L) {i j:Nat} {v:Int} (hi:i<L.n) (hj:j<11) (hv:0<=v)
  (c0:j=0->L.f i 1<=v/\cashOf L+v-L.f i 0<=1099511627776)
  (c1:j=1->v<=L.f i 0)
  (c2:∀m,m<4->j=2+m->L.f i (6+m)<=v/\goodOf L m+v-L.f i (2+m)<=1099511627776)
  (c3:∀m,m<4->j=6+m->v<=L.f i (2+m))
  (c4:j=10->v<=1099511627776):Inv (L.set i j v) where
 pos a c ha hc:=by
  have:=h.pos a c ha hc
  simp only[Led.set];split <;> omega
 cash:=by
  have e:=sum_set L (j:=j) (c:=0) (v:=v) hi
  unfold cashOf
  have h1:=h.cash
  rw[show (L.set i j v).n=L.n from rfl,e]
  split
  ·rename_i e0;have:=(c0 e0.symm).2;unfold cashOf at this;omega
  ·exact h1
 good m hm:=by
  have e:=sum_set L (j:=j) (c:=2+m) (v:=v) hi
  unfold goodOf
  have h1:=h.good m hm
  rw[show (L.set i j v).n=L.n from rfl,e]
  split
  ·rename_i e0;have:=(c2 m hm e0.symm).2;unfold goodOf at this;omega
  ·exact h1
 held a ha:=by
  have:=h.held a ha
  simp only[Led.set]
  by_cases e:a=i
  ·subst e
   by_cases e0:j=0
   ·subst e0;have:=(c0 rfl).1;simp;omega
   ·by_cases e1:j=1
    ·subst e1;have:=c1 rfl;simp;omega
    ·rw[if_neg (by omega),if_neg (by omega)];exact this
  ·rw[if_neg (by omega),if_neg (by omega)];exact this
 lock a m ha hm:=by
  have:=h.lock a m ha hm
  simp only[Led.set]
  by_cases e:a=i
  ·subst e
   by_cases e0:j=2+m
   ·have:=(c2 m hm e0).1;rw[if_neg (by omega),if_pos (by omega)];exact this
   ·by_cases e1:j=6+m
    ·have:=c3 m hm e1;rw[if_pos (by omega),if_neg (by omega)];exact this
    ·rw[if_neg (by omega),if_neg (by omega)];exact this
  ·rw[if_neg (by omega),if_neg (by omega)];exact this
 stamp a ha:=by
  have:=h.stamp a ha
  simp only[Led.set];split
  ·rename_i e;exact c4 e.2.symm
  ·exact this
 cl:=h.cl
 gd:=h.gd
 g0:=h.g0
 rep:=h.rep
theorem Inv.setR {L:Led} (h:Inv L) {i:Nat} {s:ByteArray} (hs:s.size<=256):Inv (L.setR i s) where
 pos:=h.pos
 cash:=h.cash
 good:=h.good
 held:=h.held
 lock:=h.lock
 stamp:=h.stamp
 cl:=h.cl
 gd:=h.gd
 g0:=h.g0
 rep a ha:=by
  simp only[Led.setR];split
  ·exact hs
  ·exact h.rep a ha
section
variable {L:Led} {i j:Nat} {g n:Int}
theorem gnat {L:Led} {g n:Int} (h:Inv L) (hp:partE L g n=0):∃m:Nat,g=m/\m<4/\g.toNat=m:=by
 have:=partE_n hp
 have:=h.gd
 exact⟨g.toNat,by omega,by omega,rfl⟩
theorem inv_pay (h:Inv L) (hi:i<L.n):Inv (payL L i n).2:=by
 unfold payL
 split
 ·exact h
 ·rename_i hp
  have hn:=partE_n (Decidable.of_not_not hp)
  split
  ·exact h
  ·have:=h.held i hi
   have:=h.pos i 0 hi (by omega)
   exact h.set hi (by omega) (by omega) (λ_=>⟨by omega,by omega⟩) (λe=>absurd e (by omega)) (λm hm e=>absurd e (by omega)) (λm hm e=>absurd e (by omega)) (λe=>absurd e (by omega))
theorem inv_take (h:Inv L) (hi:i<L.n):Inv (takeL L i n).2:=by
 unfold takeL
 split
 ·exact h
 ·rename_i hp
  have hn:=partE_n (Decidable.of_not_not hp)
  split
  ·exact h
  ·have:=h.held i hi
   have:=h.pos i 1 hi (by omega)
   have:=h.cash
   exact h.set hi (by omega) (by omega) (λ_=>⟨by omega,by omega⟩) (λe=>absurd e (by omega)) (λm hm e=>absurd e (by omega)) (λm hm e=>absurd e (by omega)) (λe=>absurd e (by omega))
theorem inv_hold (h:Inv L) (hi:i<L.n):Inv (holdL L i n).2:=by
 unfold holdL
 split
 ·exact h
 ·rename_i hp
  have hn:=partE_n (Decidable.of_not_not hp)
  split
  ·exact h
  ·have:=h.pos i 1 hi (by omega)
   exact h.set hi (by omega) (by omega) (λe=>absurd e (by omega)) (λe=>by omega) (λm hm e=>absurd e (by omega)) (λm hm e=>absurd e (by omega)) (λe=>absurd e (by omega))
theorem inv_free (h:Inv L) (hi:i<L.n):Inv (freeL L i n).2:=by
 unfold freeL
 split
 ·exact h
 ·rename_i hp
  have hn:=partE_n (Decidable.of_not_not hp)
  split
  ·exact h
  ·have:=h.held i hi
   exact h.set hi (by omega) (by omega) (λe=>absurd e (by omega)) (λe=>by omega) (λm hm e=>absurd e (by omega)) (λm hm e=>absurd e (by omega)) (λe=>absurd e (by omega))
theorem inv_store (h:Inv L) (hi:i<L.n):Inv (storeL L i g n).2:=by
 unfold storeL
 split
 ·exact h
 ·rename_i hp
  have hn:=partE_n (Decidable.of_not_not hp)
  obtain⟨m,_,hm,e⟩:=gnat h (Decidable.of_not_not hp)
  rw[e]
  split
  ·exact h
  ·have:=h.lock i m hi hm
   have:=h.pos i (2+m) hi (by omega)
   exact h.set hi (by omega) (by omega) (λe=>absurd e (by omega)) (λe=>absurd e (by omega)) (λm' hm' e=>by (have em:m=m':=(by omega));subst em;exact⟨by omega,by omega⟩) (λm hm e=>absurd e (by omega)) (λe=>absurd e (by omega))
theorem inv_fetch (h:Inv L) (hi:i<L.n):Inv (fetchL L i g n).2:=by
 unfold fetchL
 split
 ·exact h
 ·rename_i hp
  have hn:=partE_n (Decidable.of_not_not hp)
  obtain⟨m,_,hm,e⟩:=gnat h (Decidable.of_not_not hp)
  rw[e]
  split
  ·exact h
  ·have:=h.lock i m hi hm
   have:=h.pos i (6+m) hi (by omega)
   have:=h.good m hm
   exact h.set hi (by omega) (by omega) (λe=>absurd e (by omega)) (λe=>absurd e (by omega)) (λm' hm' e=>by (have em:m=m':=(by omega));subst em;exact⟨by omega,by omega⟩) (λm hm e=>absurd e (by omega)) (λe=>absurd e (by omega))
theorem inv_lock (h:Inv L) (hi:i<L.n):Inv (lockL L i g n).2:=by
 unfold lockL
 split
 ·exact h
 ·rename_i hp
  have hn:=partE_n (Decidable.of_not_not hp)
  obtain⟨m,_,hm,e⟩:=gnat h (Decidable.of_not_not hp)
  rw[e]
  split
  ·exact h
  ·have:=h.pos i (6+m) hi (by omega)
   exact h.set hi (by omega) (by omega) (λe=>absurd e (by omega)) (λe=>absurd e (by omega)) (λm hm e=>absurd e (by omega)) (λm' hm' e=>by (have em:m=m':=(by omega));subst em;omega) (λe=>absurd e (by omega))
theorem inv_unlock (h:Inv L) (hi:i<L.n):Inv (unlockL L i g n).2:=by
 unfold unlockL
 split
 ·exact h
 ·rename_i hp
  have hn:=partE_n (Decidable.of_not_not hp)
  obtain⟨m,_,hm,e⟩:=gnat h (Decidable.of_not_not hp)
  rw[e]
  split
  ·exact h
  ·have:=h.lock i m hi hm
   exact h.set hi (by omega) (by omega) (λe=>absurd e (by omega)) (λe=>absurd e (by omega)) (λm hm e=>absurd e (by omega)) (λm' hm' e=>by (have em:m=m':=(by omega));subst em;omega) (λe=>absurd e (by omega))
theorem set_eq {L:Led} {i j:Nat} {v:Int}:(L.set i j v).f i j=v:=by simp[Led.set]
theorem inv_move (h:Inv L) (hi:i<L.n) (hj:j<L.n):Inv (moveL L i j n).2:=by
 unfold moveL
 split
 ·exact h
 ·rename_i hp
  have hn:=partE_n (Decidable.of_not_not hp)
  split
  ·exact h
  ·have h1:=h.held i hi
   have h2:=h.cash
   have i1:Inv (L.set i 1 (L.f i 1-n)):=h.set hi (by omega) (by omega) (λe=>absurd e (by omega)) (λe=>by omega) (λm hm e=>absurd e (by omega)) (λm hm e=>absurd e (by omega)) (λe=>absurd e (by omega))
   have e0:(L.set i 1 (L.f i 1-n)).f i 0=L.f i 0:=set_ne (by omega)
   have e1:(L.set i 1 (L.f i 1-n)).f i 1=L.f i 1-n:=set_eq
   have ec:cashOf (L.set i 1 (L.f i 1-n))=cashOf L:=by unfold cashOf;rw[show (L.set i 1 (L.f i 1-n)).n=L.n from rfl,sum_set L hi,if_neg (by omega)]
   have i2:Inv ((L.set i 1 (L.f i 1-n)).set i 0 ((L.set i 1 (L.f i 1-n)).f i 0-n)):=i1.set hi (by omega) (by omega) (λ_=>⟨by omega,by omega⟩) (λe=>absurd e (by omega)) (λm hm e=>absurd e (by omega)) (λm hm e=>absurd e (by omega)) (λe=>absurd e (by omega))
   have ec2:cashOf ((L.set i 1 (L.f i 1-n)).set i 0 ((L.set i 1 (L.f i 1-n)).f i 0-n))=cashOf L-n:=by
    unfold cashOf at ec ⊢
    rw[show ((L.set i 1 (L.f i 1-n)).set i 0 ((L.set i 1 (L.f i 1-n)).f i 0-n)).n=(L.set i 1 (L.f i 1-n)).n from rfl,sum_set (L.set i 1 (L.f i 1-n)) hi,if_pos rfl];omega
   unfold moveTo
   simp only
   have hh:=i2.held j hj
   have hp2:=i2.pos j 0 hj (by omega)
   exact i2.set hj (by omega) (by omega) (λ_=>⟨by omega,by omega⟩) (λe=>absurd e (by omega)) (λm hm e=>absurd e (by omega)) (λm hm e=>absurd e (by omega)) (λe=>absurd e (by omega))
theorem inv_hand (h:Inv L) (hi:i<L.n) (hj:j<L.n):Inv (handL L i j g n).2:=by
 unfold handL
 split
 ·exact h
 ·rename_i hp
  have hn:=partE_n (Decidable.of_not_not hp)
  obtain⟨m,_,hm,e⟩:=gnat h (Decidable.of_not_not hp)
  rw[e]
  split
  ·exact h
  ·have h1:=h.lock i m hi hm
   have h2:=h.good m hm
   have i1:Inv (L.set i (6+m) (L.f i (6+m)-n)):=h.set hi (by omega) (by omega) (λe=>absurd e (by omega)) (λe=>absurd e (by omega)) (λm hm e=>absurd e (by omega)) (λm' hm' e=>by (have em:m=m':=(by omega));subst em;omega) (λe=>absurd e (by omega))
   have e0:(L.set i (6+m) (L.f i (6+m)-n)).f i (2+m)=L.f i (2+m):=set_ne (by omega)
   have e1:(L.set i (6+m) (L.f i (6+m)-n)).f i (6+m)=L.f i (6+m)-n:=set_eq
   have ec:goodOf (L.set i (6+m) (L.f i (6+m)-n)) m=goodOf L m:=by unfold goodOf;rw[show (L.set i (6+m) (L.f i (6+m)-n)).n=L.n from rfl,sum_set L hi,if_neg (by omega)]
   have i2:Inv ((L.set i (6+m) (L.f i (6+m)-n)).set i (2+m) ((L.set i (6+m) (L.f i (6+m)-n)).f i (2+m)-n)):=i1.set hi (by omega) (by omega) (λe=>absurd e (by omega)) (λe=>absurd e (by omega)) (λm' hm' e=>by (have em:m=m':=(by omega));subst em;exact⟨by omega,by omega⟩) (λm' hm' e=>absurd e (by omega)) (λe=>absurd e (by omega))
   have ec2:goodOf ((L.set i (6+m) (L.f i (6+m)-n)).set i (2+m) ((L.set i (6+m) (L.f i (6+m)-n)).f i (2+m)-n)) m=goodOf L m-n:=by
    unfold goodOf at ec ⊢
    rw[show ((L.set i (6+m) (L.f i (6+m)-n)).set i (2+m) ((L.set i (6+m) (L.f i (6+m)-n)).f i (2+m)-n)).n=(L.set i (6+m) (L.f i (6+m)-n)).n from rfl,sum_set (L.set i (6+m) (L.f i (6+m)-n)) hi,if_pos rfl];omega
   unfold handTo
   simp only
   have hh:=i2.lock j m hj hm
   have hp2:=i2.pos j (2+m) hj (by omega)
   exact i2.set hj (by omega) (by omega) (λe=>absurd e (by omega)) (λe=>absurd e (by omega)) (λm' hm' e=>by (have em:m=m':=(by omega));subst em;exact⟨by omega,by omega⟩) (λm' hm' e=>absurd e (by omega)) (λe=>absurd e (by omega))
theorem inv_mark {s:Int} {t:ByteArray} (h:Inv L) (hi:i<L.n):Inv (markL L i s t).2:=by
 unfold markL
 split
 ·exact h
 ·split
  ·exact h
  ·rename_i hn _
   have:Inv (L.set i 10 s):=h.set hi (by omega) (by omega) (λe=>absurd e (by omega)) (λe=>absurd e (by omega)) (λm hm e=>absurd e (by omega)) (λm hm e=>absurd e (by omega)) (λe=>by omega)
   exact this.setR (by omega)
theorem inv_new {c g:Int} (hc:c<=16) (hg:g<=4) (hg0:1<=g):Inv (newLed c g) where
 pos i j _ _:=by simp[newLed]
 cash:=by
  have:∀k,sumN (λ_=>(0:Int)) k=0:=λk=>by induction k with
   | zero=>rfl
   | succ k ih=>simp[sumN,ih]
  simp only[cashOf,newLed];rw[this];omega
 good j _:=by
  have:∀k,sumN (λ_=>(0:Int)) k=0:=λk=>by induction k with
   | zero=>rfl
   | succ k ih=>simp[sumN,ih]
  simp only[goodOf,newLed];rw[this];omega
 held i _:=by simp[newLed]
 lock i j _ _:=by simp[newLed]
 stamp i _:=by simp[newLed]
 cl:=by simp only[newLed];omega
 gd:=hg
 g0:=hg0
 rep i _:=by simp[newLed,ByteArray.size]
end
def Zer (L:Led):Prop:=∀(i j:Nat),i<L.n->L.goods<=(j:Int)->j<4->L.f i (2+j)=0
end Go.Pw
set_option linter.unusedSimpArgs false
set_option linter.unusedVariables false
namespace Go.Pw
open Go Go.Proofs
structure Auc where
 sup:Int
 sta:Int
 stp:Int
 rnd:Int
 ste:Int
 n:Nat
 was:Nat->Int
 now:Nat->Int
def Auc.setNow (A:Auc) (i:Nat) (v:Int):Auc:={A with now:=λk=>if k=i then v else A.now k}
def Auc.setWas (A:Auc) (i:Nat) (v:Int):Auc:={A with was:=λk=>if k=i then v else A.was k}
def bidCell (A:Auc) (k:Nat):Value:=if k%2=0 then .int .i64 (A.was (k/2))else .int .i64 (A.now (k/2))
def bidCells (A:Auc):Array Value:=Array.ofFn (n:=A.n*2) λk=>bidCell A k.val
def aucHd (A:Auc) (bb:Nat):Array Value:=#[.int .i64 A.sup,.int .i64 A.sta,.int .i64 A.stp,.int .i64 A.rnd,.int .i64 A.ste,.slice (some ⟨bb,0,none⟩) A.n A.n]
theorem bidCells_size (A:Auc):(bidCells A).size=A.n*2:=by simp[bidCells]
theorem bidCells_at (A:Auc) (k:Nat) (hk:k<A.n*2):(bidCells A)[k]?=some (bidCell A k):=by unfold bidCells;simp[hk]
theorem bidCells_was {A:Auc} {i:Nat} (hi:i<A.n):(bidCells A)[i*2]?=some (.int .i64 (A.was i)):=by
 rw[bidCells_at _ _ (by omega)];unfold bidCell
 rw[if_pos (by omega),show i*2/2=i by omega]
theorem bidCells_now {A:Auc} {i:Nat} (hi:i<A.n):(bidCells A)[i*2+1]?=some (.int .i64 (A.now i)):=by
 rw[bidCells_at _ _ (by omega)];unfold bidCell
 rw[if_neg (by omega),show (i*2+1)/2=i by omega]
theorem bidCells_setNow {A:Auc} {i:Nat} (hi:i<A.n) (v:Int):(bidCells A).setIfInBounds (i*2+1) (.int .i64 v)=bidCells (A.setNow i v):=by
 apply Array.ext_getElem?
 intro k
 rcases Nat.lt_or_ge k (A.n*2)with hk | hk
 ·rw[bidCells_at (A.setNow i v) k hk]
  by_cases he:i*2+1=k
  ·subst he
   rw[Array.getElem?_setIfInBounds_self_of_lt (by rw[bidCells_size];exact hk)]
   unfold bidCell Auc.setNow
   rw[if_neg (by omega),show (i*2+1)/2=i by omega];simp
  ·rw[Array.getElem?_setIfInBounds_ne he,bidCells_at _ _ hk]
   unfold bidCell Auc.setNow
   by_cases h2:k%2=0
   ·rw[if_pos h2,if_pos h2]
   ·rw[if_neg h2,if_neg h2]
    have:¬k/2=i:=by omega
    simp only[this,if_false]
 ·rw[Array.getElem?_eq_none (by simpa [bidCells_size]using hk),Array.getElem?_eq_none (by rw[bidCells_size];exact hk)]
theorem bidCells_setWas {A:Auc} {i:Nat} (hi:i<A.n) (v:Int):(bidCells A).setIfInBounds (i*2) (.int .i64 v)=bidCells (A.setWas i v):=by
 apply Array.ext_getElem?
 intro k
 rcases Nat.lt_or_ge k (A.n*2)with hk | hk
 ·rw[bidCells_at (A.setWas i v) k hk]
  by_cases he:i*2=k
  ·subst he
   rw[Array.getElem?_setIfInBounds_self_of_lt (by rw[bidCells_size];exact hk)]
   unfold bidCell Auc.setWas
   rw[if_pos (by omega),show i*2/2=i by omega];simp
  ·rw[Array.getElem?_setIfInBounds_ne he,bidCells_at _ _ hk]
   unfold bidCell Auc.setWas
   by_cases h2:k%2=0
   ·rw[if_pos h2,if_pos h2]
    have:¬k/2=i:=by omega
    simp only[this,if_false]
   ·rw[if_neg h2,if_neg h2]
 ·rw[Array.getElem?_eq_none (by simpa [bidCells_size]using hk),Array.getElem?_eq_none (by rw[bidCells_size];exact hk)]
structure AucAt (h:PH) (a bb:Nat) (A:Auc):Prop where
 ha:h a=some (.cells (aucHd A bb) 155 (0,0))
 hb:h bb=some (.cells (bidCells A) 157 (0,0))
theorem AucAt.ne {h:PH} {a bb:Nat} {A:Auc} (hA:AucAt h a bb A):a≠bb:=λe=>by
 have h1:=hA.ha
 rw[e,hA.hb]at h1
 injection h1 with h2
 injection h2 with _ h3
 exact absurd h3 (by decide)
theorem AucAt.sub {h g:PH} {a bb:Nat} {A:Auc} (hA:AucAt h a bb A) (hs:Sub h g):AucAt g a bb A:=⟨hs _ _ hA.ha,hs _ _ hA.hb⟩
def putAuc (h:PH) (a bb:Nat) (A:Auc):PH:=ins (ins h bb (.cells (bidCells A) 157 (0,0))) a (.cells (aucHd A bb) 155 (0,0))
theorem putAuc_self {h:PH} {a bb:Nat} {A:Auc} (hA:AucAt h a bb A):putAuc h a bb A=h:=by
 unfold putAuc;rw[ins_self hA.hb,ins_self hA.ha]
theorem AucAt.put {h:PH} {a bb:Nat} {A B:Auc} (hA:AucAt h a bb A):AucAt (putAuc h a bb B) a bb B:=
 ⟨ins_eq _ _ _,by unfold putAuc;rw[ins_ne _ _ hA.ne.symm];exact ins_eq _ _ _⟩
theorem putAuc_put {h:PH} {a bb:Nat} (hn:a≠bb) (A B:Auc):putAuc (putAuc h a bb A) a bb B=putAuc h a bb B:=by
 unfold putAuc
 funext x
 by_cases h1:x=a
 ·subst h1;rw[ins_eq,ins_eq]
 ·rw[ins_ne _ _ h1,ins_ne _ _ h1]
  by_cases h2:x=bb
  ·subst h2;rw[ins_eq,ins_eq]
  ·rw[ins_ne _ _ h2,ins_ne _ _ h2,ins_ne _ _ h1,ins_ne _ _ h2]
def Auc.price (A:Auc):Int:=A.sta+(A.rnd-1)*A.stp
def Auc.last (A:Auc):Int:=if A.rnd=1 then 0 else A.price-A.stp
def Auc.demand (A:Auc):Int:=sumN A.now A.n
structure Auc.ok (A:Auc):Prop where
 sup:1<=A.sup/\A.sup<=1048576
 sta:0<=A.sta
 stp:1<=A.stp/\A.stp<=1099511627776
 rnd:1<=A.rnd
 top:A.price<=1099511627776
 ste:0<=A.ste/\A.ste<=2
 n:1<=A.n/\A.n<=16
 was:∀i,i<A.n->0<=A.was i/\A.was i<=1048576
 now:∀i,i<A.n->0<=A.now i/\A.now i<=1048576
 one:A.rnd=1->∀i,i<A.n->A.was i=0
 fall:1<A.rnd->∀i,i<A.n->A.now i<=A.was i
 more:1<A.rnd->A.sup<sumN A.was A.n
theorem Auc.ok.rndB {A:Auc} (h:A.ok):A.rnd<=1099511627777:=by
 have h1:=h.top
 have h2:=h.sta
 have h3:=h.stp
 have h4:=h.rnd
 unfold Auc.price at h1
 have:(A.rnd-1)*1<=(A.rnd-1)*A.stp:=Int.mul_le_mul_of_nonneg_left h3.1 (by omega)
 omega
theorem Auc.ok.mulB {A:Auc} (h:A.ok):0<=(A.rnd-1)*A.stp/\(A.rnd-1)*A.stp<=1099511627776:=by
 have h1:=h.top
 have h2:=h.sta
 have h3:=h.stp
 have h4:=h.rnd
 unfold Auc.price at h1
 have:0<=(A.rnd-1)*A.stp:=Int.mul_nonneg (by omega) (by omega)
 omega
theorem Auc.ok.priceB {A:Auc} (h:A.ok):0<=A.price/\A.price<=1099511627776:=by
 have h1:=h.top
 have h2:=h.sta
 have:=h.mulB
 unfold Auc.price at *
 omega
theorem Auc.ok.sumB {A:Auc} (h:A.ok) {g:Nat->Int} (hg:∀i,i<A.n->0<=g i/\g i<=1048576) {k:Nat} (hk:k<=A.n):0<=sumN g k/\sumN g k<=16777216:=by
 have h1:=sumN_bd (g:=g) (M:=1048576) (by omega) k (λi hi=>hg i (by omega))
 have h2:=h.n
 refine⟨h1.1,?_⟩
 have:(k:Int)*1048576<=16*1048576:=Int.mul_le_mul_of_nonneg_right (by omega) (by omega)
 omega
def bidA (A:Auc) (who n:Int):Int×Auc:=
 if A.ste≠0 then (70,A)else if who<0\/(A.n:Int)<=who\/n<0\/1048576<n then (1,A)else if 1<A.rnd/\A.was who.toNat<n then (71,A)else (0,A.setNow who.toNat n)
def nextA (A:Auc):Bool×Int×Auc:=
 if A.ste≠0 then (false,70,A)else if A.demand<=A.sup then (true,0,{A with ste:=1})else if 1099511627776-A.stp<A.price then (true,0,{A with ste:=2})
 else (false,0,{A with rnd:=A.rnd+1,was:=λi=>if i<A.n then A.now i else A.was i})
def wantsA (A:Auc) (who:Int):Int×Int:=if who<0\/(A.n:Int)<=who then (0,0)else (A.was who.toNat,A.now who.toNat)
section
variable {h:PH} {R:AEnd->PH->Prop} {a bb:Nat} {A:Auc}
theorem AucAt.f (hA:AucAt h a bb A) {K:Value->Prop} {j:Nat} {v:Value} (hv:(aucHd A bb)[j]?=some v):vLoad none (.pointer (some ⟨a,j,none⟩)) h K↔K v:=vLoad_1 hA.ha hv
theorem clock_new_bad {s t p n:Int} (hb:¬(1<=s/\s<=1048576/\0<=t/\t<=1099511627776/\1<=p/\p<=1099511627776/\1<=n/\n<=16)) (hR:R (.ret (.tuple #[.pointer none,.int .i64 1])) h) :
  ACalls Tryz.prog 96 #[.int .i64 s,.int .i64 t,.int .i64 p,.int .i64 n] h R:=by
 refine call96 ?_
 unfold sh96
 by_cases h1:s<1
 ·simp[h1,hR]
 by_cases h2:1048576<s
 ·simp[h1,h2,hR]
 by_cases h3:t<0
 ·simp[h1,h2,h3,hR]
 by_cases h4:1099511627776<t
 ·simp[h1,h2,h3,h4,hR]
 by_cases h5:p<1
 ·simp[h1,h2,h3,h4,h5,hR]
 by_cases h6:1099511627776<p
 ·simp[h1,h2,h3,h4,h5,h6,hR]
 by_cases h7:n<1
 ·simp[h1,h2,h3,h4,h5,h6,h7,hR]
 have h8:16<n:=by omega
 simp[h1,h2,h3,h4,h5,h6,h7,h8,hR]
def newAuc (s t p n:Int):Auc:={sup:=s,sta:=t,stp:=p,rnd:=1,ste:=0,n:=n.toNat,was:=λ_=>0,now:=λ_=>0}
theorem newAuc_cells (s t p n:Int):rep #[.int .i64 0,.int .i64 0] (n.toNat*2)=bidCells (newAuc s t p n):=by
 apply Array.ext_getElem?
 intro k
 unfold rep
 rcases Nat.lt_or_ge k (n.toNat*2)with hk | hk
 ·rw[bidCells_at _ _ (by simpa [newAuc]using hk)]
  simp only[Array.getElem?_map,Array.getElem?_range,hk,if_true,Option.map_some]
  congr 1
  have hm:k%2<2:=by omega
  unfold bidCell newAuc
  simp only[List.size_toArray,List.length_cons,List.length_nil]
  match hk:k%2,hm with
  | 0,_=>rfl
  | 1,_=>rfl
 ·rw[Array.getElem?_eq_none (by simp;omega),Array.getElem?_eq_none (by rw[bidCells_size];simpa [newAuc]using hk)]
theorem newAuc_ok {s t p n:Int} (hb:1<=s/\s<=1048576/\0<=t/\t<=1099511627776/\1<=p/\p<=1099511627776/\1<=n/\n<=16):(newAuc s t p n).ok where
 sup:=⟨hb.1,hb.2.1⟩
 sta:=hb.2.2.1
 stp:=⟨hb.2.2.2.2.1,hb.2.2.2.2.2.1⟩
 rnd:=by simp[newAuc]
 top:=by simp[newAuc,Auc.price];omega
 ste:=by simp[newAuc]
 n:=by simp only[newAuc];omega
 was _ _:=by simp[newAuc]
 now _ _:=by simp[newAuc]
 one _ _ _:=rfl
 fall h:=by simp[newAuc]at h
 more h:=by simp[newAuc]at h
theorem clock_new_ok {s t p n:Int} (hb:1<=s/\s<=1048576/\0<=t/\t<=1099511627776/\1<=p/\p<=1099511627776/\1<=n/\n<=16)
  (hR:∀a bb g,h a=none->h bb=none->Sub h g->AucAt g a bb (newAuc s t p n)->R (.ret (.tuple #[ptr a,.int .i64 0])) g) :
  ACalls Tryz.prog 96 #[.int .i64 s,.int .i64 t,.int .i64 p,.int .i64 n] h R:=by
 refine call96 ?_
 unfold sh96
 have h1:¬s<1:=by omega
 have h2:¬1048576<s:=by omega
 have h3:¬t<0:=by omega
 have h4:¬1099511627776<t:=by omega
 have h5:¬p<1:=by omega
 have h6:¬1099511627776<p:=by omega
 have h7:¬n<1:=by omega
 have h8:¬16<n:=by omega
 simp[h1,h2,h3,h4,h5,h6,h7,h8]
 refine⟨_,_,_,_,rfl,rfl,by omega,by omega,by omega,by omega,λbb hbb=>?_⟩
 refine⟨_,rfl,?_⟩
 refine vNew_i λa ha=>?_
 obtain⟨ha1,ha2⟩:=fresh_of ha
 rw[newAuc_cells s t p n]
 refine hR a bb _ ha1 hbb (Sub.put (Sub.put (Sub.refl h) hbb) ha1) ⟨ins_eq _ _ _,?_⟩
 rw[ins_ne _ _ (λe=>ha2 e.symm)];exact ins_eq _ _ _
theorem clock_price (hA:AucAt h a bb A) (hk:A.ok) (hR:R (.ret (.int .i64 A.price)) h):ACalls Tryz.prog 109 #[ptr a] h R:=by
 refine call109 ?_
 unfold sh109
 have f1:=λK=>hA.f (K:=K) (j:=1) (v:=.int .i64 A.sta) rfl
 have f2:=λK=>hA.f (K:=K) (j:=2) (v:=.int .i64 A.stp) rfl
 have f3:=λK=>hA.f (K:=K) (j:=3) (v:=.int .i64 A.rnd) rfl
 have b1:=hk.rndB
 have b2:=hk.mulB
 have b3:=hk.priceB
 have b4:=hk.rnd
 have b5:=hk.sta
 simp[vBin_pnil Tryz.underlying96,f1,f2,f3]
 rw[w64 (x:=A.rnd-1) (by omega) (by omega),w64 (x:=(A.rnd-1)*A.stp) (by omega) (by omega),w64 (by unfold Auc.price at b3;omega) (by unfold Auc.price at b3;omega)]
 exact hR
theorem clock_last (hA:AucAt h a bb A) (hk:A.ok) (hR:R (.ret (.int .i64 A.last)) h):ACalls Tryz.prog 108 #[ptr a] h R:=by
 refine call108 ?_
 unfold sh108
 have f2:=λK=>hA.f (K:=K) (j:=2) (v:=.int .i64 A.stp) rfl
 have f3:=λK=>hA.f (K:=K) (j:=3) (v:=.int .i64 A.rnd) rfl
 have b3:=hk.priceB
 have b6:=hk.stp
 unfold Auc.last at hR
 by_cases h1:A.rnd=1
 ·rw[if_pos h1]at hR
  simp[vBin_pnil Tryz.underlying96,f3,h1,hR]
 ·rw[if_neg h1]at hR
  simp[vBin_pnil Tryz.underlying96,f2,f3,h1]
  refine clock_price hA hk ?_
  simp[AEnd.elim,f2]
  rw[w64 (by omega) (by omega)]
  exact hR
theorem clock_supply (hA:AucAt h a bb A) (hR:R (.ret (.int .i64 A.sup)) h):ACalls Tryz.prog 101 #[ptr a] h R:=by
 refine call101 ?_
 unfold sh101
 have f0:=λK=>hA.f (K:=K) (j:=0) (v:=.int .i64 A.sup) rfl
 simp[vBin_pnil Tryz.underlying96,f0,hR]
theorem clock_round (hA:AucAt h a bb A) (hR:R (.ret (.int .i64 A.rnd)) h):ACalls Tryz.prog 110 #[ptr a] h R:=by
 refine call110 ?_
 unfold sh110
 have f3:=λK=>hA.f (K:=K) (j:=3) (v:=.int .i64 A.rnd) rfl
 simp[vBin_pnil Tryz.underlying96,f3,hR]
theorem clock_state (hA:AucAt h a bb A) (hR:R (.ret (.int .i64 A.ste)) h):ACalls Tryz.prog 99 #[ptr a] h R:=by
 refine call99 ?_
 unfold sh99
 have f4:=λK=>hA.f (K:=K) (j:=4) (v:=.int .i64 A.ste) rfl
 simp[vBin_pnil Tryz.underlying96,f4,hR]
theorem AucAt.w (hA:AucAt h a bb A) {i:Nat} (hi:i<A.n) {K:Value->Prop}:vLoad none (.pointer (some ⟨bb,i*2,none⟩)) h K↔K (.int .i64 (A.was i)):=vLoad_1 hA.hb (bidCells_was hi)
theorem AucAt.o (hA:AucAt h a bb A) {i:Nat} (hi:i<A.n) {K:Value->Prop}:vLoad none (.pointer (some ⟨bb,i*2+1,none⟩)) h K↔K (.int .i64 (A.now i)):=vLoad_1 hA.hb (bidCells_now hi)
theorem clock_wants (hA:AucAt h a bb A) {who:Int} (hR:R (.ret (.tuple #[.int .i64 (wantsA A who).1,.int .i64 (wantsA A who).2])) h):ACalls Tryz.prog 98 #[ptr a,.int .i64 who] h R:=by
 refine call98 ?_
 unfold sh98
 have f5:=λK=>hA.f (K:=K) (j:=5) (v:=.slice (some ⟨bb,0,none⟩) A.n A.n) rfl
 unfold wantsA at hR
 by_cases h1:who<0
 ·rw[if_pos (.inl h1)]at hR
  simp[vBin_pnil Tryz.underlying96,h1,hR]
 by_cases h2:(A.n:Int)<=who
 ·rw[if_pos (.inr h2)]at hR
  simp[vBin_pnil Tryz.underlying96,h1,h2,f5,hR]
 rw[if_neg (by omega)]at hR
 obtain⟨i,rfl⟩:∃i:Nat,who=i:=⟨who.toNat,by omega⟩
 have hi:i<A.n:=by omega
 have e0:(0:Int)<=(i:Int):=by omega
 simp[vBin_pnil Tryz.underlying96,h1,h2,f5,hi,hA.w hi,hA.o hi]
 exact hR
theorem clock_demand (hA:AucAt h a bb A) (hk:A.ok) (hR:R (.ret (.int .i64 A.demand)) h):ACalls Tryz.prog 144 #[ptr a] h R:=by
 refine ACalls.drop (call144 ?_)
 unfold sh144
 have f5:=λK=>hA.f (K:=K) (j:=5) (v:=.slice (some ⟨bb,0,none⟩) A.n A.n) rfl
 simp[vBin_pneq Tryz.underlying96,f5]
 have hn:=hk.n
 refine lf_intro (λm s' g'=>∃i:Nat,s'=(.int .i64 (sumN A.now i),.int .i64 i)/\m=A.n-i/\i<=A.n/\Sub h g') A.n ⟨0,rfl,rfl,by omega,Sub.refl h⟩ ?_
 rintro m s' g' ⟨i,rfl,rfl,hi,hs⟩
 by_cases hin:i<A.n
 ·have key:∀(kn:(Value×Value)->(Value×Value)->PH->Prop) Kp x0,(∀g2,Sub h g2->kn (.slice (some ⟨bb,0,none⟩) A.n A.n,.int .i64 A.n) (.int .i64 (sumN A.now (i+1)),.int .i64 ((i:Int)+1)) g2) ->
    b144_4 Kp x0 (.slice (some ⟨bb,0,none⟩) A.n A.n,.int .i64 A.n) kn (.int .i64 (sumN A.now i),.int .i64 i) g':=by
   intro kn Kp x0 hkn
   unfold b144_4
   have hlt:(i:Int)<(A.n:Int):=by omega
   simp only[vBin_lss,hlt,decide_true,dIf_b,vIxS_p]
   refine⟨λ_=>⟨by omega,by omega,?_⟩,λe=>absurd e (by simp)⟩
   rw[show 0+(i:Int).toNat*2=i*2 by omega,vLoad_n (hs _ _ hA.hb) (by rw[bidCells_size];omega)]
   have he:(bidCells A).extract (i*2) (i*2+2)=#[.int .i64 (A.was i),.int .i64 (A.now i)]:=by
    apply Array.ext_getElem?
    intro j
    rw[Array.getElem?_extract,bidCells_size]
    rcases Nat.lt_or_ge j 2 with hj | hj
    ·rw[if_pos (by omega)]
     match j,hj with
     | 0,_=>rw[Nat.add_zero,bidCells_was hin];rfl
     | 1,_=>rw[bidCells_now hin];rfl
    ·rw[if_neg (by omega),Array.getElem?_eq_none (by simpa using hj)]
   rw[he]
   refine vNew_gen λc G hc s2 hcc=>?_
   refine vStore_to (cs:=#[.int .i64 (A.was i),.int .i64 (A.now i)]) hcc (by rfl) (by rfl) (by rfl) ?_
   have b1:=hk.sumB (g:=A.now) hk.now (k:=i) (by omega)
   have b2:=hk.now i hin
   simp only[vFA_p]
   rw[vLoad_1 (ins_eq _ _ _) (v:=.int .i64 (A.now i)) rfl]
   simp only[vBin_add]
   rw[w64 (by omega) (by omega),w64 (by omega) (by omega)]
   exact hkn _ (Sub.put (hs.trans s2) (hs.fresh hc))
  exact key _ _ _ λg2 s2=>⟨rfl,A.n-(i+1),by omega,i+1,rfl,rfl,by omega,s2⟩
 ·have e:i=A.n:=by omega
  subst e
  unfold b144_4
  simp
  intro r hr
  rw[show r 3=_ from hr]
  exact⟨h,hs,hR⟩
theorem clock_bid (hA:AucAt h a bb A) {who n:Int} (hR:R (.ret (.int .i64 (bidA A who n).1)) (putAuc h a bb (bidA A who n).2)):ACalls Tryz.prog 112 #[ptr a,.int .i64 who,.int .i64 n] h R:=by
 refine call112 ?_
 unfold sh112
 have f3:=λK=>hA.f (K:=K) (j:=3) (v:=.int .i64 A.rnd) rfl
 have f4:=λK=>hA.f (K:=K) (j:=4) (v:=.int .i64 A.ste) rfl
 have f5:=λK=>hA.f (K:=K) (j:=5) (v:=.slice (some ⟨bb,0,none⟩) A.n A.n) rfl
 have hself:=putAuc_self hA
 unfold bidA at hR
 by_cases h0:A.ste=0
 ·rw[if_neg (by omega)]at hR
  by_cases h1:who<0
  ·rw[if_pos (.inl h1)]at hR
   simp[vBin_pnil Tryz.underlying96,f4,h0,h1]
   rw[hself]at hR;exact hR
  by_cases h2:(A.n:Int)<=who
  ·rw[if_pos (.inr (.inl h2))]at hR
   simp[vBin_pnil Tryz.underlying96,f4,h0,h1,f5,h2]
   rw[hself]at hR;exact hR
  by_cases h3:n<0
  ·rw[if_pos (.inr (.inr (.inl h3)))]at hR
   simp[vBin_pnil Tryz.underlying96,f4,h0,h1,f5,h2,h3]
   rw[hself]at hR;exact hR
  by_cases h4:1048576<n
  ·rw[if_pos (.inr (.inr (.inr h4)))]at hR
   simp[vBin_pnil Tryz.underlying96,f4,h0,h1,f5,h2,h3,h4]
   rw[hself]at hR;exact hR
  rw[if_neg (by omega)]at hR
  obtain⟨i,rfl⟩:∃i:Nat,who=i:=⟨who.toNat,by omega⟩
  have hi:i<A.n:=by omega
  rw[Int.toNat_natCast]at hR
  have fin:R (.ret (.int .i64 0)) (putAuc h a bb (A.setNow i n))->vStore 1 (.pointer (some ⟨bb,i*2+1,none⟩)) (.int .i64 n) h λh_22=>R (.ret (.int .i64 0)) h_22:=λhR=>by
   refine (vStore_1 hA.hb (by rw[bidCells_size];omega) rfl).2 ?_
   rw[bidCells_setNow hi]
   have:putAuc h a bb (A.setNow i n)=ins h bb (.cells (bidCells (A.setNow i n)) 157 (0,0)):=by
    unfold putAuc
    exact ins_self (by rw[ins_ne _ _ hA.ne];exact hA.ha)
   rw[this]at hR
   exact hR
  by_cases h5:1<A.rnd
  ·by_cases h6:A.was i<n
   ·rw[if_pos ⟨h5,h6⟩,hself]at hR
    simp[vBin_pnil Tryz.underlying96,f4,h0,h1,f5,h2,h3,h4,f3,h5,hi,hA.w hi,h6]
    exact hR
   ·rw[if_neg (by omega)]at hR
    simp[vBin_pnil Tryz.underlying96,f4,h0,h1,f5,h2,h3,h4,f3,h5,hi,hA.w hi,h6]
    exact fin hR
  ·rw[if_neg (by omega)]at hR
   simp[vBin_pnil Tryz.underlying96,f4,h0,h1,f5,h2,h3,h4,f3,h5,hi]
   exact fin hR
 ·rw[if_pos h0,hself]at hR
  simp[vBin_pnil Tryz.underlying96,f4,h0,hR]
end
end Go.Pw
set_option linter.unusedSimpArgs false
set_option linter.unusedVariables false
namespace Go.Pw
open Go Go.Proofs
section
variable {P:Program} {K:Value->Prop}
theorem ofInt_toNat {n:Int} (h0:0<=n) (h1:n<18446744073709551616):(BitVec.ofInt 64 n).toNat=n.toNat:=by
 rw[BitVec.toNat_ofInt]
 have:n%((2^64:Nat):Int)=n:=Int.emod_eq_of_lt h0 (by simpa using h1)
 rw[this]
theorem vBin_and127 (t:TypeId) {n:Int} (h0:0<=n) (h1:n<=9223372036854775807):vBin P .and t (.int .i64 n) (.int .i64 127) K↔K (.int .i64 (n%128)):=by
 have e:((n%2^IntKind.i64.bits).toNat &&& 127%2^IntKind.i64.bits)=n.toNat%128:=by
  show ((n%18446744073709551616).toNat &&& 127)=_
  rw[Int.emod_eq_of_lt h0 (by omega)]
  exact Nat.and_two_pow_sub_one_eq_mod n.toNat 7
 refine vBin_of λ_ _=>?_
 simp[eqGuard,binOp,Op.intBits]
 rw[e,show ((n.toNat%128:Nat):Int)=n%128 by omega,w64 (by omega) (by omega)]
 rfl
theorem or128:∀x:Nat,x<128->x ||| 128=x+128:=by decide
theorem vBin_or128 (t:TypeId) {n:Int} (h0:0<=n) (h1:n<128):vBin P .or t (.int .i64 n) (.int .i64 128) K↔K (.int .i64 (n+128)):=by
 have e:((n%2^IntKind.i64.bits).toNat ||| 128%2^IntKind.i64.bits)=n.toNat+128:=by
  show ((n%18446744073709551616).toNat ||| 128)=_
  rw[Int.emod_eq_of_lt h0 (by omega)]
  exact or128 _ (by omega)
 refine vBin_of λ_ _=>?_
 simp[eqGuard,binOp,Op.intBits]
 rw[e,show ((n.toNat+128:Nat):Int)=n+128 by omega,w64 (by omega) (by omega)]
 rfl
theorem vBin_shr7 (t:TypeId) {n:Int} (h0:0<=n):vBin P .shr t (.int .i64 n) (.int .u64 7) K↔K (.int .i64 (n/128)):=by
 refine vBin_of λ_ _=>?_
 have e:n.fdiv 128=n/128:=Int.fdiv_eq_ediv_of_nonneg n (by omega)
 simp[eqGuard,binOp,Op.shift,IntKind.bits,e]
 rfl
theorem wrap_u8 {n:Int} (h0:0<=n) (h1:n<256):IntKind.u8.wrap n=n:=by
 simp[IntKind.wrap,IntKind.bits,IntKind.signed];omega
end
def encN (n:Nat):List UInt8:=if h:n<128 then [UInt8.ofNat n]else UInt8.ofNat (n%128+128)::encN (n/128)
termination_by n
decreasing_by omega
structure WB (h0:PH) (p:Nat) (bs:List UInt8) (h:PH) (s:Value):Prop where
 sub:Sub h0 h
 hp0:h0 p=none
 hp:h p=some (.cells #[s] 142 (0,0))
 buf:(s = .slice none 0 0/\bs = [])\/∃g c cap,s = .slice (some ⟨g,0,none⟩) bs.length cap/\h g=some (.cells c 5 (0,0))/\h0 g=none/\g≠p/\c.size=cap/\bs.length<=cap/\c.toList.take bs.length=byteCells bs
theorem byteCells_len (l:List UInt8):(byteCells l).length=l.length:=by simp[byteCells]
theorem byteCells_app (a b:List UInt8):byteCells (a++b)=byteCells a++byteCells b:=by simp[byteCells]
theorem byte_one {l:List UInt8}:∀v∈byteCells l,v.oneCell'=true:=by
 intro v hv
 simp only[byteCells,List.mem_map]at hv
 obtain⟨x,_,rfl⟩:=hv
 rfl
section
variable {h h0:PH} {p:Nat} {bs:List UInt8} {s:Value} {K:PH->Prop}
theorem wb_app {str:Bool} {x:Value} {news:List UInt8} {h1:PH} (hw:WB h0 p bs h s) (hs1:Sub h h1) (hxs:∀c,x≠.slice none 0 c) (hlen:(bs.length+news.length)*1<=roomBytes)
  (hsrc:∀K':Nat->List Value->Prop,K' news.length (byteCells news)->srcCells str 1 x h1 K') (hap:∀b off l c,x = .slice (some ⟨b,off,none⟩) l c->h b=none)
  (hk:∀h3 s3,WB h0 p (bs++news) h3 s3->K h3) :
  vAppend str 5 1 1 s x h1 λt h2=>vStore 1 (.pointer (some ⟨p,0,none⟩)) t h2 K:=by
 unfold vAppend
 refine hsrc _ ?_
 rcases hw.buf with⟨rfl,rfl⟩ | ⟨g,c,cap,rfl,hg,hg0,hgp,hcs,hle,htk⟩
 ·refine .inl ⟨rfl,λhn=>?_,λhn=>⟨by simpa using hlen,λb cap rest hb hc hl=>?_⟩⟩
  ·have:news = []:=List.eq_nil_of_length_eq_zero hn
   subst this
   refine vStore_to (hs1 _ _ hw.hp) (cs:=#[.slice none 0 0]) (by rfl) (by rfl) (by rfl) ?_
   rw[ins_self (hs1 _ _ hw.hp)]
   refine hk _ (.slice none 0 0) ⟨hw.sub.trans hs1,hw.hp0,hs1 _ _ hw.hp,.inl ⟨rfl,rfl⟩⟩
  ·have hbp:p≠b:=λe=>by have:=hs1 _ _ hw.hp;rw[e,hb]at this;cases this
   refine vStore_to (cs:=#[.slice (some ⟨b,0,none⟩) news.length cap]) (by rw[ins_ne _ _ hbp];exact hs1 _ _ hw.hp) (by rfl) (by rfl) (by rfl) ?_
   refine hk _ _ ⟨Sub.put (Sub.put (hw.sub.trans hs1) ((hw.sub.trans hs1).fresh hb)) hw.hp0,hw.hp0,ins_eq _ _ _,.inr ⟨b,(byteCells news++rest).toArray,cap,by simp,?_,(hw.sub.trans hs1).fresh hb,λe=>hbp e.symm,?_,by simpa using hc,?_⟩⟩
   ·rw[ins_ne _ _ (λe=>hbp e.symm)];exact ins_eq _ _ _
   ·simp only[List.size_toArray,List.length_append];omega
   ·simp[byteCells_len]
 ·refine .inr (.inl ⟨g,bs.length,cap,c,rfl,hs1 _ _ hg,by omega,hle,hlen,λb off l c' hx e=>?_,λb cap' rest hb hc hl=>?_⟩)
  ·have:=hap b off l c' hx
   rw[e,hg]at this;cases this
  ·have hp1:=hs1 _ _ hw.hp
   have hbp:p≠b:=λe=>by
    rcases hb with rfl | hb
    ·exact hgp e.symm
    ·rw[<-e,hp1]at hb;cases hb
   have hb0:h0 b=none:=by
    rcases hb with rfl | hb
    ·exact hg0
    ·exact (hw.sub.trans hs1).fresh hb
   have hd:∀y,y≠g->dropB h1 g y=h1 y:=λy hy=>by
    unfold dropB
    cases hq:Nat.beq y g
    ·rfl
    ·exact absurd (Nat.eq_of_beq_eq_true hq) hy
   have hsd:Sub h0 (dropB h1 g):=λy o hy=>by
    rw[hd y (λe=>by rw[e,hg0]at hy;cases hy)]
    exact (hw.sub.trans hs1) y o hy
   refine vStore_to (cs:=#[.slice (some ⟨b,0,none⟩) (bs.length+news.length) cap']) (by rw[ins_ne _ _ hbp,hd p (λe=>hgp e.symm)];exact hp1) (by rfl) (by rfl) (by rfl) ?_
   have e1:List.take (bs.length*1) c.toList=byteCells bs:=by rw[Nat.mul_one];exact htk
   refine hk _ _ ⟨Sub.put (Sub.put hsd hb0) hw.hp0,hw.hp0,ins_eq _ _ _,.inr ⟨b,_,cap',by simp,by rw[ins_ne _ _ (λe=>hbp e.symm)];exact ins_eq _ _ _,hb0,λe=>hbp e.symm,?_,by simpa using hc,?_⟩⟩
   ·simp only[List.size_toArray,List.length_append]at hl ⊢;omega
   ·rw[e1,byteCells_app,<-byteCells_app bs news]
    simp only
    rw[show (bs++news).length=(byteCells (bs++news)).length from (byteCells_len _).symm,List.take_left]
theorem fill_one (b:UInt8):Instr.fill (λi=>some (i*1,1)) (rep #[Value.int IntKind.u8 0] (1*1)) [(0,Value.int IntKind.u8 ↑b.toNat)]=some #[.int .u8 b.toNat]:=by
 have e:Array.range 1=#[0]:=by decide
 simp[Instr.fill,rep,Value.cells,e]
theorem wb_push {b:UInt8} (hw:WB h0 p bs h s) (hl:bs.length<1073741824) (hk:∀h3 s3,WB h0 p (bs ++ [b]) h3 s3->K h3) :
  (1*1<=2^24)/\vBuildS 5 1 1 #[.int .u8 0] [(0,.int .u8 b.toNat)] h λt h1=>
   (0<1)/\(0<1)/\(Array.size #[(.int .u8 0:Value)]=1)/\vAppend false 5 1 1 s t h1 λt2 h2=>vStore 1 (.pointer (some ⟨p,0,none⟩)) t2 h2 K:=by
 refine⟨by omega,#[.int .u8 b.toNat],fill_one b,λq hq=>⟨by omega,by omega,rfl,?_⟩⟩
 refine wb_app (news:=[b]) hw (Sub.put (Sub.refl h) hq) (λc e=>by cases e) (by simp only[List.length_cons,List.length_nil,roomBytes];omega) (λK' hk'=>.inr (.inr ⟨rfl,q,0,1,1,_,_,_,rfl,ins_eq _ _ _,?_,?_,?_⟩)) (λb off l c e=>by cases e;exact hq) hk
 ·simp
 ·intro v hv
  have:v = .int .u8 b.toNat:=by simpa using hv
  subst this;rfl
 ·exact hk'
theorem wb_text {t:ByteArray} (hw:WB h0 p bs h s) (hl:bs.length+t.size<1073741824) (hk:∀h3 s3,WB h0 p (bs++t.data.toList) h3 s3->K h3) :
  (0<1)/\(0<1)/\(Array.size #[(.int .u8 0:Value)]=1)/\vAppend true 5 1 1 s (.string t) h λt2 h2=>vStore 1 (.pointer (some ⟨p,0,none⟩)) t2 h2 K:=by
 refine⟨by omega,by omega,rfl,?_⟩
 have hz:t.data.toList.length=t.size:=by rw[Array.length_toList];rfl
 refine wb_app (news:=t.data.toList) hw (Sub.refl h) (λc e=>by cases e) (by rw[hz];simp only[roomBytes];omega) (λK' hk'=>.inl ⟨rfl,t,rfl,rfl,by rw[<-hz];exact hk'⟩) (λb off l c e=>by cases e) hk
end
end Go.Pw
set_option linter.unusedSimpArgs false
set_option linter.unusedVariables false
namespace Go.Pw
open Go Go.Proofs
theorem encN_small {n:Nat} (h:n<128):encN n = [UInt8.ofNat n]:=by rw[encN,dif_pos h]
theorem encN_big {n:Nat} (h:¬n<128):encN n=UInt8.ofNat (n%128+128)::encN (n/128):=by rw[encN,dif_neg h]
theorem encN_len:∀(k n:Nat),n<128^(k+1)->(encN n).length<=k+1
 | k,n,h=>by
  by_cases hs:n<128
  ·rw[encN_small hs];simp
  ·rw[encN_big hs]
   match k,h with
   | 0,h=>exact absurd h (by omega)
   | k+1,h=>
    have:=encN_len k (n/128) (by rw[Nat.pow_succ]at h;exact Nat.div_lt_of_lt_mul (by rw[Nat.mul_comm];exact h))
    simp only[List.length_cons];omega
theorem encN_10 {n:Nat} (h:n<9223372036854775808):(encN n).length<=10:=encN_len 9 n (by omega)
theorem u8_of {n:Nat} (h:n<256):((UInt8.ofNat n).toNat:Int)=(n:Int):=by
 rw[UInt8.toNat_ofNat'];omega
theorem wrap_u8n {n:Nat} (h:n<256) {x:Int} (hx:x=(n:Int)):IntKind.u8.wrap x=((UInt8.ofNat n).toNat:Int):=by
 rw[hx,wrap_u8 (by omega) (by omega),u8_of h]
section
variable {h h0:PH} {R:AEnd->PH->Prop} {p:Nat} {bs:List UInt8} {s:Value}
theorem number_ok {n:Nat} (hw:WB h0 p bs h s) (hn:n<9223372036854775808) (hl:bs.length<1000000000) (hR:∀h3 s3,WB h0 p (bs++encN n) h3 s3->R (.ret (ptr p)) h3) :
  ACalls Tryz.prog 77 #[ptr p,.int .i64 n] h R:=by
 refine call77 ?_
 unfold sh77
 refine lf_intro (λm s' g=>∃(k:Nat) (bs':List UInt8) (s3:Value),s' = .int .i64 k/\m=k/\k<9223372036854775808/\WB h0 p bs' g s3/\bs'++encN k=bs++encN n) n ⟨n,bs,s,rfl,rfl,hn,hw,rfl⟩ ?_
 rintro m s' g ⟨k,bs',s3,rfl,rfl,hk,hw',he⟩
 have hlen:bs'.length+(encN m).length=bs.length+(encN n).length:=by rw[<-List.length_append,he,List.length_append]
 have h10:=encN_10 hn
 unfold b77_1
 simp only[vBin_geq,dIf_b,decide_eq_true_eq,decide_eq_false_iff_not]
 refine⟨λhge=>?_,λhlt=>?_⟩
 ·have hb:¬m<128:=by omega
  rw[encN_big hb]at he hlen
  simp only[vNil_p,vFA_p,vLoad_1 hw'.hp (show (#[s3]:Array Value)[0+0]?=some s3 from rfl)]
  rw[vBin_and127 _ (by omega) (by omega),vBin_or128 _ (by omega) (by omega)]
  simp only[vConvI_i]
  rw[wrap_u8n (n:=m%128+128) (by omega) (by omega)]
  refine wb_push hw' (by simp only[List.length_cons]at hlen;omega) λh4 s4 hw4=>?_
  rw[vBin_shr7 _ (by omega)]
  exact⟨trivial,m/128,by omega,m/128,_,s4,by rw[show ((m:Int)/128)=((m/128:Nat):Int)by omega],rfl,by omega,hw4,by rw[List.append_assoc];exact he⟩
 ·have hb:m<128:=by omega
  intro r hr
  simp only[Prod.mk.injEq]at hr
  obtain⟨r0,r1⟩:=hr
  rw[r0,r1]
  rw[encN_small hb]at he hlen
  simp only[vNil_p,vFA_p,vLoad_1 hw'.hp (show (#[s3]:Array Value)[0+0]?=some s3 from rfl),vConvI_i]
  rw[wrap_u8n (n:=m) (by omega) rfl]
  refine wb_push hw' (by simp only[List.length_cons]at hlen;omega) λh4 s4 hw4=>?_
  rw[he]at hw4
  exact hR _ _ hw4
theorem text_ok {t:ByteArray} (hw:WB h0 p bs h s) (ht:t.size<16777216) (hl:bs.length<16777216) (hR:∀h3 s3,WB h0 p (bs++(encN t.size++t.data.toList)) h3 s3->R (.ret (ptr p)) h3) :
  ACalls Tryz.prog 121 #[ptr p,.string t] h R:=by
 refine call121 ?_
 unfold sh121
 simp only[vLenStr_s]
 refine number_ok hw (by omega) (by omega) λh3 s3 hw3=>?_
 have h10:=encN_10 (show t.size<9223372036854775808 by omega)
 simp only[AEnd.elim,vNil_p,vFA_p,vLoad_1 hw3.hp (show (#[s3]:Array Value)[0+0]?=some s3 from rfl)]
 refine wb_text hw3 (by rw[List.length_append];omega) λh4 s4 hw4=>?_
 rw[List.append_assoc]at hw4
 exact hR _ _ hw4
theorem wb_conv {K:Value->Prop} (hw:WB h0 p bs h s) (hk:K (.string ⟨bs.toArray⟩)):vConvBS s h K:=by
 rcases hw.buf with⟨rfl,rfl⟩ | ⟨g,c,cap,rfl,hg,_,_,hcs,hle,htk⟩
 ·exact .inl ⟨rfl,hk⟩
 ·exact .inr ⟨g,0,bs.length,cap,c,_,_,bs,rfl,hg,rfl,by simpa using htk,hk⟩
theorem wb_new (hp:h p=none):WB h p [] (ins h p (.cells #[.slice none 0 0] 142)) (.slice none 0 0):=⟨sub_ins _ hp,hp,ins_eq _ _ _,.inl ⟨rfl,rfl⟩⟩
theorem putInt_ok {n:Nat} (hn:n<=9007199254740992) (hR:R (.ret (.tuple #[.string ⟨(encN n).toArray⟩,.int .i64 0])) h):ACalls Tryz.prog 34 #[.int .i64 n] h R:=by
 refine ACalls.drop (call34 ?_)
 unfold sh34
 have h1:¬((n:Int)<0):=by omega
 have h2:¬(9007199254740992<(n:Int)):=by omega
 simp[h1,h2]
 refine vNew_i λp hp=>?_
 refine number_ok (wb_new hp) (by omega) (by simp) λh3 s3 hw3=>?_
 simp[AEnd.elim,vLoad_1 hw3.hp (show (#[s3]:Array Value)[0]?=some s3 from rfl)]
 refine wb_conv hw3 ?_
 exact⟨h,hw3.sub,by simpa using hR⟩
theorem putText_ok {t:ByteArray} (ht:t.size<=1048576) (hR:R (.ret (.tuple #[.string ⟨(encN t.size++t.data.toList).toArray⟩,.int .i64 0])) h):ACalls Tryz.prog 79 #[.string t] h R:=by
 refine ACalls.drop (call79 ?_)
 unfold sh79
 have h1:¬(1048576<(t.size:Int)):=by omega
 simp[h1]
 refine vNew_i λp hp=>?_
 refine text_ok (wb_new hp) (by omega) (by simp) λh3 s3 hw3=>?_
 simp[AEnd.elim,vLoad_1 hw3.hp (show (#[s3]:Array Value)[0]?=some s3 from rfl)]
 refine wb_conv hw3 ?_
 exact⟨h,hw3.sub,by simpa using hR⟩
def keyB (i:Nat):ByteArray:=⟨#[97,99,99,116,47,UInt8.ofNat (48+i/10),UInt8.ofNat (48+i%10)]⟩
theorem fill_two (a b:UInt8):Instr.fill (λi=>some (i*1,1)) (rep #[Value.int IntKind.u8 0] (2*1)) [(0,Value.int IntKind.u8 ↑a.toNat),(1,Value.int IntKind.u8 ↑b.toNat)]=some #[.int .u8 a.toNat,.int .u8 b.toNat]:=by
 have e:Array.range 2=#[0,1]:=by decide
 simp[Instr.fill,rep,Value.cells,e]
theorem key_ok {i:Nat} (hi:i<100) (hR:R (.ret (.string (keyB i))) h):ACalls Tryz.prog 80 #[.int .i64 i] h R:=by
 refine ACalls.drop (call80 ?_)
 unfold sh80
 rw[vBin_quo _ _ _ _ (by omega)]
 have e1:((i:Int).tdiv 10)=((i/10:Nat):Int):=by rw[Int.tdiv_eq_ediv_of_nonneg (by omega)];omega
 have e2:((i:Int).tmod 10)=((i%10:Nat):Int):=by rw[Int.tmod_eq_emod_of_nonneg (by omega)];omega
 rw[e1,w64 (by omega) (by omega)]
 simp only[vBin_add,vConvI_i]
 rw[w64 (by omega) (by omega),wrap_u8n (n:=48+i/10) (by omega) (by omega),vBin_rem _ _ _ _ (by omega),e2]
 simp only[vBin_add,vConvI_i]
 rw[w64 (by omega) (by omega),wrap_u8n (n:=48+i%10) (by omega) (by omega)]
 refine⟨by omega,_,fill_two _ _,λq hq=>?_⟩
 refine .inr ⟨q,0,2,2,_,_,_,[UInt8.ofNat (48+i/10),UInt8.ofNat (48+i%10)],rfl,ins_eq _ _ _,rfl,rfl,?_⟩
 show vBin _ _ _ _ _ _
 rw[vBin_sadd _ _ _ (by simp[ByteArray.size])]
 refine⟨h,sub_ins _ hq,?_⟩
 have:(⟨#[97,99,99,116,47]⟩:ByteArray)++⟨[UInt8.ofNat (48+i/10),UInt8.ofNat (48+i%10)].toArray⟩=keyB i:=by
  apply ByteArray.ext
  rw[ByteArray.data_append]
  rfl
 rw[this];exact hR
end
end Go.Pw
set_option linter.unusedSimpArgs false
set_option linter.unusedVariables false
namespace Go.Pw
open Go Go.Proofs
structure OB (e:TypeId) (esz:Nat) (h0:PH) (n:Nat) (l:List Value) (h:PH) (s:Value):Prop where
 sub:Sub h0 h
 len:l.length=n*esz
 buf:(s = .slice none 0 0/\n=0/\l = [])\/∃g c cap,s = .slice (some ⟨g,0,none⟩) n cap/\h g=some (.cells c e (0,0))/\h0 g=none/\c.size=cap*esz/\n<=cap/\c.toList.take (n*esz)=l
section
variable {h h0 h1:PH} {e:TypeId} {esz n:Nat} {l:List Value} {s:Value}
theorem OB.up (hw:OB e esz h0 n l h s) (hs:Sub h h1):OB e esz h0 n l h1 s:=
 ⟨hw.sub.trans hs,hw.len,by
  rcases hw.buf with a | ⟨g,c,cap,a1,a2,a3⟩
  ·exact .inl a
  ·exact .inr ⟨g,c,cap,a1,hs _ _ a2,a3⟩⟩
theorem ob_app {K:Value->PH->Prop} {bytes m:Nat} {str:Bool} {x:Value} {news:List Value} (hw:OB e esz h0 n l h1 s) (hlen:(n+m)*bytes<=roomBytes) (hm:0<m) (hnl:news.length=m*esz)
  (hsrc:∀K':Nat->List Value->Prop,K' m news->srcCells str esz x h1 K') (hap:∀b off l c,x = .slice (some ⟨b,off,none⟩) l c->∀g cap,s = .slice (some ⟨g,0,none⟩) n cap->b≠g)
  (hk:∀h3 s3,OB e esz h0 (n+m) (l++news) h3 s3->K s3 h3) :
  vAppend str e esz bytes s x h1 K:=by
 unfold vAppend
 refine hsrc _ ?_
 rcases hw.buf with⟨rfl,rfl,rfl⟩ | ⟨g,c,cap,rfl,hg,hg0,hcs,hle,htk⟩
 ·refine .inl ⟨rfl,λhn=>absurd hn (by omega),λhn=>⟨by simpa using hlen,λb cap rest hb hc hl=>?_⟩⟩
  have:OB e esz h0 (0+m) ([]++news) (ins h1 b (.cells (news++rest).toArray e)) (.slice (some ⟨b,0,none⟩) (0+m) cap):=
   ⟨Sub.put hw.sub (hw.sub.fresh hb),by simpa using hnl,.inr ⟨b,_,cap,rfl,ins_eq _ _ _,hw.sub.fresh hb,by simpa using hl,by omega,by
    simp only[Nat.zero_add,List.nil_append]
    rw[<-hnl,List.take_left]⟩⟩
  have:=hk _ _ this
  rw[Nat.zero_add]at this
  exact this
 ·refine .inr (.inl ⟨g,n,cap,c,rfl,hg,hcs,hle,hlen,λb off l c' hx=>hap b off l c' hx g cap rfl,λb cap' rest hb hc hl=>?_⟩)
  have hb0:h0 b=none:=by
   rcases hb with rfl | hb
   ·exact hg0
   ·exact hw.sub.fresh hb
  have hsd:Sub h0 (dropB h1 g):=λy o hy=>by
   unfold dropB
   cases hq:Nat.beq y g
   ·exact hw.sub y o hy
   ·rw[Nat.eq_of_beq_eq_true hq,hg0]at hy;cases hy
  refine hk _ _ ⟨Sub.put hsd hb0,by rw[List.length_append,hw.len,hnl,Nat.add_mul],.inr ⟨b,_,cap',rfl,ins_eq _ _ _,hb0,?_,hc,?_⟩⟩
  ·simp only[List.size_toArray,List.length_append]at hl ⊢;omega
  ·rw[htk]
   simp only
   rw[show (n+m)*esz=(l++news).length by rw[List.length_append,hw.len,hnl,Nat.add_mul],List.take_left]
theorem ob_get (hw:OB e esz h0 n l h s) (hn:0<n):∃g c cap,s = .slice (some ⟨g,0,none⟩) n cap/\h g=some (.cells c e (0,0))/\n*esz<=c.size/\∀j,j<n*esz->c[j]?=l[j]?:=by
 rcases hw.buf with⟨_,h0,_⟩ | ⟨g,c,cap,rfl,hg,hg0,hcs,hle,htk⟩
 ·omega
 ·refine⟨g,c,cap,rfl,hg,by rw[hcs];exact Nat.mul_le_mul_right _ hle,λj hj=>?_⟩
  rw[<-htk,List.getElem?_take,if_pos hj,Array.getElem?_toList]
theorem ob_len (hw:OB e esz h0 n l h s):∃p cap,s = .slice p n cap:=by
 rcases hw.buf with⟨a,b,_⟩ | ⟨g,c,cap,a,_⟩
 ·exact⟨none,0,by rw[a,b]⟩
 ·exact⟨_,_,a⟩
end
def numsOf (L:Led) (i:Nat):List Int:=[L.f i 10,L.f i 0,L.f i 1]++(List.range L.goods.toNat).map (λj=>L.f i (2+j))++(List.range L.goods.toNat).map (λj=>L.f i (6+j))
def encL (l:List Int):List UInt8:=l.flatMap λn=>encN n.toNat
def payB (L:Led) (i:Nat):List UInt8:=encL (numsOf L i)++(encN (L.r i).size++(L.r i).data.toList)
def recCells (L:Led) (n:Nat):List Value:=(List.range n).flatMap λi=>[.string (keyB i),.string ⟨(payB L i).toArray⟩]
theorem recCells_succ (L:Led) (n:Nat):recCells L (n+1)=recCells L n ++ [.string (keyB n),.string ⟨(payB L n).toArray⟩]:=by
 unfold recCells
 rw[List.range_succ,List.flatMap_append];simp
theorem encL_len {l:List Int} (h:∀x∈l,0<=x/\x<=1099511627776):(encL l).length<=10*l.length:=by
 induction l with
 | nil=>simp[encL]
 | cons a l ih=>
  have h1:=ih λx hx=>h x (by simp[hx])
  have h2:=h a (by simp)
  have h3:=encN_10 (n:=a.toNat) (by omega)
  simp only[encL,List.flatMap_cons,List.length_append,List.length_cons]at h1 ⊢
  omega
theorem numsOf_len (L:Led) (i:Nat):(numsOf L i).length=3+L.goods.toNat+L.goods.toNat:=by simp[numsOf];omega
theorem numsOf_bd {L:Led} (h:Inv L) {i:Nat} (hi:i<L.n):∀x∈numsOf L i,0<=x/\x<=1099511627776:=by
 have hg:=h.gd
 intro x hx
 simp only[numsOf,List.mem_append,List.mem_cons,List.mem_map,List.mem_range,List.not_mem_nil,or_false]at hx
 rcases hx with ((rfl | rfl | rfl) | ⟨j,hj,rfl⟩) | ⟨j,hj,rfl⟩
 ·exact h.small.num i 10 hi (by omega)
 ·exact h.small.num i 0 hi (by omega)
 ·exact h.small.num i 1 hi (by omega)
 ·exact h.small.num i (2+j) hi (by omega)
 ·exact h.small.num i (6+j) hi (by omega)
def iv (n:Int):Value:=.int .i64 n
theorem ent_goods (L:Led) (i:Nat):∀k,k<=4->((entCells L i).toList.drop 2).take (k*1)=((List.range k).map (λj=>L.f i (2+j))).map iv
 | 0,_=>rfl
 | 1,_=>rfl
 | 2,_=>rfl
 | 3,_=>rfl
 | 4,_=>rfl
 | n+5,h=>absurd h (by omega)
theorem ent_lock (L:Led) (i:Nat):∀k,k<=4->((entCells L i).toList.drop 6).take (k*1)=((List.range k).map (λj=>L.f i (6+j))).map iv
 | 0,_=>rfl
 | 1,_=>rfl
 | 2,_=>rfl
 | 3,_=>rfl
 | 4,_=>rfl
 | n+5,h=>absurd h (by omega)
theorem iv_one {l:List Int}:∀v∈l.map iv,v.oneCell'=true:=by
 intro v hv
 obtain⟨x,_,rfl⟩:=List.mem_map.1 hv
 rfl
theorem vSlA_p {K:Value->Prop} {n esz b o:Nat} {k:IntKind} {m:Int} (h0:0<=m) (h1:m<=n) (hn:n≠0):vSlA n esz none (some (.int k m)) (.pointer (some ⟨b,o,none⟩)) K↔K (.slice (some ⟨b,o,none⟩) m.toNat n):=by
 constructor
 ·rintro⟨b',o',e,k',m',e2,_,_,hk⟩
  cases e;cases e2
  simp only[intBetween,if_neg hn,Nat.zero_mul,Nat.add_zero,Nat.sub_zero]at hk
  exact hk
 ·intro hk
  refine⟨b,o,rfl,k,m,rfl,by omega,h1,?_⟩
  simp only[intBetween,if_neg hn,Nat.zero_mul,Nat.add_zero,Nat.sub_zero]
  exact hk
theorem fill_three (a b c:Value) (ha:a.cells=#[a]) (hb:b.cells=#[b]) (hc:c.cells=#[c]):Instr.fill (λi=>some (i*1,1)) (rep #[Value.int .i64 0] (3*1)) [(0,a),(1,b),(2,c)]=some #[a,b,c]:=by
 have e:Array.range 3=#[0,1,2]:=by decide
 simp[Instr.fill,rep,ha,hb,hc,e]
theorem fill_rec (a b:ByteArray):Instr.fill (λi=>some (i*2,2)) (rep #[.string ⟨#[]⟩,.string ⟨#[]⟩] (1*2)) [(0,Value.agg #[.string a,.string b])]=some #[.string a,.string b]:=by
 have e:Array.range 2=#[0,1]:=by decide
 simp[Instr.fill,rep,Value.cells,e]
section
variable {h:PH} {R:AEnd->PH->Prop} {x b:Nat} {L:Led}
theorem records_ok (hL:LedAt h x b L) (hi:Inv L) (hR:∀g s,OB 42 2 h L.n (recCells L L.n) g s->R (.ret s) g):ACalls Tryz.prog 37 #[ptr x] h R:=by
 refine call37 ?_
 unfold sh37 ptr
 have hgd:=hi.gd
 have hg0:=hi.g0
 have hcl:=hi.cl
 rw[vBin_pnil Tryz.underlying81]
 simp
 rw[vLoad_1 hL.hx (show (#[Value.int .i64 L.goods,.slice (some ⟨b,0,none⟩) L.n L.n]:Array Value)[1]?=some (.slice (some ⟨b,0,none⟩) L.n L.n)from rfl)]
 simp
 refine lf_intro (λm s' g=>∃(i:Nat) (sv:Value),s'=(sv,.int .i64 i)/\m=L.n-i/\i<=L.n/\OB 42 2 h i (recCells L i) g sv) L.n ⟨0,.slice none 0 0,rfl,rfl,by omega,Sub.refl h,rfl,.inl ⟨rfl,rfl,rfl⟩⟩ ?_
 rintro m s' g ⟨i,sv,rfl,rfl,hle,hob⟩
 unfold b37_5
 simp only[vBin_lss,dIf_b,decide_eq_true_eq,decide_eq_false_iff_not]
 refine⟨λhlt=>?_,λhge=>?_⟩
 ·have hin:i<L.n:=by omega
  have hLg:LedAt g x b L:=hL.sub hob.sub
  simp
  refine⟨hin,?_⟩
  rw[hLg.ldEnt hin]
  refine vNew_i λc hc=>?_
  refine vStore_to (ins_eq _ _ _) (by rfl) (by rfl) (by rfl) ?_
  rw[ins_ins]
  have hEc:ins g c (.cells (entCells L i) 132 (0,0)) c=some (.cells (entCells L i) 132 (0,0)):=ins_eq _ _ _
  have hsE:Sub g (ins g c (.cells (entCells L i) 132 (0,0))):=sub_ins _ hc
  revert hEc hsE
  generalize ins g c (.cells (entCells L i) 132 (0,0))=E
  intro hEc hsE
  have hEL:LedAt E x b L:=hLg.sub hsE
  have e10:(entCells L i)[10]?=some (iv (L.f i 10)):=rfl
  have e0:(entCells L i)[0]?=some (iv (L.f i 0)):=rfl
  have e1:(entCells L i)[1]?=some (iv (L.f i 1)):=rfl
  have e11:(entCells L i)[11]?=some (.string (L.r i)):=rfl
  have eg:(#[Value.int .i64 L.goods,.slice (some ⟨b,0,none⟩) L.n L.n]:Array Value)[0]?=some (.int .i64 L.goods):=rfl
  have hsl:∀{K:Value->Prop} {o:Nat},vSlA 4 1 none (some (.int .i64 L.goods)) (.pointer (some ⟨c,o,none⟩)) K↔K (.slice (some ⟨c,o,none⟩) L.goods.toNat 4):=λ{K o}=>vSlA_p (by omega) (by omega) (by omega)
  simp[vLoad_1 hEc e10,vLoad_1 hEc e0,vLoad_1 hEc e1,vLoad_1 hEL.hx eg,hsl]
  refine⟨_,fill_three _ _ _ rfl rfl rfl,λq hq=>?_⟩
  have hE3:Sub E (ins E q (.cells #[iv (L.f i 10),iv (L.f i 0),iv (L.f i 1)] 3)):=sub_ins _ hq
  have ob0:OB 3 1 E 3 ([L.f i 10,L.f i 0,L.f i 1].map iv) (ins E q (.cells #[iv (L.f i 10),iv (L.f i 0),iv (L.f i 1)] 3)) (.slice (some ⟨q,0,none⟩) 3 3):=
   ⟨hE3,rfl,.inr ⟨q,_,3,rfl,ins_eq _ _ _,hq,rfl,by omega,rfl⟩⟩
  have hcq:c≠q:=λe=>by rw[<-e,hEc]at hq;cases hq
  have hlm:∀o,((List.range L.goods.toNat).map (λj=>L.f i (o+j)) |>.map iv).length=L.goods.toNat*1:=λo=>by simp
  refine ob_app (m:=L.goods.toNat) (news:=((List.range L.goods.toNat).map (λj=>L.f i (2+j))).map iv) ob0 (by simp only[roomBytes];omega) (by omega) (hlm 2)
   (λK' hk'=>.inr (.inr ⟨rfl,c,2,L.goods.toNat,4,_,_,_,rfl,hE3 _ _ hEc,?_,?_,?_⟩)) (λb' off l cc hx gg cap hs=>by cases hx;cases hs;exact hcq) λh4 s4 ob1=>?_
  ·show 2+L.goods.toNat*1<=12
   omega
  ·rw[ent_goods L i _ (by omega)];exact iv_one
  ·rw[ent_goods L i _ (by omega)];exact hk'
  refine⟨by rw[vLoad_1 (ob1.sub _ _ hEL.hx) eg],?_⟩
  refine ob_app (m:=L.goods.toNat) (news:=((List.range L.goods.toNat).map (λj=>L.f i (6+j))).map iv) ob1 (by simp only[roomBytes];omega) (by omega) (hlm 6)
   (λK' hk'=>.inr (.inr ⟨rfl,c,6,L.goods.toNat,4,_,_,_,rfl,ob1.sub _ _ hEc,?_,?_,?_⟩)) (λb' off l cc hx gg cap hs=>?_) λh5 s5 ob2=>?_
  ·show 6+L.goods.toNat*1<=12
   omega
  ·rw[ent_lock L i _ (by omega)];exact iv_one
  ·rw[ent_lock L i _ (by omega)];exact hk'
  ·cases hx
   intro e
   rcases ob1.buf with⟨h1,_⟩ | ⟨g',c',cap',h1,_,h3,_⟩
   ·rw[h1]at hs;cases hs
   ·rw[h1]at hs;cases hs;rw[<-e,hEc]at h3;cases h3
  have hl2:List.map iv [L.f i 10,L.f i 0,L.f i 1]++List.map iv (List.map (λj=>L.f i (2+j)) (List.range L.goods.toNat))++List.map iv (List.map (λj=>L.f i (6+j)) (List.range L.goods.toNat))=(numsOf L i).map iv:=by
   simp only[numsOf,List.map_append]
  rw[hl2]at ob2
  have hN:3+L.goods.toNat+L.goods.toNat=(numsOf L i).length:=(numsOf_len L i).symm
  rw[hN]at ob2
  have hN11:(numsOf L i).length<=11:=by omega
  have hN0:0<(numsOf L i).length:=by omega
  have hbd:=numsOf_bd hi hin
  obtain⟨gg,cc,ccap,hs5,hgg,hsz,hget⟩:=ob_get ob2 hN0
  rw[hs5]
  simp only[vLenS_s]
  clear ob0 ob1 hlm hl2
  generalize hNs:numsOf L i=N at *
  refine lf_intro (λm s' g'=>∃j:Nat,s'=(.string ⟨(encL (N.take j)).toArray⟩,.int .i64 j)/\m=N.length-j/\j<=N.length/\g'=h5) N.length ⟨0,rfl,rfl,by omega,rfl⟩ ?_
  rintro m s' g' ⟨j,rfl,rfl,hj,rfl⟩
  unfold b37_9
  simp only[vBin_lss,dIf_b,decide_eq_true_eq,decide_eq_false_iff_not]
  have hlt1:∀j,(encL (N.take j)).length<=110:=λj=>by
   have:=encL_len (l:=N.take j) λx hx=>hbd x (List.mem_of_mem_take hx)
   have:(N.take j).length<=N.length:=by rw[List.length_take];omega
   omega
  refine⟨λhlt2=>?_,λhge=>?_⟩
  ·have hjl:j<N.length:=by omega
   obtain⟨v,hv⟩:∃v,N[j]?=some v:=⟨_,List.getElem?_eq_getElem hjl⟩
   have hvb:=hbd v (List.mem_of_getElem? hv)
   obtain⟨k,rfl⟩:∃k:Nat,v=k:=⟨v.toNat,by omega⟩
   have hcj:cc[j]?=some (.int .i64 k):=by rw[hget j (by omega),List.getElem?_map,hv];rfl
   simp only[vIxS_p]
   refine⟨by omega,by omega,?_⟩
   rw[vLoad_1 hgg (v:=.int .i64 k) (by simpa using hcj)]
   refine putInt_ok (n:=k) (by omega) ?_
   simp only[AEnd.elim,vExt_20,vExt_21]
   have h10:=encN_10 (n:=k) (by omega)
   have hlj:=hlt1 j
   rw[vBin_sadd _ _ _ (by simp[ByteArray.size];omega)]
   simp only[vBin_add]
   rw[w64 (by omega) (by omega)]
   refine⟨by trivial,N.length-(j+1),by omega,j+1,?_,by trivial,by omega,by trivial⟩
   have e1:encL (N.take (j+1))=encL (N.take j)++encN k:=by
    rw[List.take_add_one,hv]
    simp[encL]
   have e2:(⟨(encL (N.take j)).toArray⟩:ByteArray)++⟨(encN k).toArray⟩=⟨(encL (N.take (j+1))).toArray⟩:=by
    apply ByteArray.ext
    rw[ByteArray.data_append,e1]
    simp
   rw[e2]
   rfl
  ·have hjn:j=N.length:=by omega
   subst hjn
   intro r hr
   simp only[Prod.mk.injEq]at hr
   obtain⟨r0,r3,r4,r5,r6,r19,r20,r21⟩:=hr
   rw[r0,r3,r4,r5,r6,r19,r20,r21]
   have hcc:g' c=some (.cells (entCells L i) 132 (0,0)):=ob2.sub _ _ hEc
   simp only[vFA_p,vLoad_1 hcc e11,Nat.zero_add]
   have hrep:=hi.rep i hin
   refine putText_ok (by omega) ?_
   simp only[AEnd.elim,vExt_20,vExt_21]
   refine key_ok (by omega) ?_
   simp only[AEnd.elim]
   have hlj:=hlt1 N.length
   have h10:=encN_10 (n:=(L.r i).size) (by omega)
   have hzz:(L.r i).data.toList.length=(L.r i).size:=by rw[Array.length_toList];rfl
   rw[vBin_sadd _ _ _ (by simp only[ByteArray.size,List.size_toArray,List.length_append];have:=hzz;simp only[ByteArray.size]at *;omega)]
   have e3:(⟨(encL (N.take N.length)).toArray⟩:ByteArray)++⟨(encN (L.r i).size++(L.r i).data.toList).toArray⟩=⟨(payB L i).toArray⟩:=by
    apply ByteArray.ext
    rw[ByteArray.data_append,List.take_length,payB,hNs]
    simp
   rw[e3]
   refine⟨#[.string (keyB i),.string ⟨(payB L i).toArray⟩],rfl,?_⟩
   refine⟨_,fill_rec _ _,λq' hq'=>?_⟩
   have hsG:Sub g (ins g' q' (.cells #[.string (keyB i),.string ⟨(payB L i).toArray⟩] 42)):=(hsE.trans ob2.sub).trans (sub_ins _ hq')
   refine ob_app (m:=1) (news:=[.string (keyB i),.string ⟨(payB L i).toArray⟩]) (hob.up hsG) (by simp only[roomBytes];omega) (by omega) rfl
    (λK' hk'=>.inr (.inr ⟨rfl,q',0,1,1,_,_,_,rfl,ins_eq _ _ _,?_,?_,?_⟩)) (λb' off l cc' hx gg' cap hs=>?_) λh6 s6 ob3=>?_
   ·simp
   ·intro v hv
    have:v = .string (keyB i)\/v = .string ⟨(payB L i).toArray⟩:=by simpa using hv
    rcases this with rfl | rfl <;> rfl
   ·exact hk'
   ·cases hx
    intro e
    rcases hob.buf with⟨h1,_⟩ | ⟨g2,c2,cap2,h1,h2,_⟩
    ·rw[h1]at hs;cases hs
    ·rw[h1]at hs;cases hs
     have:=(hsE.trans ob2.sub) _ _ h2
     rw[<-e,hq']at this;cases this
   simp only[vBin_add]
   rw[w64 (by omega) (by omega)]
   rw[<-recCells_succ]at ob3
   exact⟨by simp,L.n-(i+1),by omega,i+1,s6,by simp,rfl,by omega,ob3⟩
 ·have hin:i=L.n:=by omega
  subst hin
  intro r hr
  rw[show r 3=sv from hr]
  exact hR _ _ hob
end
end Go.Pw
set_option linter.unusedSimpArgs false
set_option linter.unusedVariables false
namespace Go.Pw
open Go Go.Proofs
def row (f:Nat->Int) (n:Nat):Array Value:=Array.ofFn (n:=n) λk=>.int .i64 (f k.val)
def upF (f:Nat->Int) (i:Nat) (v:Int):Nat->Int:=λk=>if k=i then v else f k
theorem row_size (f:Nat->Int) (n:Nat):(row f n).size=n:=by simp[row]
theorem row_at {f:Nat->Int} {n i:Nat} (hi:i<n):(row f n)[i]?=some (.int .i64 (f i)):=by unfold row;simp[hi]
theorem row_set {f:Nat->Int} {n i:Nat} (hi:i<n) (v:Int):(row f n).setIfInBounds i (.int .i64 v)=row (upF f i v) n:=by
 apply Array.ext_getElem?
 intro k
 rcases Nat.lt_or_ge k n with hk | hk
 ·rw[row_at hk]
  by_cases e:i=k
  ·subst e
   rw[Array.getElem?_setIfInBounds_self_of_lt (by rw[row_size];exact hk)]
   unfold upF;rw[if_pos rfl]
  ·rw[Array.getElem?_setIfInBounds_ne e,row_at hk]
   unfold upF;rw[if_neg (λh=>e h.symm)]
 ·rw[Array.getElem?_eq_none (by simpa [row_size]using hk),Array.getElem?_eq_none (by rw[row_size];exact hk)]
theorem row_zero (n:Nat):rep #[.int .i64 0] (n*1)=row (λ_=>0) n:=by
 apply Array.ext_getElem?
 intro k
 unfold rep
 rw[Nat.mul_one]
 rcases Nat.lt_or_ge k n with hk | hk
 ·rw[row_at hk]
  simp[hk]
  rw[Nat.mod_one];rfl
 ·rw[Array.getElem?_eq_none (by simpa using hk),Array.getElem?_eq_none (by rw[row_size];exact hk)]
theorem row_congr {f g:Nat->Int} {n:Nat} (H:∀i,i<n->f i=g i):row f n=row g n:=by
 unfold row
 congr 1
 funext k
 rw[H _ k.isLt]
abbrev RowAt (h:PH) (b:Nat) (f:Nat->Int) (n:Nat):Prop:=h b=some (.cells (row f n) 3 (0,0))
abbrev rowO (f:Nat->Int) (n:Nat):Obj:=.cells (row f n) 3 (0,0)
theorem row_ld {h:PH} {b n i:Nat} {f:Nat->Int} (hb:RowAt h b f n) (hi:i<n) {K:Value->Prop}:vLoad none (.pointer (some ⟨b,i,none⟩)) h K↔K (.int .i64 (f i)):=vLoad_1 hb (row_at hi)
theorem row_st {h:PH} {b n i:Nat} {f:Nat->Int} (hb:RowAt h b f n) (hi:i<n) {v:Int} {K:PH->Prop}:vStore 1 (.pointer (some ⟨b,i,none⟩)) (.int .i64 v) h K↔K (ins h b (rowO (upF f i v) n)):=by
 rw[vStore_1 hb (by rw[row_size];exact hi) rfl,row_set hi]
def putsB (Kp:List PanicEntry->PH->Prop) (x2:Value->PH->Prop) (f:Value×Value) (kn:(Value×Value)->(Value×Value)->PH->Prop) (s:Value×Value) (h:PH):Prop:=
 vBin Tryz.prog .lss 3 s.2 f.2 λt59=>
 dIf t59 (vIxS 1 f.1 s.2 λt60=>
 vLoad none t60 h λt61=>
 vCall Tryz.prog 34 #[t61] h (λt64 h_1=>
 vExt t64 0 λt65=>
 vExt t64 1 λt66=>
 vBin Tryz.prog .add 9 s.1 t65 λt69=>
 vBin Tryz.prog .add 3 s.2 (.int .i64 1) λt70=>
 kn f (t69,t70) h_1)
 Kp)
 (x2 s.1 h)
theorem encL_len2 {l:List Int} (h:∀x∈l,0<=x/\x<=9007199254740992):(encL l).length<=10*l.length:=by
 induction l with
 | nil=>simp[encL]
 | cons a l ih=>
  have h1:=ih λx hx=>h x (by simp[hx])
  have h2:=h a (by simp)
  have h3:=encN_10 (n:=a.toNat) (by omega)
  simp only[encL,List.flatMap_cons,List.length_append,List.length_cons]at h1 ⊢
  omega
theorem puts_ok {Kp:List PanicEntry->PH->Prop} {x2:Value->PH->Prop} {h0 h:PH} {N:List Int} {s:Value} (ob:OB 3 1 h0 N.length (N.map iv) h s) (hbd:∀x∈N,0<=x/\x<=9007199254740992) (hN:N.length<=100000)
  (hk:x2 (.string ⟨(encL N).toArray⟩) h):lf (putsB Kp x2) (s,.int .i64 N.length) (.string ⟨#[]⟩,.int .i64 0) h:=by
 refine lf_intro (λm s' g'=>∃j:Nat,s'=(.string ⟨(encL (N.take j)).toArray⟩,.int .i64 j)/\m=N.length-j/\j<=N.length/\g'=h) N.length ⟨0,rfl,rfl,by omega,rfl⟩ ?_
 rintro m s' g' ⟨j,rfl,rfl,hj,rfl⟩
 unfold putsB
 simp only[vBin_lss,dIf_b,decide_eq_true_eq,decide_eq_false_iff_not]
 refine⟨λhlt=>?_,λhge=>?_⟩
 ·have hjl:j<N.length:=by omega
  obtain⟨gg,cc,ccap,rfl,hgg,hsz,hget⟩:=ob_get ob (by omega)
  obtain⟨v,hv⟩:∃v,N[j]?=some v:=⟨_,List.getElem?_eq_getElem hjl⟩
  have hvb:=hbd v (List.mem_of_getElem? hv)
  obtain⟨k,rfl⟩:∃k:Nat,v=k:=⟨v.toNat,by omega⟩
  have hcj:cc[j]?=some (.int .i64 k):=by rw[hget j (by omega),List.getElem?_map,hv];rfl
  simp only[vIxS_p]
  refine⟨by omega,by omega,?_⟩
  rw[vLoad_1 hgg (v:=.int .i64 k) (by simpa using hcj)]
  refine putInt_ok (n:=k) (by omega) ?_
  simp only[AEnd.elim,vExt_20,vExt_21]
  have h10:=encN_10 (n:=k) (by omega)
  have hlj:(encL (N.take j)).length<=10*N.length:=by
   have h1:=encL_len2 (l:=N.take j) λx hx=>hbd x (List.mem_of_mem_take hx)
   have h2:(N.take j).length<=N.length:=by rw[List.length_take];omega
   omega
  rw[vBin_sadd _ _ _ (by simp[ByteArray.size];omega)]
  simp only[vBin_add]
  rw[w64 (by omega) (by omega)]
  refine⟨by trivial,N.length-(j+1),by omega,j+1,?_,by trivial,by omega,by trivial⟩
  have e1:encL (N.take (j+1))=encL (N.take j)++encN k:=by
   rw[List.take_add_one,hv]
   simp[encL]
  have e2:(⟨(encL (N.take j)).toArray⟩:ByteArray)++⟨(encN k).toArray⟩=⟨(encL (N.take (j+1))).toArray⟩:=by
   apply ByteArray.ext
   rw[ByteArray.data_append,e1]
   simp
  rw[e2]
  rfl
 ·have hjn:j=N.length:=by omega
  subst hjn
  rw[List.take_length]
  exact hk
section
variable {h:PH} {R:AEnd->PH->Prop} {a bb:Nat} {A:Auc}
def aucHead (A:Auc):List Int:=[A.sup,A.sta,A.stp,A.rnd,A.ste,A.n]
def aucNums (A:Auc):Nat->List Int
 | 0=>aucHead A
 | k+1=>aucNums A k ++ [A.was k,A.now k]
def aucB (A:Auc):ByteArray:=⟨(encL (aucNums A A.n)).toArray⟩
theorem aucNums_len (A:Auc):∀k,(aucNums A k).length=6+k*2
 | 0=>rfl
 | k+1=>by simp only[aucNums,List.length_append,aucNums_len A k,List.length_cons,List.length_nil];omega
theorem aucNums_bd {A:Auc} (hk:A.ok):∀k,k<=A.n->∀x∈aucNums A k,0<=x/\x<=9007199254740992
 | 0,_,x,hx=>by
  have h1:=hk.sup;have h2:=hk.sta;have h3:=hk.stp;have h4:=hk.rnd;have h5:=hk.ste;have h6:=hk.n;have h7:=hk.rndB
  have h8:=hk.priceB;have h9:=hk.mulB
  unfold Auc.price at h8
  simp only[aucNums,aucHead,List.mem_cons,List.not_mem_nil,or_false]at hx
  rcases hx with rfl | rfl | rfl | rfl | rfl | rfl <;> omega
 | k+1,hkn,x,hx=>by
  simp only[aucNums,List.mem_append,List.mem_cons,List.not_mem_nil,or_false]at hx
  rcases hx with hx | rfl | rfl
  ·exact aucNums_bd hk k (by omega) x hx
  ·have:=hk.was k (by omega);omega
  ·have:=hk.now k (by omega);omega
theorem bid_copy {K:Value->PH->Prop} (hA:AucAt h a bb A) {i:Nat} (hi:i<A.n) (hk:∀c,h c=none->K (ptr c) (ins h c (.cells #[.int .i64 (A.was i),.int .i64 (A.now i)] 157 (0,0)))) :
  vIxS 2 (.slice (some ⟨bb,0,none⟩) A.n A.n) (.int .i64 i) λt=>vLoad (some 2) t h λv=>vNew #[.int .i64 0,.int .i64 0] 157 h λp h1=>vStore 2 p v h1 λh2=>K p h2:=by
 rw[vIxS_p]
 refine⟨by omega,by omega,?_⟩
 rw[show 0+(i:Int).toNat*2=i*2 by omega,vLoad_n hA.hb (by rw[bidCells_size];omega)]
 have he:(bidCells A).extract (i*2) (i*2+2)=#[.int .i64 (A.was i),.int .i64 (A.now i)]:=by
  apply Array.ext_getElem?
  intro j
  rw[Array.getElem?_extract,bidCells_size]
  rcases Nat.lt_or_ge j 2 with hj | hj
  ·rw[if_pos (by omega)]
   match j,hj with
   | 0,_=>rw[Nat.add_zero,bidCells_was hi];rfl
   | 1,_=>rw[bidCells_now hi];rfl
  ·rw[if_neg (by omega),Array.getElem?_eq_none (by simpa using hj)]
 rw[he]
 refine vNew_i λc hc=>?_
 refine vStore_to (cs:=#[.int .i64 (A.was i),.int .i64 (A.now i)]) (ins_eq _ _ _) (by rfl) (by rfl) (by rfl) ?_
 rw[ins_ins]
 exact hk c hc
theorem fill_2i (a b:Value) (ha:a.cells=#[a]) (hb:b.cells=#[b]):Instr.fill (λi=>some (i*1,1)) (rep #[Value.int .i64 0] (2*1)) [(0,a),(1,b)]=some #[a,b]:=by
 have e:Array.range 2=#[0,1]:=by decide
 simp[Instr.fill,rep,ha,hb,e]
theorem fill_6i (a b c d e f:Value) (ha:a.cells=#[a]) (hb:b.cells=#[b]) (hc:c.cells=#[c]) (hd:d.cells=#[d]) (he:e.cells=#[e]) (hf:f.cells=#[f]) :
  Instr.fill (λi=>some (i*1,1)) (rep #[Value.int .i64 0] (6*1)) [(0,a),(1,b),(2,c),(3,d),(4,e),(5,f)]=some #[a,b,c,d,e,f]:=by
 have e0:Array.range 6=#[0,1,2,3,4,5]:=by decide
 simp[Instr.fill,rep,ha,hb,hc,hd,he,hf,e0]
theorem clock_bytes (hA:AucAt h a bb A) (hk:A.ok) (hR:R (.ret (.string (aucB A))) h):ACalls Tryz.prog 40 #[ptr a] h R:=by
 refine ACalls.drop (call40 ?_)
 unfold sh40
 have f0:=λK=>hA.f (K:=K) (j:=0) (v:=.int .i64 A.sup) rfl
 have f1:=λK=>hA.f (K:=K) (j:=1) (v:=.int .i64 A.sta) rfl
 have f2:=λK=>hA.f (K:=K) (j:=2) (v:=.int .i64 A.stp) rfl
 have f3:=λK=>hA.f (K:=K) (j:=3) (v:=.int .i64 A.rnd) rfl
 have f4:=λK=>hA.f (K:=K) (j:=4) (v:=.int .i64 A.ste) rfl
 have f5:=λK=>hA.f (K:=K) (j:=5) (v:=.slice (some ⟨bb,0,none⟩) A.n A.n) rfl
 have hn:=hk.n
 simp[vBin_pnil Tryz.underlying96,f0,f1,f2,f3,f4,f5]
 refine⟨_,fill_6i _ _ _ _ _ _ rfl rfl rfl rfl rfl rfl,λq hq=>?_⟩
 have ob0:OB 3 1 h 6 ((aucNums A 0).map iv) (ins h q (.cells #[.int .i64 A.sup,.int .i64 A.sta,.int .i64 A.stp,.int .i64 A.rnd,.int .i64 A.ste,.int .i64 A.n] 3)) (.slice (some ⟨q,0,none⟩) 6 6):=
  ⟨sub_ins _ hq,rfl,.inr ⟨q,_,6,rfl,ins_eq _ _ _,hq,rfl,by omega,rfl⟩⟩
 have hA1:=hA.sub ob0.sub
 have g5:=λK=>hA1.f (K:=K) (j:=5) (v:=.slice (some ⟨bb,0,none⟩) A.n A.n) rfl
 simp only[g5,vLenS_s]
 refine lf_intro (λm s' g=>∃(i:Nat) (sv:Value),s'=(sv,.int .i64 i)/\m=A.n-i/\i<=A.n/\OB 3 1 h (6+i*2) ((aucNums A i).map iv) g sv) A.n ⟨0,_,rfl,rfl,by omega,ob0⟩ ?_
 rintro m s' g ⟨i,sv,rfl,rfl,hi,ob⟩
 by_cases hin:i<A.n
 ·have key:∀(kn:(Value×Value)->(Value×Value)->PH->Prop) Kp x0,(∀g2 s2,OB 3 1 h (6+(i+1)*2) ((aucNums A (i+1)).map iv) g2 s2->kn (.slice (some ⟨bb,0,none⟩) A.n A.n,.int .i64 A.n) (s2,.int .i64 ((i:Int)+1)) g2) ->
    b40_5 Kp x0 (.slice (some ⟨bb,0,none⟩) A.n A.n,.int .i64 A.n) kn (sv,.int .i64 i) g:=by
   intro kn Kp x0 hkn
   unfold b40_5
   have hlt:(i:Int)<(A.n:Int):=by omega
   simp only[vBin_lss,hlt,decide_true,dIf_b]
   refine⟨λ_=>?_,λe=>absurd e (by simp)⟩
   refine bid_copy (hA.sub ob.sub) hin λc hc=>?_
   have e0:(#[.int .i64 (A.was i),.int .i64 (A.now i)]:Array Value)[0]?=some (.int .i64 (A.was i)):=rfl
   have e1:(#[.int .i64 (A.was i),.int .i64 (A.now i)]:Array Value)[1]?=some (.int .i64 (A.now i)):=rfl
   have hs2:=ob.up (sub_ins (.cells #[.int .i64 (A.was i),.int .i64 (A.now i)] 157 (0,0)) hc)
   have hcc:ins g c (.cells #[.int .i64 (A.was i),.int .i64 (A.now i)] 157 (0,0)) c=some _:=ins_eq _ _ _
   revert hs2 hcc
   generalize ins g c (.cells #[.int .i64 (A.was i),.int .i64 (A.now i)] 157 (0,0))=G
   intro hs2 hcc
   simp[vLoad_1 hcc e0,vLoad_1 hcc e1]
   refine⟨_,fill_2i _ _ rfl rfl,λr hr=>?_⟩
   refine ob_app (m:=2) (news:=[A.was i,A.now i].map iv) (hs2.up (sub_ins _ hr)) (by simp only[roomBytes];omega) (by omega) rfl
    (λK' hk'=>.inr (.inr ⟨rfl,r,0,2,2,_,_,_,rfl,ins_eq _ _ _,by simp,iv_one (l:=[A.was i,A.now i]),hk'⟩)) (λb' off l cc hx gg cap hs=>?_) λg2 s2 ob2=>?_
   ·cases hx
    intro e
    rcases hs2.buf with⟨h1,_⟩ | ⟨g',c',cap',h1,h2,_⟩
    ·rw[h1]at hs;cases hs
    ·rw[h1]at hs;cases hs;rw[<-e,hr]at h2;cases h2
   ·rw[w64 (by omega) (by omega)]
    refine hkn _ _ ?_
    rw[show 6+(i+1)*2=6+i*2+2 by omega]
    simp only[aucNums,List.map_append]
    exact ob2
  exact key _ _ _ λg2 s2 ob2=>⟨rfl,A.n-(i+1),by omega,i+1,s2,rfl,rfl,by omega,ob2⟩
 ·have e:i=A.n:=by omega
  subst e
  unfold b40_5
  simp
  intro r hr
  rw[show r 3=_ from hr]
  obtain⟨p,cap,rfl⟩:=ob_len ob
  simp only[vLenS_s]
  rw[show (6+A.n*2)=(aucNums A A.n).length from (aucNums_len A A.n).symm]at ob ⊢
  rw[show @b40_11=putsB from rfl]
  refine puts_ok ob (aucNums_bd hk A.n (Nat.le_refl _)) (by rw[aucNums_len];omega) ?_
  intro r2 hr2
  rw[show r2 6=_ from hr2]
  exact⟨h,ob.sub,hR⟩
end
end Go.Pw
set_option linter.unusedSimpArgs false
set_option linter.unusedVariables false
namespace Go.Pw
open Go Go.Proofs
section
variable {h:PH} {R:AEnd->PH->Prop} {a bb:Nat} {A:Auc}
theorem putAuc_hd {B:Auc} (hA:AucAt h a bb A) (hb:bidCells B=bidCells A):putAuc h a bb B=ins h a (.cells (aucHd B bb) 155 (0,0)):=by
 unfold putAuc;rw[hb,ins_self hA.hb]
def nxt (A:Auc) (k:Nat):Auc:={A with rnd:=A.rnd+1,was:=λi=>if i<k then A.now i else A.was i}
theorem nxt_set (A:Auc) (k:Nat):(nxt A k).setWas k (A.now k)=nxt A (k+1):=by
 unfold nxt Auc.setWas
 simp only[Auc.mk.injEq,true_and]
 refine⟨?_,trivial⟩
 funext i
 by_cases e:i=k
 ·subst e;rw[if_pos rfl,if_pos (by omega)]
 ·rw[if_neg e]
  by_cases h2:i<k
  ·rw[if_pos h2,if_pos (by omega)]
  ·rw[if_neg h2,if_neg (by omega)]
theorem nxt_end (A:Auc):nxt A A.n = {A with rnd:=A.rnd+1,was:=λi=>if i<A.n then A.now i else A.was i}:=rfl
theorem clock_next (hA:AucAt h a bb A) (hk:A.ok) (h0:A.ste=0) (hR:R (.ret (.tuple #[.bool (nextA A).1,.int .i64 0])) (putAuc h a bb (nextA A).2.2)):ACalls Tryz.prog 147 #[ptr a] h R:=by
 refine call147 ?_
 unfold sh147
 have f0:=λK=>hA.f (K:=K) (j:=0) (v:=.int .i64 A.sup) rfl
 have f2:=λK=>hA.f (K:=K) (j:=2) (v:=.int .i64 A.stp) rfl
 have f3:=λK=>hA.f (K:=K) (j:=3) (v:=.int .i64 A.rnd) rfl
 have f4:=λK=>hA.f (K:=K) (j:=4) (v:=.int .i64 A.ste) rfl
 have f5:=λK=>hA.f (K:=K) (j:=5) (v:=.slice (some ⟨bb,0,none⟩) A.n A.n) rfl
 have hn:=hk.n
 have b1:=hk.stp
 have b2:=hk.rndB
 have b3:=hk.rnd
 simp[vBin_pnil Tryz.underlying96,f4,h0,f0]
 refine clock_demand hA hk ?_
 simp only[AEnd.elim]
 refine⟨by rw[f0],?_⟩
 unfold nextA at hR
 rw[if_neg (by simp[h0])]at hR
 by_cases h1:A.demand<=A.sup
 ·rw[if_pos h1]at hR
  simp[h1]
  refine (vStore_1 hA.ha (by show 4<6;omega) rfl).2 ?_
  rw[vLoad_1 (ins_eq _ _ _) (v:=.int .i64 1) rfl]
  have e1:=putAuc_hd (B:={A with ste:=1}) hA rfl
  simp only at hR
  rw[e1]at hR
  have e2:aucHd {A with ste:=1} bb=(aucHd A bb).setIfInBounds 4 (.int .i64 1):=rfl
  simp only[vBin_neq]
  rw[<-e2]
  exact hR
 rw[if_neg h1]at hR
 simp[h1,f2]
 rw[w64 (by omega) (by omega)]
 refine clock_price hA hk ?_
 simp only[AEnd.elim]
 refine⟨by rw[f2],?_⟩
 by_cases h2:1099511627776-A.stp<A.price
 ·rw[if_pos h2]at hR
  simp[h2]
  refine (vStore_1 hA.ha (by show 4<6;omega) rfl).2 ?_
  rw[vLoad_1 (ins_eq _ _ _) (v:=.int .i64 2) rfl]
  have e1:=putAuc_hd (B:={A with ste:=2}) hA rfl
  simp only at hR
  rw[e1]at hR
  have e2:aucHd {A with ste:=2} bb=(aucHd A bb).setIfInBounds 4 (.int .i64 2):=rfl
  simp only[vBin_neq]
  rw[<-e2]
  exact hR
 rw[if_neg h2]at hR
 simp[h2,f3]
 rw[w64 (by omega) (by omega)]
 refine (vStore_1 hA.ha (by show 3<6;omega) rfl).2 ?_
 have e0:ins h a (.cells ((aucHd A bb).setIfInBounds 3 (.int .i64 (A.rnd+1))) 155 (0,0))=putAuc h a bb (nxt A 0):=by
  rw[putAuc_hd hA (by unfold bidCells bidCell nxt;simp)];rfl
 rw[e0]
 have hA0:AucAt (putAuc h a bb (nxt A 0)) a bb (nxt A 0):=hA.put
 have g5:=λK=>hA0.f (K:=K) (j:=5) (v:=.slice (some ⟨bb,0,none⟩) A.n A.n) rfl
 rw[g5]
 simp only[vLenS_s]
 refine lf_intro (λm s' g=>∃i:Nat,s' = .int .i64 i/\m=A.n-i/\i<=A.n/\g=putAuc h a bb (nxt A i)) A.n ⟨0,rfl,rfl,by omega,rfl⟩ ?_
 rintro m s' g ⟨i,rfl,rfl,hi,rfl⟩
 have hAi:AucAt (putAuc h a bb (nxt A i)) a bb (nxt A i):=hA.put
 by_cases hin:i<A.n
 ·have key:∀(kn:(Value×Value)->Value->PH->Prop) Kp x0,(kn (ptr a,.int .i64 A.n) (.int .i64 ((i:Int)+1)) (putAuc h a bb (nxt A (i+1)))) ->
    b147_3 Kp x0 (ptr a,.int .i64 A.n) kn (.int .i64 i) (putAuc h a bb (nxt A i)):=by
   intro kn Kp x0 hkn
   unfold b147_3
   have hlt:(i:Int)<(A.n:Int):=by omega
   have g5:=λK=>hAi.f (K:=K) (j:=5) (v:=.slice (some ⟨bb,0,none⟩) A.n A.n) rfl
   have go:=λK=>AucAt.o hAi (i:=i) hin (K:=K)
   have hsz:i*2<(bidCells (nxt A i)).size:=by rw[bidCells_size];show i*2<A.n*2;omega
   simp[hlt,g5,hin,go]
   rw[w64 (by omega) (by omega)]
   refine (vStore_1 hAi.hb hsz rfl).2 ?_
   have e1:(nxt A i).now i=A.now i:=rfl
   rw[bidCells_setWas (A:=nxt A i) hin,e1,nxt_set]
   have e2:putAuc h a bb (nxt A (i+1))=ins (putAuc h a bb (nxt A i)) bb (.cells (bidCells (nxt A (i+1))) 157 (0,0)):=by
    rw[<-putAuc_put hA.ne (nxt A i) (nxt A (i+1))]
    conv=>lhs;unfold putAuc
    refine ins_self ?_
    rw[ins_ne _ _ hA.ne]
    exact hAi.ha
   rw[<-e2]
   exact hkn
  exact key _ _ _ ⟨rfl,A.n-(i+1),by omega,i+1,rfl,rfl,by omega,rfl⟩
 ·have e:i=A.n:=by omega
  subst e
  unfold b147_3
  simp
  intro r hr
  rw[show r 0=_ from hr]
  have g4:=λK=>hAi.f (K:=K) (j:=4) (v:=.int .i64 A.ste) rfl
  simp[g4,h0]
  rw[nxt_end]
  exact hR
def leftN (g o:Nat->Int) (n:Int):Nat->Int
 | 0=>n
 | k+1=>if 0<leftN g o n k/\o k<g k then leftN g o n k-1 else leftN g o n k
def base (g:Nat->Int) (n sum:Int) (i:Nat):Int:=if 0<sum then (n*g i).tdiv sum else 0
def shareA (g:Nat->Int) (n:Int) (k:Nat) (i:Nat):Int:=
 let o:=base g n (sumN g k)
 let l:=n-sumN o k
 if 0<leftN g o l i/\o i<g i then o i+1 else o i
theorem base_bd {g:Nat->Int} {n sum:Int} {i:Nat} (hn:0<=n/\n<=1048576) (hg:0<=g i/\g i<=1048576):0<=base g n sum i/\base g n sum i<=1099511627776:=by
 unfold base
 split
 ·have h1:0<=n*g i:=Int.mul_nonneg hn.1 hg.1
  have h2:n*g i<=1048576*1048576:=Int.mul_le_mul hn.2 hg.2 hg.1 (by omega)
  rw[Int.tdiv_eq_ediv_of_nonneg h1]
  refine⟨Int.ediv_nonneg h1 (by omega),?_⟩
  have:=Int.ediv_le_self sum h1
  omega
 ·omega
theorem sumN_bd2 {g:Nat->Int} {M:Int} (hM:0<=M) {k:Nat} (h:∀i,i<k->0<=g i/\g i<=M) {j:Nat} (hj:j<=k):0<=sumN g j/\sumN g j<=j*M:=sumN_bd hM j λi hi=>h i (by omega)
theorem leftN_bd (g o:Nat->Int) (n:Int):∀k:Nat,n-k<=leftN g o n k/\leftN g o n k<=n
 | 0=>by unfold leftN;omega
 | k+1=>by
  have:=leftN_bd g o n k
  unfold leftN
  split <;> omega
def upto (f z:Nat->Int) (j:Nat):Nat->Int:=λk=>if k<j then f k else z k
theorem upto_set (f z:Nat->Int) (j:Nat):upF (upto f z j) j (f j)=upto f z (j+1):=by
 funext k
 unfold upF upto
 by_cases e:k=j
 ·subst e;rw[if_pos rfl,if_pos (by omega)]
 ·rw[if_neg e]
  by_cases h2:k<j
  ·rw[if_pos h2,if_pos (by omega)]
  ·rw[if_neg h2,if_neg (by omega)]
theorem upto_same {f z:Nat->Int} {j:Nat} (hz:f j=z j):upto f z (j+1)=upto f z j:=by
 funext k
 unfold upto
 by_cases e:k=j
 ·subst e;rw[if_pos (by omega),if_neg (by omega),hz]
 ·by_cases h2:k<j
  ·rw[if_pos h2,if_pos (by omega)]
  ·rw[if_neg h2,if_neg (by omega)]
theorem upto_end (f z:Nat->Int) (n:Nat):row (upto f z n) n=row f n:=row_congr λk hk=>if_pos hk
theorem upto_0 (f z:Nat->Int):upto f z 0=z:=by funext k;unfold upto;rw[if_neg (by omega)]
theorem upto_at (f z:Nat->Int) (j:Nat):upto f z j j=z j:=if_neg (by omega)
theorem upto_last (f z:Nat->Int) (j:Nat):upto f z (j+1) j=f j:=if_pos (by omega)
def more (g o:Nat->Int) (l:Int) (i:Nat):Int:=if 0<leftN g o l i/\o i<g i then o i+1 else o i
theorem shares_ok {gb n:Nat} {g:Nat->Int} {m:Int} (hb:RowAt h gb g n) (hn:n<=16) (hm:0<=m/\m<=1048576) (hg:∀i,i<n->0<=g i/\g i<=1048576) (hsum:m<=sumN g n)
  (hR:∀b,h b=none->R (.ret (.tuple #[.slice (some ⟨b,0,none⟩) n n,.int .i64 0])) (ins h b (rowO (shareA g m n) n))) :
  ACalls Tryz.prog 176 #[.int .i64 m,.slice (some ⟨gb,0,none⟩) n n] h R:=by
 refine call176 ?_
 unfold sh176
 simp only[vLenS_s]
 refine lf_intro (λq s' g'=>∃i:Nat,s'=(.slice none 0 0,.int .i64 0,.int .i64 (sumN g i),.int .i64 i)/\q=n-i/\i<=n/\g'=h) n ⟨0,rfl,rfl,by omega,rfl⟩ ?_
 rintro q s' g' ⟨i,rfl,rfl,hi,rfl⟩
 have bs:∀j,j<=n->0<=sumN g j/\sumN g j<=16777216:=λj hj=>by
  have:=sumN_bd2 (by omega) hg hj
  omega
 by_cases hin:i<n
 ·have key:∀(kn:(Value×Value×Value×Value)->(Value×Value×Value×Value)->PH->Prop) Kp x0 xr,(kn (.int .i64 m,.slice (some ⟨gb,0,none⟩) n n,.slice (some ⟨gb,0,none⟩) n n,.int .i64 n) (.slice none 0 0,.int .i64 0,.int .i64 (sumN g (i+1)),.int .i64 ((i:Int)+1)) g') ->
    b176_3 Kp x0 xr (.int .i64 m,.slice (some ⟨gb,0,none⟩) n n,.slice (some ⟨gb,0,none⟩) n n,.int .i64 n) kn (.slice none 0 0,.int .i64 0,.int .i64 (sumN g i),.int .i64 i) g':=by
   intro kn Kp x0 xr hkn
   unfold b176_3
   have hlt:(i:Int)<(n:Int):=by omega
   have h1:=hg i hin
   have h2:¬g i<0:=by omega
   have h3:¬1048576<g i:=by omega
   have h4:=bs i (by omega)
   simp[hlt,hin,row_ld hb hin,h2,h3]
   rw[w64 (by omega) (by omega),w64 (by omega) (by omega)]
   exact hkn
  exact key _ _ _ _ ⟨rfl,n-(i+1),by omega,i+1,rfl,rfl,by omega,rfl⟩
 have e:i=n:=by omega
 subst e
 unfold b176_3
 simp
 intro r hr
 simp only[Prod.mk.injEq]at hr
 obtain⟨r0,r1,r4,r5,r6⟩:=hr
 rw[r0,r1,r6]
 have c1:¬(16:Int)<(i:Int):=by omega
 have c2:¬m<0:=by omega
 have c3:¬1048576<m:=by omega
 have c4:¬sumN g i<m:=by omega
 simp[c1,c2,c3,c4]
 refine⟨_,_,_,_,rfl,rfl,by omega,by omega,by omega,by omega,λb hbn=>?_⟩
 have hbg:b≠gb:=(ne_fresh hbn hb).symm
 simp only[Int.toNat_natCast,row_zero]
 generalize hS:sumN g i=S at *
 have bo:∀j,j<i->0<=base g m S j/\base g m S j<=1099511627776:=λj hj=>base_bd hm (hg j hj)
 have bso:∀j,j<=i->0<=sumN (base g m S) j/\sumN (base g m S) j<=17592186044416:=λj hj=>by
  have:=sumN_bd2 (by omega) bo hj
  omega
 -- the first parting
 have hrow:∀(f:Nat->Int),RowAt (ins g' b (rowO f i)) gb g i:=λf=>by show ins _ _ _ _=_;rw[ins_ne _ _ hbg.symm];exact hb
 refine lf_intro (λq s' g2=>∃j:Nat,s'=(.int .i64 (m-sumN (base g m S) j),.int .i64 j)/\q=i-j/\j<=i/\g2=ins g' b (rowO (upto (base g m S) (λ_=>0) j) i)) i ⟨0,by simp[sumN],by omega,by omega,by rw[upto_0]⟩ ?_
 rintro q s' g2 ⟨j,rfl,rfl,hj,rfl⟩
 by_cases hjn:j<i
 ·have key:∀(kn:(Value×Value×Value×Value×Value×Value)->(Value×Value)->PH->Prop) Kp x0,(kn (.int .i64 m,.slice (some ⟨gb,0,none⟩) i i,.int .i64 S,.slice (some ⟨b,0,none⟩) i i,.slice (some ⟨gb,0,none⟩) i i,.int .i64 i) (.int .i64 (m-sumN (base g m S) (j+1)),.int .i64 ((j:Int)+1)) (ins g' b (rowO (upto (base g m S) (λ_=>0) (j+1)) i))) ->
    b176_14 Kp x0 (.int .i64 m,.slice (some ⟨gb,0,none⟩) i i,.int .i64 S,.slice (some ⟨b,0,none⟩) i i,.slice (some ⟨gb,0,none⟩) i i,.int .i64 i) kn (.int .i64 (m-sumN (base g m S) j),.int .i64 j) (ins g' b (rowO (upto (base g m S) (λ_=>0) j) i)):=by
   intro kn Kp x0 hkn
   unfold b176_14
   have hlt:(j:Int)<(i:Int):=by omega
   have h1:=hg j hjn
   have h4:=bso j (by omega)
   have h5:=bo j hjn
   simp[hlt,hjn,row_ld (hrow _) hjn]
   have hww:IntKind.i64.wrap ((j:Int)+1)=(j:Int)+1:=w64 (by omega) (by omega)
   rw[hww]
   refine⟨λhpos=>?_,λhneg=>?_⟩
   ·have hb0:base g m S j=(m*g j).tdiv S:=by unfold base;rw[if_pos hpos]
    have hmg1:0<=m*g j:=Int.mul_nonneg hm.1 h1.1
    have hmg2:m*g j<=1048576*1048576:=Int.mul_le_mul hm.2 h1.2 h1.1 (by omega)
    rw[w64 (x:=m*g j) (by omega) (by omega),vBin_quo _ _ _ _ (by omega),<-hb0,w64 (by omega) (by omega)]
    rw[row_st (ins_eq _ _ _) hjn,ins_ins,upto_set (base g m S) (λ_=>0) j]
    rw[row_ld (ins_eq _ _ _) hjn,upto_last]
    simp
    rw[w64 (by omega) (by omega)]
    rw[show m-sumN (base g m S) j-base g m S j=m-sumN (base g m S) (j+1)by simp only[sumN];omega]
    exact hkn
   ·have hb0:base g m S j=0:=by unfold base;rw[if_neg (by omega)]
    have h6:sumN (base g m S) (j+1)=sumN (base g m S) j:=by simp only[sumN];omega
    rw[h6]at hkn
    rw[upto_same hb0]at hkn
    exact hkn
  exact key _ _ _ ⟨rfl,i-(j+1),by omega,j+1,by simp,by omega,by omega,rfl⟩
 have e:j=i:=by omega
 subst e
 unfold b176_14
 simp
 intro r2 hr2
 simp only[Prod.mk.injEq]at hr2
 obtain⟨q1,q9,q10⟩:=hr2
 rw[q1,q9,q10]
 simp only[vLenS_s]
 unfold rowO
 rw[upto_end]
 generalize hL:m-sumN (base g m S) j=L0 at *
 have bL:-17592186044416<=L0/\L0<=1048576:=by have:=bso j (by omega);omega
 -- one by one
 refine lf_intro (λq s' g2=>∃t:Nat,s'=(.int .i64 (leftN g (base g m S) L0 t),.int .i64 t)/\q=j-t/\t<=j/\g2=ins g' b (rowO (upto (more g (base g m S) L0) (base g m S) t) j)) j ⟨0,by simp[leftN],by omega,by omega,by rw[upto_0]⟩ ?_
 rintro q s' g2 ⟨t,rfl,rfl,ht,rfl⟩
 by_cases htn:t<j
 ·have key:∀(kn:(Value×Value×Value)->(Value×Value)->PH->Prop) Kp x0,(kn (.slice (some ⟨b,0,none⟩) j j,.slice (some ⟨gb,0,none⟩) j j,.int .i64 j) (.int .i64 (leftN g (base g m S) L0 (t+1)),.int .i64 ((t:Int)+1)) (ins g' b (rowO (upto (more g (base g m S) L0) (base g m S) (t+1)) j))) ->
    b176_21 Kp x0 (.slice (some ⟨b,0,none⟩) j j,.slice (some ⟨gb,0,none⟩) j j,.int .i64 j) kn (.int .i64 (leftN g (base g m S) L0 t),.int .i64 t) (ins g' b (rowO (upto (more g (base g m S) L0) (base g m S) t) j)):=by
   intro kn Kp x0 hkn
   unfold b176_21
   have hlt:(t:Int)<(j:Int):=by omega
   have h1:=hg t htn
   have h4:=leftN_bd g (base g m S) L0 t
   have h5:=bo t htn
   have hww:IntKind.i64.wrap ((t:Int)+1)=(t:Int)+1:=w64 (by omega) (by omega)
   have hld:=λK=>row_ld (K:=K) (ins_eq g' b (rowO (upto (more g (base g m S) L0) (base g m S) t) j)) htn
   simp only[upto_at]at hld
   have e1:leftN g (base g m S) L0 (t+1)=if 0<leftN g (base g m S) L0 t/\base g m S t<g t then leftN g (base g m S) L0 t-1 else leftN g (base g m S) L0 t:=rfl
   rw[e1]at hkn
   by_cases hc1:0<leftN g (base g m S) L0 t
   ·by_cases hc2:base g m S t<g t
    ·rw[if_pos ⟨hc1,hc2⟩]at hkn
     simp[hlt,htn,row_ld (hrow _) htn,hc1,hld,hc2]
     rw[w64 (x:=base g m S t+1) (by omega) (by omega),row_st (ins_eq _ _ _) htn,ins_ins,w64 (by omega) (by omega),hww]
     have e2:more g (base g m S) L0 t=base g m S t+1:=if_pos ⟨hc1,hc2⟩
     rw[<-e2,upto_set (more g (base g m S) L0) (base g m S) t]
     exact hkn
    ·rw[if_neg (λh=>hc2 h.2)]at hkn
     simp[hlt,htn,row_ld (hrow _) htn,hc1,hld,hc2]
     rw[hww]
     have e2:more g (base g m S) L0 t=base g m S t:=if_neg λh=>hc2 h.2
     rw[upto_same e2]at hkn
     exact hkn
   ·rw[if_neg (λh=>hc1 h.1)]at hkn
    simp[hlt,htn,row_ld (hrow _) htn,hc1]
    rw[hww]
    have e2:more g (base g m S) L0 t=base g m S t:=if_neg λh=>hc1 h.1
    rw[upto_same e2]at hkn
    exact hkn
  exact key _ _ _ ⟨rfl,j-(t+1),by omega,t+1,by simp,by omega,by omega,rfl⟩
 have e:t=j:=by omega
 subst e
 unfold b176_21
 simp
 intro r3 hr3
 rw[show r3 9=_ from hr3]
 have:=hR b hbn
 have hsh:row (more g (base g m S) L0) t=row (shareA g m t) t:=row_congr λk hk=>by
  unfold shareA more
  simp only[hS,hL]
 unfold rowO
 rw[upto_end,hsh]
 exact this
end
end Go.Pw
set_option linter.unusedSimpArgs false
set_option linter.unusedVariables false
namespace Go.Pw
open Go Go.Proofs
def saleA (A:Auc):Int×(Nat->Int):=
 if A.ste=2 then (0,λ_=>0)else if A.rnd=1\/A.sup-A.demand=0 then (A.price,A.now)
 else (A.price-A.stp,λi=>A.now i+shareA (λk=>A.was k-A.now k) (A.sup-A.demand) A.n i)
theorem sumN_sub (f g:Nat->Int):∀n,sumN (λk=>f k-g k) n=sumN f n-sumN g n
 | 0=>rfl
 | n+1=>by simp only[sumN,sumN_sub f g n];omega
section
variable {h:PH} {R:AEnd->PH->Prop} {a bb:Nat} {A:Auc}
theorem shareA_bd {g:Nat->Int} {m:Int} {n i:Nat} (hm:0<=m/\m<=1048576) (hg:∀i,i<n->0<=g i/\g i<=1048576) (hi:i<n):0<=shareA g m n i/\shareA g m n i<=1099511627777:=by
 have:=base_bd (sum:=sumN g n) hm (hg i hi)
 unfold shareA
 simp only
 split <;> omega
theorem clock_sale (hA:AucAt h a bb A) (hk:A.ok) (hs:A.ste=2\/A.ste=1/\A.demand<=A.sup)
  (hR:∀b g,h b=none->Sub h g->RowAt g b (saleA A).2 A.n->R (.ret (.tuple #[.int .i64 (saleA A).1,.slice (some ⟨b,0,none⟩) A.n A.n,.int .i64 0])) g) :
  ACalls Tryz.prog 148 #[ptr a] h R:=by
 refine call148 ?_
 unfold sh148
 have f0:=λg (hs:Sub h g) K=>(hA.sub hs).f (K:=K) (j:=0) (v:=.int .i64 A.sup) rfl
 have f2:=λg (hs:Sub h g) K=>(hA.sub hs).f (K:=K) (j:=2) (v:=.int .i64 A.stp) rfl
 have f3:=λg (hs:Sub h g) K=>(hA.sub hs).f (K:=K) (j:=3) (v:=.int .i64 A.rnd) rfl
 have f4:=λg (hs:Sub h g) K=>(hA.sub hs).f (K:=K) (j:=4) (v:=.int .i64 A.ste) rfl
 have f5:=λg (hs:Sub h g) K=>(hA.sub hs).f (K:=K) (j:=5) (v:=.slice (some ⟨bb,0,none⟩) A.n A.n) rfl
 have hn:=hk.n
 have b0:=hk.sup
 have b1:=hk.stp
 have b2:=hk.sumB hk.now (Nat.le_refl _)
 have b3:=hk.priceB
 have hste:¬A.ste=0:=by omega
 simp[vBin_pnil Tryz.underlying96,f4 h (Sub.refl h),f5 h (Sub.refl h),hste]
 refine⟨_,_,_,_,rfl,rfl,by omega,by omega,by omega,by omega,λb hb=>?_⟩
 have hsb:Sub h (ins h b (rowO (λ_=>0) A.n)):=sub_ins _ hb
 simp only[Int.toNat_natCast,row_zero]
 rw[f4 _ hsb]
 unfold saleA at hR
 by_cases h2:A.ste=2
 ·rw[if_pos h2]at hR
  simp[h2]
  exact hR b _ hb hsb (ins_eq _ _ _)
 rw[if_neg h2]at hR
 have hle:A.demand<=A.sup:=by omega
 simp[h2,f0 _ hsb]
 refine clock_demand (hA.sub hsb) hk ?_
 simp only[AEnd.elim]
 refine⟨by rw[f0 _ hsb],?_⟩
 unfold Auc.demand at hle hR ⊢
 simp only[vBin_sub,vNil_p,vFA_p,f3 _ hsb,vBin_eql,boolOf_b]
 rw[w64 (by omega) (by omega)]
 have cpy:∀(G:PH),Sub h G->RowAt G b (λ_=>0) A.n->A.rnd=1\/A.sup-sumN A.now A.n=0->∀(x0:(Value×Value)->PH->Prop) Kp,(∀g,Sub h g->RowAt g b A.now A.n->x0 (ptr a,.slice (some ⟨b,0,none⟩) A.n A.n) g) ->
   lf (b148_11 Kp x0) (ptr a,.slice (some ⟨b,0,none⟩) A.n A.n,.slice (some ⟨bb,0,none⟩) A.n A.n,.int .i64 A.n) (.int .i64 0) G:=by
  intro G hG hr hc x0 Kp hx
  refine lf_intro (λq s' g=>∃i:Nat,s' = .int .i64 i/\q=A.n-i/\i<=A.n/\Sub h g/\RowAt g b (upto A.now (λ_=>0) i) A.n) A.n ⟨0,rfl,by omega,by omega,hG,by rw[upto_0];exact hr⟩ ?_
  rintro q s' g ⟨i,rfl,rfl,hi,hsg,hrw⟩
  by_cases hin:i<A.n
  ·have key:∀(kn:(Value×Value×Value×Value)->Value->PH->Prop) Kp x0,(∀g2,Sub h g2->RowAt g2 b (upto A.now (λ_=>0) (i+1)) A.n->kn (ptr a,.slice (some ⟨b,0,none⟩) A.n A.n,.slice (some ⟨bb,0,none⟩) A.n A.n,.int .i64 A.n) (.int .i64 ((i:Int)+1)) g2) ->
     b148_11 Kp x0 (ptr a,.slice (some ⟨b,0,none⟩) A.n A.n,.slice (some ⟨bb,0,none⟩) A.n A.n,.int .i64 A.n) kn (.int .i64 i) g:=by
    intro kn Kp x0 hkn
    unfold b148_11
    have hlt:(i:Int)<(A.n:Int):=by omega
    simp only[vBin_lss,hlt,decide_true,dIf_b]
    refine⟨λ_=>?_,λe=>absurd e (by simp)⟩
    refine bid_copy (hA.sub hsg) hin λc hc=>?_
    have hs2:=sub_ins (.cells #[.int .i64 (A.was i),.int .i64 (A.now i)] 157 (0,0)) hc
    have hcc:ins g c (.cells #[.int .i64 (A.was i),.int .i64 (A.now i)] 157 (0,0)) c=some _:=ins_eq _ _ _
    revert hs2 hcc
    generalize ins g c (.cells #[.int .i64 (A.was i),.int .i64 (A.now i)] 157 (0,0))=G2
    intro hs2 hcc
    have e1:(#[.int .i64 (A.was i),.int .i64 (A.now i)]:Array Value)[1]?=some (.int .i64 (A.now i)):=rfl
    simp[vLoad_1 hcc e1,hin,row_st (hs2 _ _ hrw) hin]
    rw[w64 (by omega) (by omega),upto_set]
    refine hkn _ (Sub.put (hsg.trans hs2) hb) (ins_eq _ _ _)
   exact key _ _ _ λg2 hs2 hr2=>⟨rfl,A.n-(i+1),by omega,i+1,rfl,rfl,by omega,hs2,hr2⟩
  ·have e:i=A.n:=by omega
   subst e
   unfold b148_11
   simp
   refine hx _ hsg ?_
   unfold RowAt at hrw ⊢
   rw[upto_end]at hrw
   exact hrw
 have fin:A.rnd=1\/A.sup-sumN A.now A.n=0->lf (b148_11 (λc h=>R (.pan c) h) (λv h=>exq (λρ=>(ρ 0,ρ 5)) v (λr h_5=>
   vCall Tryz.prog 109 #[(r 0)] h_5 (λt68 h_6=>R (.ret (.tuple #[t68,(r 5),(.int .i64 0)])) h_6) (λc h=>R (.pan c) h)) h)) (ptr a,.slice (some ⟨b,0,none⟩) A.n A.n,.slice (some ⟨bb,0,none⟩) A.n A.n,.int .i64 A.n) (.int .i64 0) (ins h b (rowO (λ_=>0) A.n)):=λhc=>by
  rw[if_pos hc]at hR
  refine cpy _ hsb (ins_eq _ _ _) hc _ _ λg hsg hrw=>?_
  intro r hr
  simp only[Prod.mk.injEq]at hr
  obtain⟨r0,r5⟩:=hr
  rw[r0,r5]
  refine clock_price (hA.sub hsg) hk ?_
  simp only[AEnd.elim]
  exact hR b _ hb hsg hrw
 by_cases h3:A.rnd=1
 ·simp[h3,f5 _ hsb]
  exact fin (.inl h3)
 by_cases h4:A.sup-sumN A.now A.n=0
 ·simp[h3,h4,f5 _ hsb]
  exact fin (.inr h4)
 rw[if_neg (by simp[h3,h4])]at hR
 clear cpy fin
 have hmore:=hk.more (by have:=hk.rnd;omega)
 have hfall:=hk.fall (by have:=hk.rnd;omega)
 have hgap:∀i,i<A.n->0<=A.was i-A.now i/\A.was i-A.now i<=1048576:=λi hi=>by
  have:=hk.was i hi;have:=hk.now i hi;have:=hfall i hi;omega
 simp[h3,h4,f5 _ hsb]
 refine⟨_,_,_,_,rfl,rfl,by omega,by omega,by omega,by omega,λb' hb'=>?_⟩
 simp only[Int.toNat_natCast,row_zero]
 obtain⟨hb1,hb2⟩:=fresh_of hb'
 have hs3:Sub h (ins (ins h b (rowO (λ_=>0) A.n)) b' (rowO (λ_=>0) A.n)):=Sub.put hsb hb1
 rw[f5 _ hs3]
 simp only[vLenS_s]
 refine lf_intro (λq s' g=>∃i:Nat,s' = .int .i64 i/\q=A.n-i/\i<=A.n/\Sub h g/\RowAt g b (λ_=>0) A.n/\RowAt g b' (upto (λk=>A.was k-A.now k) (λ_=>0) i) A.n) A.n
  ⟨0,rfl,by omega,by omega,hs3,by show ins _ _ _ _=_;rw[ins_ne _ _ hb2.symm];exact ins_eq _ _ _,by rw[upto_0];exact ins_eq _ _ _⟩ ?_
 rintro q s' g ⟨i,rfl,rfl,hi,hsg,hr1,hrw⟩
 by_cases hin:i<A.n
 ·have key:∀(kn:(Value×Value×Value×Value×Value×Value)->Value->PH->Prop) Kp x0,(∀g2,Sub h g2->RowAt g2 b (λ_=>0) A.n->RowAt g2 b' (upto (λk=>A.was k-A.now k) (λ_=>0) (i+1)) A.n->kn (ptr a,.slice (some ⟨b,0,none⟩) A.n A.n,.int .i64 (A.sup-sumN A.now A.n),.slice (some ⟨b',0,none⟩) A.n A.n,.slice (some ⟨bb,0,none⟩) A.n A.n,.int .i64 A.n) (.int .i64 ((i:Int)+1)) g2) ->
    b148_18 Kp x0 (ptr a,.slice (some ⟨b,0,none⟩) A.n A.n,.int .i64 (A.sup-sumN A.now A.n),.slice (some ⟨b',0,none⟩) A.n A.n,.slice (some ⟨bb,0,none⟩) A.n A.n,.int .i64 A.n) kn (.int .i64 i) g:=by
   intro kn Kp x0 hkn
   unfold b148_18
   have hlt:(i:Int)<(A.n:Int):=by omega
   simp only[vBin_lss,hlt,decide_true,dIf_b]
   refine⟨λ_=>?_,λe=>absurd e (by simp)⟩
   refine bid_copy (hA.sub hsg) hin λc hc=>?_
   have hs2:=sub_ins (.cells #[.int .i64 (A.was i),.int .i64 (A.now i)] 157 (0,0)) hc
   have hcc:ins g c (.cells #[.int .i64 (A.was i),.int .i64 (A.now i)] 157 (0,0)) c=some _:=ins_eq _ _ _
   revert hs2 hcc
   generalize ins g c (.cells #[.int .i64 (A.was i),.int .i64 (A.now i)] 157 (0,0))=G2
   intro hs2 hcc
   have e0:(#[.int .i64 (A.was i),.int .i64 (A.now i)]:Array Value)[0]?=some (.int .i64 (A.was i)):=rfl
   have e1:(#[.int .i64 (A.was i),.int .i64 (A.now i)]:Array Value)[1]?=some (.int .i64 (A.now i)):=rfl
   have hgp:=hgap i hin
   have hw1:IntKind.i64.wrap (A.was i-A.now i)=A.was i-A.now i:=w64 (by omega) (by omega)
   have hw2:IntKind.i64.wrap ((i:Int)+1)=(i:Int)+1:=w64 (by omega) (by omega)
   simp[vLoad_1 hcc e0,vLoad_1 hcc e1,hin,hw1,hw2,row_st (hs2 _ _ hrw) hin]
   rw[upto_set (λk=>A.was k-A.now k) (λ_=>0) i]
   refine hkn _ (Sub.put (hsg.trans hs2) hb1) ?_ (ins_eq _ _ _)
   show ins _ _ _ _=_
   rw[ins_ne _ _ hb2.symm]
   exact hs2 _ _ hr1
  exact key _ _ _ λg2 hs2 hr2 hr3=>⟨rfl,A.n-(i+1),by omega,i+1,rfl,rfl,by omega,hs2,hr2,hr3⟩
 have e:i=A.n:=by omega
 generalize hN:A.n=N at *
 subst e
 unfold b148_18
 simp
 intro r hr
 simp only[Prod.mk.injEq]at hr
 obtain⟨r0,r5,r6,r9⟩:=hr
 rw[r0,r5,r6,r9]
 unfold RowAt at hrw
 rw[upto_end]at hrw
 have hm:0<=A.sup-sumN A.now i/\A.sup-sumN A.now i<=1048576:=by omega
 refine shares_ok hrw (by omega) hm hgap (by rw[sumN_sub];omega) λc hc=>?_
 simp only[AEnd.elim,vExt_20,vExt_21]
 have hsc:Sub h (ins g c (rowO (shareA (λk=>A.was k-A.now k) (A.sup-sumN A.now i) i) i)):=hsg.trans (sub_ins _ hc)
 have hr1c:RowAt (ins g c (rowO (shareA (λk=>A.was k-A.now k) (A.sup-sumN A.now i) i) i)) b (λ_=>0) i:=(sub_ins _ hc) _ _ hr1
 have hr2c:RowAt (ins g c (rowO (shareA (λk=>A.was k-A.now k) (A.sup-sumN A.now i) i) i)) c (shareA (λk=>A.was k-A.now k) (A.sup-sumN A.now i) i) i:=ins_eq _ _ _
 have hcb:c≠b:=(ne_fresh hc hr1).symm
 revert hsc hr1c hr2c
 generalize ins g c (rowO (shareA (λk=>A.was k-A.now k) (A.sup-sumN A.now i) i) i)=G0
 intro hsc hr1c hr2c
 simp only[vNil_p,vFA_p,Nat.zero_add]
 rw[f5 _ hsc]
 simp only[vLenS_s]
 have hshb:∀j,j<i->0<=shareA (λk=>A.was k-A.now k) (A.sup-sumN A.now i) i j/\shareA (λk=>A.was k-A.now k) (A.sup-sumN A.now i) i j<=1099511627777:=λj hj=>shareA_bd hm hgap hj
 generalize hSH:shareA (λk=>A.was k-A.now k) (A.sup-sumN A.now i) i=SH at *
 refine lf_intro (λq s' g=>∃j:Nat,s' = .int .i64 j/\q=i-j/\j<=i/\Sub h g/\RowAt g c SH i/\RowAt g b (upto (λk=>A.now k+SH k) (λ_=>0) j) i) i
  ⟨0,rfl,by omega,by omega,hsc,hr2c,by rw[upto_0];exact hr1c⟩ ?_
 rintro q s' g3 ⟨j,rfl,rfl,hj,hsg3,hr3,hrw3⟩
 by_cases hjn:j<i
 ·have key:∀(kn:(Value×Value×Value×Value×Value)->Value->PH->Prop) Kp x0,(∀g2,Sub h g2->RowAt g2 c SH i->RowAt g2 b (upto (λk=>A.now k+SH k) (λ_=>0) (j+1)) i->kn (ptr a,.slice (some ⟨b,0,none⟩) i i,.slice (some ⟨c,0,none⟩) i i,.slice (some ⟨bb,0,none⟩) i i,.int .i64 i) (.int .i64 ((j:Int)+1)) g2) ->
    b148_24 Kp x0 (ptr a,.slice (some ⟨b,0,none⟩) i i,.slice (some ⟨c,0,none⟩) i i,.slice (some ⟨bb,0,none⟩) i i,.int .i64 i) kn (.int .i64 j) g3:=by
   intro kn Kp x0 hkn
   unfold b148_24
   have hlt:(j:Int)<(i:Int):=by omega
   simp only[vBin_lss,hlt,decide_true,dIf_b]
   refine⟨λ_=>?_,λe=>absurd e (by simp)⟩
   have bc:=λK hk=>bid_copy (K:=K) (hA.sub hsg3) (i:=j) (by omega) hk
   rw[hN]at bc
   refine bc _ λd hd=>?_
   have hs2:=sub_ins (.cells #[.int .i64 (A.was j),.int .i64 (A.now j)] 157 (0,0)) hd
   have hcc:ins g3 d (.cells #[.int .i64 (A.was j),.int .i64 (A.now j)] 157 (0,0)) d=some _:=ins_eq _ _ _
   revert hs2 hcc
   generalize ins g3 d (.cells #[.int .i64 (A.was j),.int .i64 (A.now j)] 157 (0,0))=G2
   intro hs2 hcc
   have e1:(#[.int .i64 (A.was j),.int .i64 (A.now j)]:Array Value)[1]?=some (.int .i64 (A.now j)):=rfl
   have hgp:=hk.now j (by omega)
   have hsp:=hshb j hjn
   have hw1:IntKind.i64.wrap (A.now j+SH j)=A.now j+SH j:=w64 (by omega) (by omega)
   have hw2:IntKind.i64.wrap ((j:Int)+1)=(j:Int)+1:=w64 (by omega) (by omega)
   simp[vLoad_1 hcc e1,hjn,row_ld (hs2 _ _ hr3) hjn,hw1,hw2,row_st (hs2 _ _ hrw3) hjn]
   rw[upto_set (λk=>A.now k+SH k) (λ_=>0) j]
   refine hkn _ (Sub.put (hsg3.trans hs2) hb) ?_ (ins_eq _ _ _)
   show ins _ _ _ _=_
   rw[ins_ne _ _ hcb]
   exact hs2 _ _ hr3
  exact key _ _ _ λg2 hs2 hr2 hr3=>⟨rfl,i-(j+1),by omega,j+1,rfl,rfl,by omega,hs2,hr2,hr3⟩
 have e:j=i:=by omega
 subst e
 unfold b148_24
 simp
 intro r2 hr2
 simp only[Prod.mk.injEq]at hr2
 obtain⟨q0,q5⟩:=hr2
 rw[q0,q5]
 simp only[vNil_p,vFA_p,Nat.zero_add]
 rw[f2 _ hsg3]
 refine clock_price (hA.sub hsg3) hk ?_
 simp only[AEnd.elim]
 refine⟨by rw[f2 _ hsg3],?_⟩
 simp only[vBin_sub]
 rw[w64 (by omega) (by omega)]
 unfold RowAt at hrw3
 rw[upto_end]at hrw3
 exact hR b g3 hb hsg3 hrw3
end
end Go.Pw
set_option linter.unusedSimpArgs false
set_option linter.unusedVariables false
namespace Go.Pw
open Go Go.Proofs
structure OS (e:TypeId) (esz:Nat) (s:Value) (n:Nat) (l:List Value) (h:PH):Prop where
 len:l.length=n*esz
 buf:(s = .slice none 0 0/\n=0/\l = [])\/∃g c cap,s = .slice (some ⟨g,0,none⟩) n cap/\h g=some (.cells c e (0,0))/\c.size=cap*esz/\n<=cap/\c.toList.take (n*esz)=l
section
variable {h g:PH} {e:TypeId} {esz n:Nat} {l:List Value} {s:Value} {C:PH->Prop}
theorem OS.mono:Mono (OS e esz s n l):=λh g hs ho=>⟨ho.len,by
 rcases ho.buf with a | ⟨g,c,cap,a1,a2,a3⟩
 ·exact .inl a
 ·exact .inr ⟨g,c,cap,a1,hs _ _ a2,a3⟩⟩
theorem os_ob (H:(OS e esz s n l•C) h):∃h0,C h0/\OB e esz h0 n l h s:=by
 obtain⟨h1,h2,d,s1,s2,o,c⟩:=H
 refine⟨h2,c,s2,o.len,?_⟩
 rcases o.buf with a | ⟨g,c,cap,a1,a2,a3⟩
 ·exact .inl a
 ·exact .inr ⟨g,c,cap,a1,s1 _ _ a2,d g (by rw[a2];simp),a3⟩
theorem ob_os {h0:PH} (hc:C h0) (ob:OB e esz h0 n l h s):(OS e esz s n l•C) h:=by
 rcases ob.buf with⟨rfl,rfl,rfl⟩ | ⟨g,c,cap,rfl,hg,hg0,a3⟩
 ·exact⟨λ_=>none,h0,λb hb=>absurd rfl hb,(λb o hb=>by simp at hb),ob.sub,⟨ob.len,.inl ⟨rfl,rfl,rfl⟩⟩,hc⟩
 ·refine⟨one g (.cells c e (0,0)),h0,λb hb=>?_,one_sub hg,ob.sub,⟨ob.len,.inr ⟨g,c,cap,rfl,ins_eq _ _ _,a3⟩⟩,hc⟩
  by_cases e:b=g
  ·subst e;exact hg0
  ·exact absurd (by unfold one;rw[ins_ne _ _ e]) hb
theorem OS.lens (o:OS e esz s n l h):∃p cap,s = .slice p n cap:=by
 rcases o.buf with⟨a,b,_⟩ | ⟨g,c,cap,a,_⟩
 ·exact⟨none,0,by rw[a,b]⟩
 ·exact⟨_,_,a⟩
theorem OS.get (o:OS e esz s n l h) (hn:0<n):∃g c cap,s = .slice (some ⟨g,0,none⟩) n cap/\h g=some (.cells c e (0,0))/\n*esz<=c.size/\∀j,j<n*esz->c[j]?=l[j]?:=by
 rcases o.buf with⟨_,h0,_⟩ | ⟨g,c,cap,rfl,hg,hcs,hle,htk⟩
 ·omega
 ·refine⟨g,c,cap,rfl,hg,by rw[hcs];exact Nat.mul_le_mul_right _ hle,λj hj=>?_⟩
  rw[<-htk,List.getElem?_take,if_pos hj,Array.getElem?_toList]
end
section
variable {P:Program} {K:Value->Prop}
theorem equalIn_snil (d:Nat) {t e:TypeId} (hu:P.underlying t=some (.slice e)) (a:Option Addr) (l c:Nat):pureRun P (Op.equalIn (d+1) t (.slice a l c) (.slice none 0 0))=some a.isNone:=by
 rw[Op.equalIn]
 exact pureRun_seq (pureRun_underlying hu) (by cases a <;> rfl)
theorem vBin_snil {t e:TypeId} (hu:P.underlying t=some (.slice e)) (a:Option Addr) (l c:Nat):vBin P .eql t (.slice a l c) (.slice none 0 0) K↔K (.bool a.isNone):=
 vBin_eq (λx y=>pureRun_eqGuard (λ_=>by simp) (by simp)) rfl (equalIn_snil 9999 hu a l c)
end
structure Ord where
 id:Int
 own:Int
 pr:Int
 am:Int
 pl:Int
 buys:Bool
deriving DecidableEq
def Ord.cells (o:Ord):List Value:=[.int .i64 o.id,.int .i64 o.own,.int .i64 o.pr,.int .i64 o.am,.int .i64 o.pl,.bool o.buys]
def Ord.a (o:Ord):Array Value:=#[.int .i64 o.id,.int .i64 o.own,.int .i64 o.pr,.int .i64 o.am,.int .i64 o.pl,.bool o.buys]
abbrev Ord.v (o:Ord):Value:=.agg o.a
def ordsC (l:List Ord):List Value:=l.flatMap Ord.cells
theorem ordsC_len (l:List Ord):(ordsC l).length=l.length*6:=by
 unfold ordsC
 induction l with
 | nil=>rfl
 | cons a l ih=>rw[List.flatMap_cons,List.length_append,ih];simp[Ord.cells];omega
theorem ordsC_app (l m:List Ord):ordsC (l++m)=ordsC l++ordsC m:=by simp[ordsC]
theorem ordsC_one {l:List Ord}:∀v∈ordsC l,v.oneCell'=true:=by
 intro v hv
 obtain⟨o,_,ho⟩:=List.mem_flatMap.1 hv
 simp only[Ord.cells,List.mem_cons,List.not_mem_nil,or_false]at ho
 rcases ho with rfl | rfl | rfl | rfl | rfl | rfl <;> rfl
theorem ordsC_get:∀(l:List Ord) (i:Nat) (o:Ord),l[i]?=some o->∀j,j<6->(ordsC l)[i*6+j]?=o.cells[j]?
 | [],i,o,h,_,_=>by simp at h
 | a::l,0,o,h,j,hj=>by
  simp only[List.getElem?_cons_zero,Option.some.injEq]at h
  subst h
  unfold ordsC
  rw[List.flatMap_cons,List.getElem?_append_left (by show 0*6+j<6;omega),Nat.zero_mul,Nat.zero_add]
 | a::l,i+1,o,h,j,hj=>by
  simp only[List.getElem?_cons_succ]at h
  unfold ordsC
  rw[List.flatMap_cons,List.getElem?_append_right (by show 6<=_;omega)]
  have:=ordsC_get l i o h j hj
  unfold ordsC at this
  rw[<-this]
  congr 1
  show (i+1)*6+j-6=_
  omega
def OrdsAt (h:PH) (s:Value) (l:List Ord):Prop:=OS 78 6 s l.length (ordsC l) h
theorem ord_ld {h:PH} {s:Value} {l:List Ord} (hs:OrdsAt h s l) {i:Nat} {o:Ord} (ho:l[i]?=some o):∃g c cap,s = .slice (some ⟨g,0,none⟩) l.length cap/\h g=some (.cells c 78 (0,0))/\i*6+6<=c.size/\c.extract (i*6) (i*6+6)=o.a /\
  ∀j v,o.a[j]?=some v->c[i*6+j]?=some v:=by
 have hi:i<l.length:=(List.getElem?_eq_some_iff.1 ho).1
 obtain⟨g,c,cap,rfl,hg,hsz,hget⟩:=OS.get hs (by omega)
 have hj:∀j,j<6->c[i*6+j]?=o.a[j]?:=λj hj=>by
  rw[hget _ (by omega),ordsC_get l i o ho j hj,show o.cells=o.a.toList from rfl,Array.getElem?_toList]
 refine⟨g,c,cap,rfl,hg,by omega,?_,λj v hv=>?_⟩
 ·apply Array.ext_getElem?
  intro j
  rw[Array.getElem?_extract]
  rcases Nat.lt_or_ge j 6 with h6 | h6
  ·rw[if_pos (by omega),hj j h6]
  ·rw[if_neg (by omega),Array.getElem?_eq_none (show o.a.size<=j from h6)]
 ·have h6:j<6:=by
   rcases Nat.lt_or_ge j 6 with h6 | h6
   ·exact h6
   ·rw[Array.getElem?_eq_none (show o.a.size<=j from h6)]at hv;cases hv
  rw[hj j h6,hv]
def rightO (o:Ord):Bool:=decide (0<=o.id/\o.id<=9007199254740992/\0<=o.own/\o.own<16/\0<=o.pr/\o.pr<=1099511627776/\1<=o.am/\o.am<=1048576)
def idx:List Ord->Int->Option Nat
 | [],_=>none
 | o::l,i=>if o.id=i then some 0 else (idx l i).map (· + 1)
def idxI (l:List Ord) (i:Int):Int:=match idx l i with | some k=>k | none=>-1
theorem idx_some {i:Int}:∀{l:List Ord} {k:Nat},idx l i=some k->k<l.length/\(∃o,l[k]?=some o/\o.id=i)/\∀j,j<k->∀o,l[j]?=some o->o.id≠i
 | [],k,h=>by simp[idx]at h
 | a::l,k,h=>by
  unfold idx at h
  by_cases e:a.id=i
  ·rw[if_pos e]at h;cases h
   exact⟨by simp,⟨a,rfl,e⟩,λj hj=>absurd hj (by omega)⟩
  ·rw[if_neg e]at h
   obtain⟨m,hm,rfl⟩:=Option.map_eq_some_iff.1 h
   obtain⟨h1,⟨o,h2,h3⟩,h4⟩:=idx_some hm
   refine⟨by simp;omega,⟨o,by simpa using h2,h3⟩,λj hj o ho=>?_⟩
   match j with
   | 0=>simp at ho;rw[<-ho];exact e
   | j+1=>exact h4 j (by omega) o (by simpa using ho)
theorem idx_none {i:Int}:∀{l:List Ord},idx l i=none->∀o∈l,o.id≠i
 | [],_,o,ho=>by cases ho
 | a::l,h,o,ho=>by
  unfold idx at h
  by_cases e:a.id=i
  ·rw[if_pos e]at h;cases h
  ·rw[if_neg e]at h
   rcases List.mem_cons.1 ho with rfl | ho
   ·exact e
   ·exact idx_none (Option.map_eq_none_iff.1 h) o ho
theorem idx_at {i:Int}:∀{l:List Ord} {k:Nat} {o:Ord},l[k]?=some o->o.id=i->(∀j,j<k->∀o,l[j]?=some o->o.id≠i)->idx l i=some k
 | [],k,o,h,_,_=>by simp at h
 | a::l,0,o,h,ho,_=>by
  simp at h;subst h
  unfold idx;rw[if_pos ho]
 | a::l,k+1,o,h,ho,hj=>by
  unfold idx
  rw[if_neg (hj 0 (by omega) a rfl),idx_at (k:=k) (by simpa using h) ho (λj hj' o' ho'=>hj (j+1) (by omega) o' (by simpa using ho'))]
  rfl
theorem idx_all {i:Int}:∀{l:List Ord},(∀(j:Nat) (o:Ord),l[j]?=some o->o.id≠i)->idx l i=none
 | [],_=>rfl
 | a::l,h=>by
  unfold idx
  rw[if_neg (h 0 a rfl),idx_all λj o ho=>h (j+1) o (by simpa using ho)]
  rfl
section
variable {h:PH} {R:AEnd->PH->Prop} {b:Nat} {s:Value} {l:List Ord} {n:Int}
theorem right_ok {o:Ord} (hR:R (.ret (.bool (rightO o))) h):ACalls Tryz.prog 93 #[o.v] h R:=by
 refine ACalls.drop (call93 ?_)
 unfold sh93
 refine vNew_gen λc G hc hs hcc=>?_
 have l0:=λK=>vLoad_1 (K:=K) hcc (show o.a[0]?=some (.int .i64 o.id)from rfl)
 have l1:=λK=>vLoad_1 (K:=K) hcc (show o.a[1]?=some (.int .i64 o.own)from rfl)
 have l2:=λK=>vLoad_1 (K:=K) hcc (show o.a[2]?=some (.int .i64 o.pr)from rfl)
 have l3:=λK=>vLoad_1 (K:=K) hcc (show o.a[3]?=some (.int .i64 o.am)from rfl)
 have fin:∀{t:Bool},rightO o=t->(∃g,Sub g G/\R (.ret (.bool t)) g):=λ{t} e=>⟨h,hs,by rw[<-e];exact hR⟩
 by_cases c1:0<=o.id
 ·by_cases c2:o.id<=9007199254740992
  ·by_cases c3:0<=o.own
   ·by_cases c4:o.own<16
    ·by_cases c5:0<=o.pr
     ·by_cases c6:o.pr<=1099511627776
      ·by_cases c7:1<=o.am
       ·simp[l0,l1,l2,l3,c1,c2,c3,c4,c5,c6,c7]
        exact fin (by unfold rightO;congr 1;simp[c1,c2,c3,c4,c5,c6,c7])
       ·simp[l0,l1,l2,l3,c1,c2,c3,c4,c5,c6,c7]
        exact fin (by simp[rightO,c7])
      ·simp[l0,l1,l2,l3,c1,c2,c3,c4,c5,c6]
       exact fin (by simp[rightO,c6])
     ·simp[l0,l1,l2,l3,c1,c2,c3,c4,c5]
      exact fin (by simp[rightO,c5])
    ·simp[l0,l1,l2,l3,c1,c2,c3,c4]
     exact fin (by simp[rightO,c4])
   ·simp[l0,l1,l2,l3,c1,c2,c3]
    exact fin (by simp[rightO,c3])
  ·simp[l0,l1,l2,l3,c1,c2]
   exact fin (by simp[rightO,c2])
 ·simp[l0,l1,l2,l3,c1]
  exact fin (by simp[rightO,c1])
theorem isId_ok {o:Ord} {p:Nat} (hp:h p=some (.cells #[.int .i64 n] 3 (0,0))) (hR:R (.ret (.bool (decide (o.id=n)))) h):ACalls Tryz.prog 143 #[o.v,ptr p] h R:=by
 refine ACalls.drop (call143 ?_)
 unfold sh143
 refine vNew_gen λc G hc hs hcc=>?_
 have l0:=λK=>vLoad_1 (K:=K) hcc (show o.a[0]?=some (.int .i64 o.id)from rfl)
 have lp:=λK=>vLoad_1 (K:=K) (hs _ _ hp) (show (#[.int .i64 n]:Array Value)[0]?=some (.int .i64 n)from rfl)
 simp[l0,lp]
 exact⟨h,hs,hR⟩
theorem indexId_ok {p:Nat} (hs:OrdsAt h s l) (hz:l.length<1000000) (hp:h p=some (.cells #[.int .i64 n] 3 (0,0))) (hR:R (.ret (.int .i64 (idxI l n))) h) :
  ACalls Tryz.prog 142 #[s,.func (.func 143) #[] #[ptr p]] h R:=by
 refine call142 ?_
 unfold sh142
 obtain⟨pp,cap,hse⟩:=OS.lens hs
 rw[hse]
 simp only[vLenS_s]
 refine lf_intro (λm s' g'=>∃i:Nat,s'=(.int .i64 0,.int .i64 i)/\m=l.length-i/\i<=l.length/\g'=h/\∀j,j<i->∀o,l[j]?=some o->o.id≠n) l.length ⟨0,rfl,rfl,by omega,rfl,λj hj=>absurd hj (by omega)⟩ ?_
 rintro m s' g' ⟨i,rfl,rfl,hi,rfl,hnot⟩
 by_cases hin:i<l.length
 ·obtain⟨o,ho⟩:∃o,l[i]?=some o:=⟨_,List.getElem?_eq_getElem hin⟩
  have key:∀(kn:(Value×Value×Value)->(Value×Value)->PH->Prop) Kp x0 xr,(o.id=n->xr (.int .i64 i) g')->(o.id≠n->kn (.slice pp l.length cap,.func (.func 143) #[] #[ptr p],.int .i64 l.length) (.int .i64 0,.int .i64 ((i:Int)+1)) g') ->
    b142_2 Kp x0 xr (.slice pp l.length cap,.func (.func 143) #[] #[ptr p],.int .i64 l.length) kn (.int .i64 0,.int .i64 i) g':=by
   intro kn Kp x0 xr hT hF
   unfold b142_2
   obtain⟨g,c,cap',he,hg,hsz,hex,_⟩:=ord_ld hs ho
   rw[hse]at he
   cases he
   have hlt:(i:Int)<(l.length:Int):=by omega
   simp only[vBin_lss,hlt,decide_true,dIf_b,vIxS_p]
   refine⟨λ_=>⟨by omega,by omega,?_⟩,λe=>absurd e (by simp)⟩
   rw[show 0+(i:Int).toNat*6=i*6 by omega,vLoad_n hg hsz,hex]
   refine⟨_,_,_,rfl,?_⟩
   refine isId_ok hp ?_
   simp only[AEnd.elim,dIf_b,decide_eq_true_eq,decide_eq_false_iff_not]
   refine⟨hT,λhne=>?_⟩
   simp only[vBin_add]
   rw[w64 (by omega) (by omega)]
   exact hF hne
  refine key _ _ _ _ (λhe=>?_) (λhne=>⟨rfl,l.length-(i+1),by omega,i+1,rfl,rfl,by omega,rfl,λj hj o' ho'=>?_⟩)
  ·intro r hr
   rw[show r 4=_ from hr]
   have:=idx_at ho he hnot
   unfold idxI at hR
   rw[this]at hR
   exact hR
  ·by_cases e:j=i
   ·subst e;rw[ho]at ho';cases ho';exact hne
   ·exact hnot j (by omega) o' ho'
 ·have e:i=l.length:=by omega
  subst e
  unfold b142_2
  simp
  intro r hr
  have:idx l n=none:=idx_all λj o ho=>hnot j (List.getElem?_eq_some_iff.1 ho).1 o ho
  unfold idxI at hR
  rw[this]at hR
  exact hR
abbrev BkCell (s:Value) (nx:Int):Obj:=.cells #[s,.int .i64 nx] 152 (0,0)
theorem at_ok {nx:Int} (hb:h b=some (BkCell s nx)) (hs:OrdsAt h s l) (hz:l.length<1000000) (hR:R (.ret (.int .i64 (idxI l n))) h):ACalls Tryz.prog 94 #[ptr b,.int .i64 n] h R:=by
 refine ACalls.drop (call94 ?_)
 unfold sh94
 refine vNew_gen λc G hc hsub hcc=>?_
 have lb:=λK=>vLoad_1 (K:=K) (hsub _ _ hb) (show (#[s,.int .i64 nx]:Array Value)[0]?=some s from rfl)
 simp[lb]
 refine indexId_ok (OS.mono _ _ hsub hs) hz hcc ?_
 exact⟨h,hsub,hR⟩
end
end Go.Pw
set_option linter.unusedSimpArgs false
set_option linter.unusedVariables false
namespace Go.Pw
open Go Go.Proofs
structure Bk where
 next:Int
 l:List Ord
deriving DecidableEq
structure Bk.ok (B:Bk):Prop where
 right:∀o∈B.l,rightO o=true
 ids:B.l.Pairwise λx y=>x.id≠y.id
 pls:B.l.Pairwise λx y=>x.pl<y.pl
 pl:∀o∈B.l,1<=o.pl/\o.pl<B.next
 len:B.l.length<=64
 nx:1<=B.next/\B.next<=9007199254740992
def BkP (b:Nat) (B:Bk):PH->Prop:=λh=>∃s,(OS 78 6 s B.l.length (ordsC B.l)•pt b (BkCell s B.next)) h
theorem BkP.mono {b:Nat} {B:Bk}:Mono (BkP b B):=λh g hs ⟨s,H⟩=>⟨s,sep_sub H hs⟩
section
variable {h g:PH} {b:Nat} {B:Bk} {C:PH->Prop} {e:TypeId} {esz n:Nat} {l:List Value} {s:Value}
theorem bk_get (H:BkP b B h):∃s,h b=some (BkCell s B.next)/\OrdsAt h s B.l:=by
 obtain⟨s,H⟩:=H
 exact⟨s,sep_r (mono_pt _ _) H,sep_l OS.mono H⟩
theorem bk_open (H:(BkP b B•C) h):∃s h0,(pt b (BkCell s B.next)•C) h0/\OB 78 6 h0 B.l.length (ordsC B.l) h s:=by
 obtain⟨s,H⟩:=sep_ex.1 H
 obtain⟨h0,hc,ob⟩:=os_ob (sep_a H)
 exact⟨s,h0,hc,ob⟩
theorem bk_shut {h0:PH} {s:Value} (hc:(pt b (BkCell s B.next)•C) h0) (ob:OB 78 6 h0 B.l.length (ordsC B.l) h s):(BkP b B•C) h:=by
 refine sep_ex.2 ⟨s,?_⟩
 rw[sep_assoc]
 exact ob_os hc ob
theorem OB.ld {h0:PH} {b:Nat} {o:Obj} (ob:OB e esz h0 n l h s) (hb:h0 b=some o):h b=some o:=ob.sub _ _ hb
theorem OB.st {h0:PH} {b:Nat} {o p:Obj} (ob:OB e esz h0 n l h s) (hb:h0 b=some o):OB e esz (ins h0 b p) n l (ins h b p) s:=
 ⟨ob.sub.both,ob.len,by
  rcases ob.buf with a | ⟨g,c,cap,a1,a2,a3,a4⟩
  ·exact .inl a
  ·have hg:g≠b:=λe=>by rw[e,hb]at a3;cases a3
   exact .inr ⟨g,c,cap,a1,by rw[ins_ne _ _ hg];exact a2,by rw[ins_ne _ _ hg];exact a3,a4⟩⟩
end
section
variable {h g:PH} {R:AEnd->PH->Prop} {b:Nat} {l:List Ord} {s:Value}
theorem clone_ok (hs:OrdsAt h s l) (hz:l.length<=64) (hR:∀g s',OB 78 6 h l.length (ordsC l) g s'->R (.ret s') g):ACalls Tryz.prog 91 #[s] h R:=by
 refine call91 ?_
 unfold sh91
 rcases hs.buf with⟨rfl,h0,h1⟩ | ⟨gg,c,cap,rfl,hg,hcs,hle,htk⟩
 ·rw[vBin_snil Tryz.underlying69]
  simp
  rw[h0,h1]at hR
  exact hR _ _ ⟨Sub.refl h,rfl,.inl ⟨rfl,rfl,rfl⟩⟩
 ·rw[vBin_snil Tryz.underlying69]
  simp
  refine⟨_,rfl,λd hd=>?_⟩
  have hsd:=sub_ins (.cells (rep #[Value.int .i64 0,.int .i64 0,.int .i64 0,.int .i64 0,.int .i64 0,.bool false] (0*6)) 78) hd
  have hz0:(rep #[Value.int .i64 0,.int .i64 0,.int .i64 0,.int .i64 0,.int .i64 0,.bool false] (0*6)).size=0:=by simp[rep]
  unfold vAppend srcCells
  refine .inr (.inr ⟨rfl,gg,0,l.length,cap,c,_,(0,0),rfl,hsd _ _ hg,by rw[hcs];omega,?_,?_⟩)
  ·rw[List.drop_zero,htk];exact ordsC_one
  ·rw[List.drop_zero,htk]
   refine .inr (.inl ⟨d,0,0,_,rfl,ins_eq _ _ _,by simp[rep],Nat.le_refl _,by simp only[roomBytes];omega,λb' off l' c' hx=>?_,λb' cap' rest hb' hc' hl'=>?_⟩)
   ·cases hx
    exact ne_fresh hd hg
   ·simp only[Nat.zero_mul,List.take_zero,List.nil_append,Nat.zero_add]at hl' hc' ⊢
    have hb0:h b'=none:=by
     rcases hb' with rfl | hb'
     ·exact hd
     ·exact hsd.fresh hb'
    refine hR _ _ ⟨Sub.put (λx o hx=>?_) hb0,ordsC_len l,.inr ⟨b',_,cap',rfl,ins_eq _ _ _,hb0,by simp only[List.size_toArray,List.length_append];exact hl',hc',?_⟩⟩
    ·unfold dropB
     cases hq:Nat.beq x d
     ·exact hsd x o hx
     ·rw[Nat.eq_of_beq_eq_true hq,hd]at hx;cases hx
    ·rw[<-ordsC_len l];simp
end
def putO (B:Bk) (o:Ord):Int×Bk:=
 if rightO o=false\/o.pl≠0 then (1,B)else if (idx B.l o.id).isSome then (63,B)else if B.l.length=64\/9007199254740992<=B.next then (2,B)
 else (0,{next:=B.next+1,l:=B.l ++ [{o with pl:=B.next}]})
theorem fill_ord (o:Ord):Instr.fill (λi=>some (i*6,6)) (rep #[Value.int .i64 0,.int .i64 0,.int .i64 0,.int .i64 0,.int .i64 0,.bool false] (1*6)) [(0,o.v)]=some o.a:=by
 have e:Array.range 6=#[0,1,2,3,4,5]:=by decide
 simp[Instr.fill,rep,Value.cells,e,Ord.a]
theorem ordsC_snoc (l:List Ord) (o:Ord):ordsC l++o.a.toList=ordsC (l ++ [o]):=by rw[ordsC_app];simp[ordsC,Ord.cells,Ord.a]
theorem idxI_neg {l:List Ord} {n:Int} (hn:idx l n=none):idxI l n = -1:=by unfold idxI;rw[hn]
theorem idxI_pos {l:List Ord} {n:Int} {k:Nat} (hn:idx l n=some k):idxI l n=k:=by unfold idxI;rw[hn]
section
variable {h g:PH} {R:AEnd->PH->Prop} {b:Nat} {B:Bk} {C:PH->Prop}
theorem bk_put {o:Ord} (H:(BkP b B•C) h) (hlen:B.l.length<=64) (hnx:1<=B.next/\B.next<=9007199254740992) (hR:∀g,(BkP b (putO B o).2•C) g->R (.ret (.int .i64 (putO B o).1)) g) :
  ACalls Tryz.prog 116 #[ptr b,o.v] h R:=by
 refine call116 ?_
 unfold sh116
 obtain⟨s,h0,hc,ob⟩:=bk_open H
 rw[show Value.cells o.v=o.a from rfl]
 refine vNew_i λc hcn=>?_
 have hb0:=pt_get hc
 have ob1:=ob.up (sub_ins (.cells o.a 78 (0,0)) hcn)
 have hcc:ins h c (.cells o.a 78 (0,0)) c=some (.cells o.a 78 (0,0)):=ins_eq _ _ _
 have hs1:Sub h (ins h c (.cells o.a 78 (0,0))):=sub_ins _ hcn
 have hcb:c≠b:=(ne_fresh hcn (ob.ld hb0)).symm
 have hH:(BkP b B•C) (ins h c (.cells o.a 78 (0,0))):=sep_sub H hs1
 unfold putO at hR
 rw[vBin_pnil Tryz.underlying93]
 have l6:=λK=>vLoad_n (K:=K) hcc (off:=0) (n:=6) (by show 0+6<=6;omega)
 have ex6:o.a.extract 0 (0+6)=o.a:=rfl
 rw[ex6]at l6
 have l4:=λK=>vLoad_1 (K:=K) hcc (show o.a[4]?=some (.int .i64 o.pl)from rfl)
 have l0:=λK=>vLoad_1 (K:=K) hcc (show o.a[0]?=some (.int .i64 o.id)from rfl)
 simp[l6]
 refine right_ok ?_
 simp only[AEnd.elim]
 cases hr:rightO o with
 | false=>
  rw[if_pos (.inl hr)]at hR
  simp
  exact hR _ hH
 | true=>
  by_cases hpl:o.pl=0
  ·rw[if_neg (by simp[hr,hpl])]at hR
   simp[l4,hpl,l0]
   refine at_ok (ob1.ld hb0) (sep_l OS.mono (ob_os hc ob1)) (by omega) ?_
   simp only[AEnd.elim]
   cases hix:idx B.l o.id with
   | some k=>
    rw[hix]at hR
    rw[idxI_pos hix]
    simp at hR ⊢
    exact hR _ hH
   | none=>
    rw[hix]at hR
    rw[idxI_neg hix]
    have lb0:=λK=>vLoad_1 (K:=K) (ob1.ld hb0) (show (#[s,.int .i64 B.next]:Array Value)[0]?=some s from rfl)
    have lb1:=λK=>vLoad_1 (K:=K) (ob1.ld hb0) (show (#[s,.int .i64 B.next]:Array Value)[1]?=some (.int .i64 B.next)from rfl)
    obtain⟨p,cap,hsv⟩:=ob_len ob1
    by_cases h64:B.l.length=64
    ·rw[if_neg (by simp),if_pos (.inl h64)]at hR
     simp[lb0,hsv,h64]
     exact hR _ hH
    ·have h64':¬(B.l.length:Int)=64:=by omega
     by_cases hnx2:9007199254740992<=B.next
     ·rw[if_neg (by simp),if_pos (.inr hnx2)]at hR
      simp[lb0,hsv,h64',lb1,hnx2]
      exact hR _ hH
     ·rw[if_neg (by simp),if_neg (by omega)]at hR
      simp[lb0,hsv,h64',lb1,hnx2]
      -- the place
      refine (vStore_1 hcc (by show 4<6;omega) rfl).2 ?_
      have ea:o.a.setIfInBounds 4 (.int .i64 B.next)=({o with pl:=B.next}:Ord).a:=rfl
      rw[ea,ins_ins]
      have ob2:=ob.up (sub_ins (.cells ({o with pl:=B.next}:Ord).a 78 (0,0)) hcn)
      have lb1':=λK=>vLoad_1 (K:=K) (ob2.ld hb0) (show (#[s,.int .i64 B.next]:Array Value)[1]?=some (.int .i64 B.next)from rfl)
      rw[lb1',vBin_add,w64 (by omega) (by omega)]
      refine (vStore_1 (ob2.ld hb0) (by show 1<2;omega) rfl).2 ?_
      have eb:(#[s,.int .i64 B.next]:Array Value).setIfInBounds 1 (.int .i64 (B.next+1))=#[s,.int .i64 (B.next+1)]:=rfl
      rw[eb]
      have ob3:=ob2.st hb0 (p:=BkCell s (B.next+1))
      have hc3:(pt b (BkCell s (B.next+1))•C) (ins h0 b (BkCell s (B.next+1))):=pt_put hc
      have hcc3:ins (ins h c (.cells ({o with pl:=B.next}:Ord).a 78 (0,0))) b (BkCell s (B.next+1)) c=some (.cells ({o with pl:=B.next}:Ord).a 78 (0,0)):=by
       rw[ins_ne _ _ hcb];exact ins_eq _ _ _
      show vLoad none _ (ins _ b (BkCell s (B.next+1))) _
      revert ob3 hcc3 hc3
      generalize ins (ins h c (.cells ({o with pl:=B.next}:Ord).a 78 (0,0))) b (BkCell s (B.next+1))=G
      generalize ins h0 b (BkCell s (B.next+1))=G0
      intro ob3 hc3 hcc3
      rw[vLoad_1 (ob3.ld (pt_get hc3)) (show (#[s,.int .i64 (B.next+1)]:Array Value)[0]?=some s from rfl)]
      rw[vLoad_n hcc3 (off:=0) (n:=6) (by show 0+6<=6;omega)]
      rw[show ({o with pl:=B.next}:Ord).a.extract 0 (0+6)=({o with pl:=B.next}:Ord).a from rfl]
      refine⟨_,fill_ord {o with pl:=B.next},λd hd=>?_⟩
      have ob4:=ob3.up (sub_ins (.cells ({o with pl:=B.next}:Ord).a 78) hd)
      refine ob_app (m:=1) (news:=({o with pl:=B.next}:Ord).a.toList) ob4 (by simp only[roomBytes];omega) (by omega) rfl
       (λK' hk'=>.inr (.inr ⟨rfl,d,0,1,1,_,_,_,rfl,ins_eq _ _ _,by show 0+1*6<=6;omega,?_,hk'⟩)) (λb' off l cc hx gg cap hs=>?_) λg5 s5 ob5=>?_
      ·intro v hv
       have:v∈ordsC [{o with pl:=B.next}]:=hv
       exact ordsC_one v this
      ·cases hx
       intro e
       rcases ob4.buf with⟨h1,_⟩ | ⟨g',c',cap',h1,h2,h3,_⟩
       ·rw[h1]at hs;cases hs
       ·rw[h1]at hs;cases hs
        rcases ob3.buf with⟨h1',_⟩ | ⟨g3,c3,cap3,h1',h2',_⟩
        ·rw[h1']at h1;cases h1
        ·rw[h1']at h1;cases h1;rw[<-e,hd]at h2';cases h2'
      ·refine (vStore_1 (ob5.ld (pt_get hc3)) (by show 0<2;omega) (by obtain⟨p,cap,rfl⟩:=ob_len ob5;rfl)).2 ?_
       have eb5:(#[s,.int .i64 (B.next+1)]:Array Value).setIfInBounds 0 s5=#[s5,.int .i64 (B.next+1)]:=rfl
       rw[eb5]
       refine hR _ ?_
       have ob6:=ob5.st (pt_get hc3) (p:=BkCell s5 (B.next+1))
       rw[ordsC_snoc]at ob6
       refine bk_shut (s:=s5) (B:={next:=B.next+1,l:=B.l ++ [{o with pl:=B.next}]}) (pt_put hc3) ?_
       rw[List.length_append]
       exact ob6
  ·rw[if_pos (.inr hpl)]at hR
   simp[l4,hpl]
   exact hR _ hH
theorem bk_orders (H:BkP b B h) (hz:B.l.length<=64) (hR:∀g s,OB 78 6 h B.l.length (ordsC B.l) g s->R (.ret s) g):ACalls Tryz.prog 51 #[ptr b] h R:=by
 refine call51 ?_
 unfold sh51
 obtain⟨s,hb,hs⟩:=bk_get H
 have lb:=λK=>vLoad_1 (K:=K) hb (show (#[s,.int .i64 B.next]:Array Value)[0]?=some s from rfl)
 simp[vBin_pnil Tryz.underlying93,lb]
 refine clone_ok hs hz λg s' ob=>?_
 exact hR _ _ ob
end
end Go.Pw
set_option linter.unusedSimpArgs false
set_option linter.unusedVariables false
namespace Go.Pw
open Go Go.Proofs
theorem ordsC_of {l:List Ord} {c:Array Value} (hsz:l.length*6<=c.size) (H:∀i o,l[i]?=some o->∀j,j<6->c[i*6+j]?=o.cells[j]?):c.toList.take (l.length*6)=ordsC l:=by
 apply List.ext_getElem?
 intro m
 rw[List.getElem?_take]
 by_cases hm:m<l.length*6
 ·rw[if_pos hm]
  have hi:m/6<l.length:=by omega
  have hl:l[m/6]?=some l[m/6]:=List.getElem?_eq_getElem hi
  have e:m/6*6+m%6=m:=by omega
  have h1:=H (m/6) _ hl (m%6) (by omega)
  have h2:=ordsC_get l (m/6) _ hl (m%6) (by omega)
  rw[e]at h1 h2
  rw[Array.getElem?_toList,h1,h2]
 ·rw[if_neg hm,List.getElem?_eq_none (by rw[ordsC_len];omega)]
theorem ordsC_to {l:List Ord} {c:Array Value} (he:c.toList.take (l.length*6)=ordsC l) {i:Nat} {o:Ord} (ho:l[i]?=some o) {j:Nat} (hj:j<6):c[i*6+j]?=o.cells[j]?:=by
 have hi:i<l.length:=(List.getElem?_eq_some_iff.1 ho).1
 rw[<-ordsC_get l i o ho j hj,<-he,List.getElem?_take,if_pos (by omega),Array.getElem?_toList]
section
variable {h h0 g:PH} {R:AEnd->PH->Prop} {b:Nat} {B:Bk} {C:PH->Prop} {l:List Ord} {s:Value}
theorem ob_wr {k:Nat} {o o':Ord} {K:PH->Prop} {off:Nat} {v:Value} (ob:OB 78 6 h0 l.length (ordsC l) h s) (ho:l[k]?=some o) (hoff:off+v.cells.size<=6) (hv:v.cells.toList.all Value.oneCell'=true)
  (hw:∀j,j<6->o'.cells[j]?=if off<=j/\j<off+v.cells.size then v.cells[j-off]? else o.cells[j]?)
  (hK:∀g,OB 78 6 h0 l.length (ordsC (l.set k o')) g s->K g) {q:Nat} (hq:v.cells.size=q) :
  ∃gg cap,s = .slice (some ⟨gg,0,none⟩) l.length cap/\vStore q (.pointer (some ⟨gg,k*6+off,none⟩)) v h K:=by
 have hk:k<l.length:=(List.getElem?_eq_some_iff.1 ho).1
 rcases ob.buf with⟨_,e0,_⟩ | ⟨gg,c,cap,rfl,hg,hg0,hcs,hle,htk⟩
 ·omega
 refine⟨gg,cap,rfl,?_⟩
 have hcl:v.cells.toList.length=v.cells.size:=Array.length_toList
 rw[vStore_p hg hq (by rw[hcs,<-hq];omega) hv]
 refine hK _ ⟨Sub.put ob.sub hg0,by rw[ordsC_len,List.length_set],.inr ⟨gg,_,cap,rfl,ins_eq _ _ _,hg0,by rw[wr_size];exact hcs,hle,?_⟩⟩
 have hlen:(l.set k o').length=l.length:=List.length_set
 rw[<-hlen]
 refine ordsC_of (by rw[wr_size,hcs,hlen];omega) λi p hp j hj=>?_
 have hi:i<l.length:=by rw[<-hlen];exact (List.getElem?_eq_some_iff.1 hp).1
 rw[wr_getElem,hcl]
 by_cases e:i=k
 ·subst e
  rw[List.getElem?_set_self hk]at hp
  cases hp
  rw[hw j hj]
  by_cases hin:off<=j/\j<off+v.cells.size
  ·rw[if_pos ⟨by omega,by omega,by omega⟩,if_pos hin,Array.getElem?_toList]
   congr 1
   omega
  ·rw[if_neg (by omega),if_neg hin]
   exact ordsC_to htk ho hj
 ·rw[List.getElem?_set_ne (λe'=>e e'.symm)]at hp
  rw[if_neg (by omega)]
  exact ordsC_to htk hp hj
theorem ord_st {k:Nat} {o o':Ord} {K:PH->Prop} (ob:OB 78 6 h0 l.length (ordsC l) h s) (ho:l[k]?=some o) (hK:∀g,OB 78 6 h0 l.length (ordsC (l.set k o')) g s->K g) :
  vIxS 6 s (.int .i64 k) λt=>vStore 6 t o'.v h K:=by
 have hk:k<l.length:=(List.getElem?_eq_some_iff.1 ho).1
 obtain⟨gg,cap,rfl,H⟩:=ob_wr (o':=o') (off:=0) (v:=o'.v) (q:=6) ob ho (by show 0+6<=6;omega) (by cases o';rfl) (λj hj=>by
  have e6:o'.v.cells.size=6:=rfl
  rw[e6,if_pos ⟨by omega,by omega⟩]
  show _=o'.a[j-0]?
  rw[Nat.sub_zero,show o'.cells=o'.a.toList from rfl,Array.getElem?_toList]) hK rfl
 rw[vIxS_p]
 refine⟨by omega,by omega,?_⟩
 simpa using H
theorem ord_stA {k:Nat} {o:Ord} {x:Int} {K:PH->Prop} (ob:OB 78 6 h0 l.length (ordsC l) h s) (ho:l[k]?=some o) (hK:∀g,OB 78 6 h0 l.length (ordsC (l.set k {o with am:=x})) g s->K g) :
  vIxS 6 s (.int .i64 k) λt=>vFA 3 t λt=>vStore 1 t (.int .i64 x) h K:=by
 have hk:k<l.length:=(List.getElem?_eq_some_iff.1 ho).1
 obtain⟨gg,cap,rfl,H⟩:=ob_wr (o':={o with am:=x}) (off:=3) (v:=.int .i64 x) (q:=1) ob ho (by show 3+1<=6;omega) (by rfl) (λj hj=>by
  have e6:(Value.int .i64 x).cells=#[.int .i64 x]:=rfl
  rw[e6]
  match j,hj with
  | 0,_=>rfl
  | 1,_=>rfl
  | 2,_=>rfl
  | 3,_=>rfl
  | 4,_=>rfl
  | 5,_=>rfl) hK rfl
 rw[vIxS_p]
 refine⟨by omega,by omega,?_⟩
 rw[vFA_p]
 simpa using H
theorem delete_ok {k:Nat} (ob:OB 78 6 h0 l.length (ordsC l) h s) (hk:k<l.length) (hz:l.length<=64) (hR:∀g s',OB 78 6 h0 (l.eraseIdx k).length (ordsC (l.eraseIdx k)) g s'->R (.ret s') g) :
  ACalls Tryz.prog 156 #[s,.int .i64 k,.int .i64 ((k:Int)+1)] h R:=by
 refine call156 ?_
 unfold sh156
 rcases ob.buf with⟨_,e0,_⟩ | ⟨gg,c,cap,rfl,hg,hg0,hcs,hle,htk⟩
 ·omega
 simp only[vLenS_s]
 refine⟨_,_,_,_,_,_,_,k,rfl,rfl,rfl,by omega,by omega,by omega,.inr ⟨_,_,rfl,by omega,by omega,by omega⟩,?_⟩
 have hne:¬((k:Int)=(k:Int)+1):=by omega
 simp only[vBin_eql,hne,decide_false,dIf_b]
 refine⟨λe=>absurd e (by simp),λ_=>?_⟩
 -- what is ahead,what is behind
 refine⟨_,_,_,rfl,⟨_,_,rfl,by omega,by omega,?_⟩⟩
 have hc0:¬cap=0:=by omega
 simp only[intBetween,hc0,if_false,Nat.zero_mul,Nat.sub_zero,Int.toNat_natCast,Option.map_some,Addr.add,Nat.add_zero]
 refine⟨_,_,_,rfl,⟨_,_,rfl,by omega,by omega,?_⟩⟩
 have ek:((k:Int)+1).toNat=k+1:=by omega
 simp only[ek]
 refine⟨by omega,by omega,rfl,?_⟩
 have hnl:(l.eraseIdx k).length=l.length-1:=List.length_eraseIdx_of_lt hk
 simp only[if_true]
 generalize hx:(if cap=k+1 then (some ⟨gg,0,none⟩:Option Addr)else Option.map (λx:Addr=>x.add ((k+1)*6)) (some (⟨gg,0,none⟩:Addr)))=px
 have hnews:∃off,px=some ⟨gg,off,none⟩/\off+(l.length-(k+1))*6<=c.size/\(c.toList.drop off).take ((l.length-(k+1))*6)=(c.toList.drop ((k+1)*6)).take ((l.length-(k+1))*6):=by
  by_cases e:cap=k+1
  ·rw[if_pos e]at hx
   refine⟨0,hx.symm,by rw[hcs];omega,?_⟩
   have:l.length-(k+1)=0:=by omega
   rw[this];simp
  ·rw[if_neg e]at hx
   refine⟨0+(k+1)*6,hx.symm,by rw[hcs];omega,by rw[Nat.zero_add]⟩
 obtain⟨off,hpx,hoff,hnw⟩:=hnews
 rw[hpx]
 unfold vAppend srcCells
 have hnl2:((c.toList.drop ((k+1)*6)).take ((l.length-(k+1))*6)).length=(l.length-(k+1))*6:=by
  have hcl:c.toList.length=cap*6:=by rw[Array.length_toList,hcs]
  rw[List.length_take,List.length_drop,hcl];omega
 have hcell:∀m,m<l.length*6->c[m]?=(ordsC l)[m]?:=λm hm=>by rw[<-htk,List.getElem?_take,if_pos hm,Array.getElem?_toList]
 refine .inr (.inr ⟨rfl,gg,off,l.length-(k+1),_,c,_,(0,0),rfl,hg,hoff,?_,?_⟩)
 ·intro v hv
  rw[hnw]at hv
  obtain⟨m,hm⟩:=List.mem_iff_getElem?.1 hv
  rw[List.getElem?_take]at hm
  split at hm
  ·rename_i hlt
   rw[List.getElem?_drop,Array.getElem?_toList,hcell _ (by omega)]at hm
   exact ordsC_one v (List.mem_of_getElem? hm)
  ·cases hm
 ·rw[hnw]
  refine .inr (.inr ⟨gg,0,k,cap,c,_,(0,0),rfl,.inl ⟨by omega,hg,by rw[hnl2,hcs];omega,.inl (Nat.zero_le _),?_⟩⟩)
  generalize hN:(c.toList.drop ((k+1)*6)).take ((l.length-(k+1))*6)=N at *
  have e1:k+(l.length-(k+1))=l.length-1:=by omega
  rw[e1]
  simp only[vLenS_s]
  refine⟨_,_,_,rfl,⟨_,_,rfl,by omega,by omega,⟨_,_,rfl,by omega,by omega,?_⟩⟩⟩
  simp only[Int.toNat_natCast,Option.map_some,Addr.add]
  have hcn:¬cap=l.length-1:=by omega
  rw[if_neg hcn]
  have e3:(if (l.length-1)*6=0 then (⟨gg,0,none⟩:Addr)else ⟨gg,0+(l.length-1)*6,none⟩)=⟨gg,0+(l.length-1)*6,none⟩:=by
   split
   ·rename_i e;rw[e]
   ·rfl
  rw[e3]
  have e2:l.length-(l.length-1)=1:=by omega
  rw[e2]
  refine .inr ⟨gg,_,1,_,wr c (0+k*6) N,_,(0,0),rfl,by omega,ins_eq _ _ _,by rw[wr_size,hcs];show 0+(l.length-1)*6+1*6<=_;omega,.inl (Nat.zero_le _),?_,?_⟩
  ·intro v hv
   simp at hv
   rcases hv with rfl | rfl <;> rfl
  ·rw[ins_ins]
   refine hR _ _ ⟨Sub.put ob.sub hg0,ordsC_len _,.inr ⟨gg,_,cap,by rw[hnl],ins_eq _ _ _,hg0,by rw[wr_size,wr_size];exact hcs,by rw[hnl];omega,?_⟩⟩
   refine ordsC_of (by rw[wr_size,wr_size,hcs,hnl];omega) λi p hp j hj=>?_
   have hi:i<l.length-1:=by rw[<-hnl];exact (List.getElem?_eq_some_iff.1 hp).1
   rw[wr_getElem,if_neg (by omega),wr_getElem,hnl2]
   rw[List.getElem?_eraseIdx]at hp
   by_cases hik:i<k
   ·rw[if_pos hik]at hp
    rw[if_neg (by omega)]
    exact ordsC_to htk hp hj
   ·rw[if_neg hik]at hp
    rw[if_pos ⟨by omega,by omega,by omega⟩,<-hN,List.getElem?_take,if_pos (by omega),List.getElem?_drop,Array.getElem?_toList]
    rw[show (k+1)*6+(i*6+j-(0+k*6))=(i+1)*6+j by omega]
    exact ordsC_to htk hp hj
end
end Go.Pw
set_option linter.unusedSimpArgs false
set_option linter.unusedVariables false
namespace Go.Pw
open Go Go.Proofs
def mineO (l:List Ord) (id own:Int):Int×Int:=match idx l id with
 | none=>(0,3)
 | some k=>match l[k]? with
  | some o=>if o.own=own then (k,0)else (0,80)
  | none=>(0,3)
def ord0:Ord:={id:=0,own:=0,pr:=0,am:=0,pl:=0,buys:=false}
def getO (l:List Ord) (id:Int):Ord×Bool:=match idx l id with
 | none=>(ord0,false)
 | some k=>match l[k]? with
  | some o=>(o,true)
  | none=>(ord0,false)
def amendO (B:Bk) (id own price amount:Int):Int×Bk:=match idx B.l id with
 | none=>(3,B)
 | some k=>match B.l[k]? with
  | none=>(3,B)
  | some o=>if o.own≠own then (80,B)else if rightO {o with pr:=price,am:=amount} = false then (1,B)
   else if price=o.pr/\amount<=o.am then (0,{B with l:=B.l.set k {o with pr:=price,am:=amount}})
   else if 9007199254740992<=B.next then (2,B)else (0,{next:=B.next+1,l:=B.l.eraseIdx k ++ [{o with pr:=price,am:=amount,pl:=B.next}]})
def cancelO (B:Bk) (id own:Int):Int×Bk:=match idx B.l id with
 | none=>(3,B)
 | some k=>match B.l[k]? with
  | none=>(3,B)
  | some o=>if o.own≠own then (80,B)else (0,{B with l:=B.l.eraseIdx k})
section
variable {h h0 g:PH} {R:AEnd->PH->Prop} {b:Nat} {B:Bk} {C:PH->Prop} {l:List Ord} {s:Value} {id own:Int}
theorem ord_ixF {k:Nat} {o:Ord} (hs:OrdsAt h s l) (ho:l[k]?=some o) {j:Nat} {v:Value} (hv:o.a[j]?=some v) {K:Value->Prop} (hk:K v):vIxS 6 s (.int .i64 k) λt=>vFA j t λt=>vLoad none t h K:=by
 obtain⟨g,c,cap,rfl,hg,hsz,hex,hf⟩:=ord_ld hs ho
 have hk':k<l.length:=(List.getElem?_eq_some_iff.1 ho).1
 rw[vIxS_p]
 refine⟨by omega,by omega,?_⟩
 rw[vFA_p,vLoad_1 hg (v:=v) (by simpa using hf j v hv)]
 exact hk
theorem ord_ix {k:Nat} {o:Ord} (hs:OrdsAt h s l) (ho:l[k]?=some o) {K:Value->Prop} (hk:K o.v):vIxS 6 s (.int .i64 k) λt=>vLoad (some 6) t h K:=by
 obtain⟨g,c,cap,rfl,hg,hsz,hex,hf⟩:=ord_ld hs ho
 have hk':k<l.length:=(List.getElem?_eq_some_iff.1 ho).1
 rw[vIxS_p]
 refine⟨by omega,by omega,?_⟩
 rw[show 0+(k:Int).toNat*6=k*6 by omega,vLoad_n hg hsz,hex]
 exact hk
theorem bk_mine {nx:Int} (hb:h b=some (BkCell s nx)) (hs:OrdsAt h s l) (hz:l.length<=64) (hR:R (.ret (.tuple #[.int .i64 (mineO l id own).1,.int .i64 (mineO l id own).2])) h) :
  ACalls Tryz.prog 155 #[ptr b,.int .i64 id,.int .i64 own] h R:=by
 refine call155 ?_
 unfold sh155
 simp[vBin_pnil Tryz.underlying93]
 refine at_ok hb hs (by omega) ?_
 simp only[AEnd.elim]
 have lb:=λK=>vLoad_1 (K:=K) hb (show (#[s,.int .i64 nx]:Array Value)[0]?=some s from rfl)
 unfold mineO at hR
 cases hix:idx l id with
 | none=>
  rw[hix]at hR
  rw[idxI_neg hix]
  simp
  exact hR
 | some k=>
  rw[hix]at hR
  rw[idxI_pos hix]
  obtain⟨hk,⟨o,ho,_⟩,_⟩:=idx_some hix
  simp only[ho]at hR
  have hn:¬(k:Int)<0:=by omega
  simp only[vBin_lss,hn,decide_false,dIf_b]
  refine⟨λe=>absurd e (by simp),λ_=>?_⟩
  simp only[vNil_p,vFA_p,Nat.zero_add,lb]
  refine ord_ixF hs ho (j:=1) (v:=.int .i64 o.own) rfl ?_
  by_cases ho2:o.own=own
  ·rw[if_pos ho2]at hR
   simp[ho2]
   exact hR
  ·rw[if_neg ho2]at hR
   simp[ho2]
   exact hR
theorem bk_get_ok (H:BkP b B h) (hz:B.l.length<=64) (hR:R (.ret (.tuple #[(getO B.l id).1.v,.bool (getO B.l id).2])) h):ACalls Tryz.prog 118 #[ptr b,.int .i64 id] h R:=by
 refine ACalls.drop (call118 ?_)
 unfold sh118
 obtain⟨s,hb,hs⟩:=bk_get H
 refine vNew_i λc hcn=>?_
 have hsub:Sub h (ins h c (.cells ord0.a 78 (0,0))):=sub_ins _ hcn
 show (vBin _ _ _ _ _ λt=>dIf t _ _)
 have hcc:ins h c (.cells ord0.a 78 (0,0)) c=some (.cells ord0.a 78 (0,0)):=ins_eq _ _ _
 change vBin _ _ _ _ _ λt8=>dIf t8 (vBuild _ _ _ λt9=>vStore 6 (.pointer (some ⟨c,0,none⟩)) t9 (ins h c (.cells ord0.a 78 (0,0))) _) (vCall _ _ _ (ins h c (.cells ord0.a 78 (0,0))) _ _)
 revert hcc hsub
 generalize ins h c (.cells ord0.a 78 (0,0))=G
 intro hsub hcc
 rw[vBin_pnil Tryz.underlying93]
 simp
 refine at_ok (hsub _ _ hb) (OS.mono _ _ hsub hs) (by omega) ?_
 simp only[AEnd.elim]
 unfold getO at hR
 have lb:=λK=>vLoad_1 (K:=K) (hsub _ _ hb) (show (#[s,.int .i64 B.next]:Array Value)[0]?=some s from rfl)
 have fin:∀(o:Ord) (t:Bool),R (.ret (.tuple #[o.v,.bool t])) h->vStore 6 (.pointer (some ⟨c,0,none⟩)) o.v G λh_4=>vLoad (some 6) (.pointer (some ⟨c,0,none⟩)) h_4 λrv_1=>∃g,Sub g h_4/\R (.ret (.tuple #[rv_1,.bool t])) g:=by
  intro o t hr
  refine vStore_to hcc (by rfl) (by rfl) (by cases o;rfl) ?_
  rw[vLoad_n (ins_eq _ _ _) (off:=0) (n:=6) (by show 0+6<=6;omega)]
  rw[show o.a.extract 0 (0+6)=o.a from rfl]
  refine⟨h,λx p hx=>?_,hr⟩
  rw[ins_ne _ _ (ne_fresh hcn hx)]
  exact hsub _ _ hx
 cases hix:idx B.l id with
 | none=>
  rw[hix]at hR
  rw[idxI_neg hix]
  simp
  refine⟨_,rfl,?_⟩
  exact fin ord0 false hR
 | some k=>
  rw[hix]at hR
  rw[idxI_pos hix]
  obtain⟨hk,⟨o,ho,_⟩,_⟩:=idx_some hix
  simp only[ho]at hR
  have hn:¬(k:Int)<0:=by omega
  simp only[vBin_lss,hn,decide_false,dIf_b]
  refine⟨λe=>absurd e (by simp),λ_=>?_⟩
  simp only[vNil_p,vFA_p,Nat.zero_add,lb]
  refine ord_ix (OS.mono _ _ hsub hs) ho ?_
  exact fin o true hR
theorem bk_cancel (H:(BkP b B•C) h) (hz:B.l.length<=64) (hR:∀g,(BkP b (cancelO B id own).2•C) g->R (.ret (.int .i64 (cancelO B id own).1)) g) :
  ACalls Tryz.prog 120 #[ptr b,.int .i64 id,.int .i64 own] h R:=by
 refine call120 ?_
 unfold sh120
 obtain⟨s,h0,hc,ob⟩:=bk_open H
 have hb0:=pt_get hc
 refine bk_mine (ob.ld hb0) (sep_l OS.mono (ob_os hc ob)) hz ?_
 simp only[AEnd.elim,vExt_20,vExt_21]
 unfold cancelO at hR
 unfold mineO
 cases hix:idx B.l id with
 | none=>
  rw[hix]at hR
  simp
  exact hR _ H
 | some k=>
  rw[hix]at hR
  obtain⟨hk,⟨o,ho,_⟩,_⟩:=idx_some hix
  simp only[ho]at hR ⊢
  by_cases ho2:o.own=own
  ·rw[if_neg (by simp[ho2])]at hR
   have lb:=λK=>vLoad_1 (K:=K) (ob.ld hb0) (show (#[s,.int .i64 B.next]:Array Value)[0]?=some s from rfl)
   simp[ho2,lb]
   rw[w64 (by omega) (by omega)]
   refine delete_ok ob hk hz λg s' ob'=>?_
   simp only[AEnd.elim,vNil_p,vFA_p,Nat.zero_add]
   refine (vStore_1 (ob'.ld hb0) (by show 0<2;omega) (by obtain⟨p,cap,rfl⟩:=ob_len ob';rfl)).2 ?_
   exact hR _ (bk_shut (s:=s') (B:={B with l:=B.l.eraseIdx k}) (pt_put hc) (ob'.st hb0))
  ·rw[if_pos ho2]at hR
   simp[ho2]
   exact hR _ H
theorem bk_new (hR:∀g b,h b=none->Sub h g->(∀(C:PH->Prop),C h->(BkP b {next:=1,l:=[]}•C) g)->R (.ret (ptr b)) g):ACalls Tryz.prog 44 #[] h R:=by
 refine call44 ?_
 unfold sh44
 refine⟨_,rfl,?_⟩
 refine vNew_i λb hb=>?_
 refine hR _ b hb (sub_ins _ hb) λC hC=>?_
 have e:(Value.agg #[.slice none 0 0,.int .i64 1]).cells=#[.slice none 0 0,.int .i64 1]:=rfl
 have:=pt_new (o:=BkCell (.slice none 0 0) 1) hb hC
 exact bk_shut (s:=.slice none 0 0) (B:={next:=1,l:=[]}) this ⟨Sub.refl _,rfl,.inl ⟨rfl,rfl,rfl⟩⟩
end
end Go.Pw
set_option linter.unusedSimpArgs false
set_option linter.unusedVariables false
namespace Go.Pw
open Go Go.Proofs
section
variable {h h0 g:PH} {R:AEnd->PH->Prop} {b:Nat} {B:Bk} {C:PH->Prop} {l:List Ord} {s:Value} {id own:Int} {e:TypeId} {esz n:Nat} {L:List Value}
theorem OB.new {c:Nat} {o:Obj} (ob:OB e esz h0 n L h s) (hc:h c=none):OB e esz (ins h0 c o) n L (ins h c o) s:=
 ⟨ob.sub.both,ob.len,by
  rcases ob.buf with a | ⟨g,c',cap,a1,a2,a3,a4⟩
  ·exact .inl a
  ·have hg:g≠c:=λe=>by rw[e,hc]at a2;cases a2
   exact .inr ⟨g,c',cap,a1,by rw[ins_ne _ _ hg];exact a2,by rw[ins_ne _ _ hg];exact a3,a4⟩⟩
theorem bk_amend {p m:Int} (H:(BkP b B•C) h) (hz:B.l.length<=64) (hnx:1<=B.next/\B.next<=9007199254740992) (hR:∀g,(BkP b (amendO B id own p m).2•C) g->R (.ret (.int .i64 (amendO B id own p m).1)) g) :
  ACalls Tryz.prog 119 #[ptr b,.int .i64 id,.int .i64 own,.int .i64 p,.int .i64 m] h R:=by
 refine call119 ?_
 unfold sh119
 obtain⟨s,h0,hc,ob⟩:=bk_open H
 have hb0:=pt_get hc
 refine bk_mine (ob.ld hb0) (sep_l OS.mono (ob_os hc ob)) hz ?_
 simp only[AEnd.elim,vExt_20,vExt_21]
 unfold amendO at hR
 unfold mineO
 cases hix:idx B.l id with
 | none=>
  rw[hix]at hR
  simp
  exact hR _ H
 | some k=>
  rw[hix]at hR
  obtain⟨hk,⟨o,ho,_⟩,_⟩:=idx_some hix
  simp only[ho]at hR ⊢
  by_cases ho2:o.own=own
  ·rw[if_neg (by simp[ho2])]at hR
   have lb:=λK=>vLoad_1 (K:=K) (ob.ld hb0) (show (#[s,.int .i64 B.next]:Array Value)[0]?=some s from rfl)
   rw[if_pos ho2]
   simp only[vBin_neq,decide_true,Bool.not_true,dIf_b]
   refine⟨λe=>absurd e (by simp),λ_=>?_⟩
   simp only[vNil_p,vFA_p,Nat.zero_add,lb]
   refine ord_ix (sep_l OS.mono (ob_os hc ob)) ho ?_
   refine vNew_i λc hcn=>?_
   refine vStore_to (cs:=o.a) (ins_eq _ _ _) (by rfl) (by rfl) (by cases o;rfl) ?_
   rw[ins_ins]
   have hcc:∀x:Ord,ins h c (.cells x.a 78 (0,0)) c=some (.cells x.a 78 (0,0)):=λx=>ins_eq _ _ _
   have hcb:c≠b:=(ne_fresh hcn (ob.ld hb0)).symm
   have l2:=λK=>vLoad_1 (K:=K) (hcc o) (show o.a[2]?=some (.int .i64 o.pr)from rfl)
   have l3:=λK=>vLoad_1 (K:=K) (hcc o) (show o.a[3]?=some (.int .i64 o.am)from rfl)
   have main:∀t41:Bool,t41=decide (p=o.pr/\m<=o.am)->vStore 1 (.pointer (some ⟨c,2,none⟩)) (.int .i64 p) (ins h c (.cells o.a 78 (0,0))) λh_8=>
     vStore 1 (.pointer (some ⟨c,3,none⟩)) (.int .i64 m) h_8 λh_9=>
     vLoad (some 6) (.pointer (some ⟨c,0,none⟩)) h_9 λt47=>
     vCall Tryz.prog 93 #[t47] h_9 (λt48 h_10=>
     vUn Tryz.prog .not t48 λt49=>
     dIf t49 (R (.ret (.int .i64 1)) h_10)
     (dIf (.bool t41) (vNil (ptr b) λt53=>
     vFA 0 t53 λt54=>
     vLoad none t54 h_10 λt55=>
     vLoad (some 6) (.pointer (some ⟨c,0,none⟩)) h_10 λt57=>
     vIxS 6 t55 (.int .i64 k) λt58=>
     vStore 6 t58 t57 h_10 λh_11=>
     R (.ret (.int .i64 0)) h_11)
     (vNil (ptr b) λt61=>
     vFA 1 t61 λt62=>
     vLoad none t62 h_10 λt63=>
     vBin Tryz.prog .geq 3 t63 (.int .i64 9007199254740992) λt64=>
     dIf t64 (R (.ret (.int .i64 2)) h_10)
     (vNil (ptr b) λt66=>
     vFA 1 t66 λt67=>
     vLoad none t67 h_10 λt68=>
     vFA 4 (.pointer (some ⟨c,0,none⟩)) λt69=>
     vStore 1 t69 t68 h_10 λh_12=>
     vNil (ptr b) λt71=>
     vFA 1 t71 λt72=>
     vLoad none t72 h_12 λt73=>
     vBin Tryz.prog .add 3 t73 (.int .i64 1) λt74=>
     vNil (ptr b) λt75=>
     vFA 1 t75 λt76=>
     vStore 1 t76 t74 h_12 λh_13=>
     vNil (ptr b) λt79=>
     vFA 0 t79 λt80=>
     vLoad none t80 h_13 λt81=>
     vBin Tryz.prog .add 3 (.int .i64 k) (.int .i64 1) λt84=>
     vLoad (some 6) (.pointer (some ⟨c,0,none⟩)) h_13 λt86=>
     ((1*6<=2^24)/\vBuildS 78 6 1 #[.int .i64 0,.int .i64 0,.int .i64 0,.int .i64 0,.int .i64 0,.bool false] [(0,t86)] (λ_=>none) λu_3 h_14=>
     True) /\
     vCall Tryz.prog 156 #[t81,(.int .i64 k),t84] h_13 (λt85 h_15=>
     (vLoad (some 6) (.pointer (some ⟨c,0,none⟩)) h_15 λu_4=>
     t86=u_4) /\
     (1*6<=2^24)/\vBuildS 78 6 1 #[.int .i64 0,.int .i64 0,.int .i64 0,.int .i64 0,.int .i64 0,.bool false] [(0,t86)] h_15 λt87 h_16=>
     (0<6)/\(0<48)/\(Array.size #[(.int .i64 0:Value),(.int .i64 0:Value),(.int .i64 0:Value),(.int .i64 0:Value),(.int .i64 0:Value),(.bool false:Value)]=6)/\vAppend false 78 6 48 t85 t87 h_16 λt88 h_17=>
     vNil (ptr b) λt89=>
     vFA 0 t89 λt90=>
     vStore 1 t90 t88 h_17 λh_18=>
     R (.ret (.int .i64 0)) h_18)
     (λc h=>R (.pan c) h)))))
     (λc h=>R (.pan c) h):=by
    intro t41 ht
    refine (vStore_1 (hcc o) (by show 2<6;omega) rfl).2 ?_
    rw[ins_ins,show o.a.setIfInBounds 2 (.int .i64 p)=({o with pr:=p}:Ord).a from rfl]
    refine (vStore_1 (hcc {o with pr:=p}) (by show 3<6;omega) rfl).2 ?_
    rw[ins_ins,show ({o with pr:=p}:Ord).a.setIfInBounds 3 (.int .i64 m)=({o with pr:=p,am:=m}:Ord).a from rfl]
    generalize hw:({o with pr:=p,am:=m}:Ord)=w at *
    have hw2:({o with pr:=p,am:=m,pl:=B.next}:Ord) = {w with pl:=B.next}:=by rw[<-hw]
    rw[hw2]at hR
    rw[vLoad_n (hcc w) (off:=0) (n:=6) (by show 0+6<=6;omega),show w.a.extract 0 (0+6)=w.a from rfl]
    refine right_ok ?_
    simp only[AEnd.elim,vUn_not,dIf_b]
    have hH1:(BkP b B•C) (ins h c (.cells w.a 78 (0,0))):=sep_sub H (sub_ins _ hcn)
    cases hr:rightO w with
    | false=>
     rw[if_pos hr]at hR
     exact⟨λ_=>hR _ hH1,λe=>absurd e (by simp)⟩
    | true=>
     rw[if_neg (by simp[hr])]at hR
     refine⟨λe=>absurd e (by simp),λ_=>?_⟩
     have ob1:=ob.new (o:=.cells w.a 78 (0,0)) hcn
     have hc1:(pt b (BkCell s B.next)•C) (ins h0 c (.cells w.a 78 (0,0))):=sep_sub hc (sub_ins _ (ob.sub.fresh hcn))
     have hb1:=pt_get hc1
     have lb0:=λK=>vLoad_1 (K:=K) (ob1.ld hb1) (show (#[s,.int .i64 B.next]:Array Value)[0]?=some s from rfl)
     have lb1:=λK=>vLoad_1 (K:=K) (ob1.ld hb1) (show (#[s,.int .i64 B.next]:Array Value)[1]?=some (.int .i64 B.next)from rfl)
     by_cases hkeep:p=o.pr/\m<=o.am
     ·rw[if_pos hkeep]at hR
      have e1:t41=true:=by rw[ht];simp[hkeep]
      rw[e1]
      refine⟨λ_=>?_,λe=>absurd e (by simp)⟩
      simp only[vNil_p,vFA_p,Nat.zero_add,lb0]
      rw[vLoad_n (hcc w) (off:=0) (n:=6) (by show 0+6<=6;omega),show w.a.extract 0 (0+6)=w.a from rfl]
      refine ord_st (o':=w) ob1 ho λg ob2=>?_
      refine hR _ ?_
      have e2:(B.l.set k w).length=B.l.length:=List.length_set
      refine bk_shut (s:=s) (B:={B with l:=B.l.set k w}) hc1 ?_
      rw[e2]
      exact ob2
     ·rw[if_neg hkeep]at hR
      have e1:t41=false:=by rw[ht];simpa using hkeep
      rw[e1]
      refine⟨λe=>absurd e (by simp),λ_=>?_⟩
      simp only[vNil_p,vFA_p,Nat.zero_add,lb1,vBin_geq,dIf_b,decide_eq_true_eq,decide_eq_false_iff_not]
      refine⟨λhfull=>?_,λhnot=>?_⟩
      ·rw[if_pos hfull]at hR
       exact hR _ hH1
      ·rw[if_neg hnot]at hR
       refine (vStore_1 (hcc w) (by show 4<6;omega) rfl).2 ?_
       rw[ins_ins,show w.a.setIfInBounds 4 (.int .i64 B.next)=({w with pl:=B.next}:Ord).a from rfl]
       generalize hw3:({w with pl:=B.next}:Ord)=w2 at *
       have ob2:=ob.new (o:=.cells w2.a 78 (0,0)) hcn
       have hc2:(pt b (BkCell s B.next)•C) (ins h0 c (.cells w2.a 78 (0,0))):=sep_sub hc (sub_ins _ (ob.sub.fresh hcn))
       have hb2:=pt_get hc2
       rw[vLoad_1 (ob2.ld hb2) (show (#[s,.int .i64 B.next]:Array Value)[1]?=some (.int .i64 B.next)from rfl),vBin_add,w64 (by omega) (by omega)]
       refine (vStore_1 (ob2.ld hb2) (by show 1<2;omega) rfl).2 ?_
       rw[show (#[s,.int .i64 B.next]:Array Value).setIfInBounds 1 (.int .i64 (B.next+1))=#[s,.int .i64 (B.next+1)]from rfl]
       have ob3:=ob2.st hb2 (p:=BkCell s (B.next+1))
       have hc3:=pt_put (p:=BkCell s (B.next+1)) hc2
       have hcc3:ins (ins h0 c (.cells w2.a 78 (0,0))) b (BkCell s (B.next+1)) c=some (.cells w2.a 78 (0,0)):=by
        rw[ins_ne _ _ hcb];exact ins_eq _ _ _
       show vLoad none _ (ins _ b (BkCell s (B.next+1))) _
       revert ob3 hcc3 hc3
       generalize ins (ins h c (.cells w2.a 78 (0,0))) b (BkCell s (B.next+1))=G
       generalize ins (ins h0 c (.cells w2.a 78 (0,0))) b (BkCell s (B.next+1))=G0
       intro ob3 hc3 hcc3
       rw[vLoad_1 (ob3.ld (pt_get hc3)) (show (#[s,.int .i64 (B.next+1)]:Array Value)[0]?=some s from rfl)]
       rw[vBin_add,w64 (by omega) (by omega)]
       rw[vLoad_n (ob3.ld hcc3) (off:=0) (n:=6) (by show 0+6<=6;omega),show w2.a.extract 0 (0+6)=w2.a from rfl]
       refine⟨⟨by omega,_,fill_ord w2,λ_ _=>trivial⟩,?_⟩
       refine delete_ok ob3 hk hz λg s' ob4=>?_
       simp only[AEnd.elim]
       rw[vLoad_n (ob4.ld hcc3) (off:=0) (n:=6) (by show 0+6<=6;omega),show w2.a.extract 0 (0+6)=w2.a from rfl]
       refine⟨rfl,by omega,_,fill_ord w2,λd hd=>⟨by omega,by omega,rfl,?_⟩⟩
       have ob5:=ob4.up (sub_ins (.cells w2.a 78) hd)
       have hnl:(B.l.eraseIdx k).length=B.l.length-1:=List.length_eraseIdx_of_lt hk
       refine ob_app (m:=1) (news:=w2.a.toList) ob5 (by simp only[roomBytes];omega) (by omega) rfl
        (λK' hk'=>.inr (.inr ⟨rfl,d,0,1,1,_,_,_,rfl,ins_eq _ _ _,by show 0+1*6<=6;omega,?_,hk'⟩)) (λb' off l cc hx gg cap hs=>?_) λg5 s5 ob6=>?_
       ·intro v hv
        have:v∈ordsC [w2]:=hv
        exact ordsC_one v this
       ·cases hx
        intro e
        rcases ob4.buf with⟨h1',_⟩ | ⟨g3,c3,cap3,h1',h2',_⟩
        ·rw[h1']at hs;cases hs
        ·rw[h1']at hs;cases hs;rw[<-e,hd]at h2';cases h2'
       ·try simp only[vNil_p,vFA_p,Nat.zero_add]
        refine (vStore_1 (ob6.ld (pt_get hc3)) (by show 0<2;omega) (by obtain⟨p,cap,rfl⟩:=ob_len ob6;rfl)).2 ?_
        rw[show (#[s,.int .i64 (B.next+1)]:Array Value).setIfInBounds 0 s5=#[s5,.int .i64 (B.next+1)]from rfl]
        refine hR _ ?_
        have ob7:=ob6.st (pt_get hc3) (p:=BkCell s5 (B.next+1))
        rw[ordsC_snoc]at ob7
        refine bk_shut (s:=s5) (B:={next:=B.next+1,l:=B.l.eraseIdx k ++ [w2]}) (pt_put hc3) ?_
        rw[List.length_append]
        exact ob7
   by_cases hp:p=o.pr
   ·by_cases hm:m<=o.am
    ·have:=main true (by simp[hp,hm])
     rw[hp]at this ⊢
     simp[l2,l3,hm]
     simpa using this
    ·have:=main false (by simp[hp,hm])
     rw[hp]at this ⊢
     simp[l2,l3,hm]
     simpa using this
   ·simp[l2,hp]
    have:=main false (by simp[hp])
    simpa using this
  ·rw[if_pos ho2]at hR
   simp[ho2]
   exact hR _ H
end
end Go.Pw
set_option linter.unusedSimpArgs false
set_option linter.unusedVariables false
namespace Go.Pw
open Go Go.Proofs
def SaysO (f:Nat) (p:Ord->Bool):Prop:=∀(o:Ord) (g:PH) (R:AEnd->PH->Prop),R (.ret (.bool (p o))) g->ACalls Tryz.prog f #[o.v] g R
section
variable {h h0 g:PH} {R:AEnd->PH->Prop} {b:Nat} {B:Bk} {C:PH->Prop} {l:List Ord} {s:Value} {p:Ord->Bool} {f:Nat}
theorem indexP_ok (hs:OrdsAt h s l) (hz:l.length<1000000) (hp:SaysO f p) (hN:(∀(j:Nat) (o:Ord),l[j]?=some o->p o=false)->R (.ret (.int .i64 (-1))) h)
  (hY:∀(i:Nat) (o:Ord),l[i]?=some o->p o=true->(∀j,j<i->∀o,l[j]?=some o->p o=false)->R (.ret (.int .i64 i)) h) :
  ACalls Tryz.prog 142 #[s,.func (.func f) #[] #[]] h R:=by
 refine call142 ?_
 unfold sh142
 obtain⟨pp,cap,hse⟩:=OS.lens hs
 rw[hse]
 simp only[vLenS_s]
 refine lf_intro (λm s' g'=>∃i:Nat,s'=(.int .i64 0,.int .i64 i)/\m=l.length-i/\i<=l.length/\g'=h/\∀j,j<i->∀o,l[j]?=some o->p o=false) l.length ⟨0,rfl,rfl,by omega,rfl,λj hj=>absurd hj (by omega)⟩ ?_
 rintro m s' g' ⟨i,rfl,rfl,hi,rfl,hnot⟩
 by_cases hin:i<l.length
 ·obtain⟨o,ho⟩:∃o,l[i]?=some o:=⟨_,List.getElem?_eq_getElem hin⟩
  have key:∀(kn:(Value×Value×Value)->(Value×Value)->PH->Prop) Kp x0 xr,(p o=true->xr (.int .i64 i) g')->(p o=false->kn (.slice pp l.length cap,.func (.func f) #[] #[],.int .i64 l.length) (.int .i64 0,.int .i64 ((i:Int)+1)) g') ->
    b142_2 Kp x0 xr (.slice pp l.length cap,.func (.func f) #[] #[],.int .i64 l.length) kn (.int .i64 0,.int .i64 i) g':=by
   intro kn Kp x0 xr hT hF
   unfold b142_2
   have hlt:(i:Int)<(l.length:Int):=by omega
   simp only[vBin_lss,hlt,decide_true,dIf_b]
   refine⟨λ_=>?_,λe=>absurd e (by simp)⟩
   rw[hse]at hs
   refine ord_ix hs ho ?_
   refine⟨_,_,_,rfl,?_⟩
   refine hp o _ _ ?_
   simp only[AEnd.elim,dIf_b]
   refine⟨hT,λhne=>?_⟩
   simp only[vBin_add]
   rw[w64 (by omega) (by omega)]
   exact hF hne
  refine key _ _ _ _ (λhe=>?_) (λhne=>⟨rfl,l.length-(i+1),by omega,i+1,rfl,rfl,by omega,rfl,λj hj o' ho'=>?_⟩)
  ·intro r hr
   rw[show r 4=_ from hr]
   exact hY i o ho he hnot
  ·by_cases e:j=i
   ·subst e;rw[ho]at ho';cases ho';exact hne
   ·exact hnot j (by omega) o' ho'
 ·have e:i=l.length:=by omega
  subst e
  unfold b142_2
  simp
  intro r hr
  exact hN λj o ho=>hnot j (List.getElem?_eq_some_iff.1 ho).1 o ho
theorem filter_none {l:List Ord} (H:∀(j:Nat) (o:Ord),l[j]?=some o->p o=false):l.filter (λo=>!p o)=l:=by
 rw[List.filter_eq_self]
 intro o ho
 obtain⟨j,hj⟩:=List.mem_iff_getElem?.1 ho
 rw[H j o hj];rfl
theorem deleteFunc_ok (ob:OB 78 6 h0 l.length (ordsC l) h s) (hz:l.length<=64) (hp:SaysO f p)
  (hR:∀g s',OB 78 6 h0 (l.filter λo=>!p o).length (ordsC (l.filter λo=>!p o)) g s'->R (.ret s') g) :
  ACalls Tryz.prog 172 #[s,.func (.func f) #[] #[]] h R:=by
 refine call172 ?_
 unfold sh172
 have hos:OrdsAt h s l:=sep_l OS.mono (ob_os (C:=emp) trivial ob)
 refine indexP_ok hos (by omega) hp (λhno=>?_) (λi o ho hpo hnot=>?_)
 ·simp[AEnd.elim]
  rw[filter_none hno]at hR
  exact hR _ _ ob
 have hi:i<l.length:=(List.getElem?_eq_some_iff.1 ho).1
 have hi1:¬(i:Int) = -1:=by omega
 simp[AEnd.elim,hi1]
 rw[w64 (by omega) (by omega)]
 obtain⟨gg,c,cap,hse,_⟩:=ob_get ob (by omega)
 -- the round
 have hk0:(l.take (i+1)).filter (λo=>!p o)=l.take i:=by
  rw[List.take_add_one,List.filter_append,ho]
  have:(l.take i).filter (λo=>!p o)=l.take i:=filter_none (p:=p) λj o' ho'=>by
   rw[List.getElem?_take]at ho'
   split at ho'
   ·rename_i hj;exact hnot j hj o' ho'
   ·cases ho'
  rw[this]
  simp[hpo]
 refine lf_intro (λq s' g=>∃(j:Nat) (m:List Ord),s'=(.int .i64 ((l.take j).filter λo=>!p o).length,.int .i64 j)/\q=l.length-j/\i<j/\j<=l.length/\m.length=l.length/\m.take ((l.take j).filter λo=>!p o).length=(l.take j).filter (λo=>!p o) /\
   (∀t,j<=t->m[t]?=l[t]?)/\((l.take j).filter λo=>!p o).length<j/\OB 78 6 h0 l.length (ordsC m) g s) (l.length-(i+1))
  ⟨i+1,l,by rw[hk0];simp;omega,rfl,by omega,by omega,rfl,by rw[hk0];simp,λ_ _=>rfl,by rw[hk0];simp;omega,ob⟩ ?_
 rintro q s' g ⟨j,m,rfl,rfl,hij,hj,hml,htk,hdr,hlt0,obm⟩
 have hlenF:((l.take j).filter λo=>!p o).length<=64:=by
  have:=List.length_filter_le (λo=>!p o) (l.take j)
  rw[List.length_take]at this
  omega
 generalize hF:(l.take j).filter (λo=>!p o)=F at *
 by_cases hjn:j<l.length
 ·obtain⟨o',ho'⟩:∃o',l[j]?=some o':=⟨_,List.getElem?_eq_getElem hjn⟩
  have hmo:m[j]?=some o':=by rw[hdr j (Nat.le_refl _),ho']
  have hF':(l.take (j+1)).filter (λo=>!p o)=F++(if p o' then []else [o']):=by
   rw[List.take_add_one,List.filter_append,hF,ho']
   cases hpo':p o' <;> simp[hpo']
  have key:∀(kn:(Value×Value)->(Value×Value)->PH->Prop) Kp x0,(p o'=true->∀g2,OB 78 6 h0 l.length (ordsC m) g2 s->kn (s,.func (.func f) #[] #[]) (.int .i64 F.length,.int .i64 ((j:Int)+1)) g2) ->
    (p o'=false->∀g2,OB 78 6 h0 l.length (ordsC (m.set F.length o')) g2 s->kn (s,.func (.func f) #[] #[]) (.int .i64 ((F.length:Int)+1),.int .i64 ((j:Int)+1)) g2) ->
    b172_5 Kp x0 (s,.func (.func f) #[] #[]) kn (.int .i64 F.length,.int .i64 j) g:=by
   intro kn Kp x0 hT hN
   unfold b172_5
   rw[hse]at obm ⊢
   have hlt:(j:Int)<(l.length:Int):=by omega
   simp only[vLenS_s,vBin_lss,hlt,decide_true,dIf_b]
   refine⟨λ_=>?_,λe=>absurd e (by simp)⟩
   have hosm:OrdsAt g (.slice (some ⟨gg,0,none⟩) l.length cap) m:=by
    have:=sep_l OS.mono (ob_os (C:=emp) trivial obm)
    unfold OrdsAt
    rw[hml]
    exact this
   refine ord_ix hosm hmo ?_
   refine vNew_i λd hd=>?_
   refine vStore_to (cs:=o'.a) (ins_eq _ _ _) (by rfl) (by rfl) (by cases o';rfl) ?_
   rw[ins_ins]
   have obd:=obm.up (sub_ins (.cells o'.a 78 (0,0)) hd)
   have hdd:ins g d (.cells o'.a 78 (0,0)) d=some (.cells o'.a 78 (0,0)):=ins_eq _ _ _
   revert obd hdd
   generalize ins g d (.cells o'.a 78 (0,0))=G
   intro obd hdd
   have ld:∀K,vLoad (some 6) (.pointer (some ⟨d,0,none⟩)) G K↔K o'.v:=λK=>by
    rw[vLoad_n hdd (off:=0) (n:=6) (by show 0+6<=6;omega),show o'.a.extract 0 (0+6)=o'.a from rfl]
   rw[ld]
   refine⟨_,_,_,rfl,?_⟩
   refine hp o' _ _ ?_
   have hww:IntKind.i64.wrap ((j:Int)+1)=(j:Int)+1:=w64 (by omega) (by omega)
   simp only[AEnd.elim,vUn_not,dIf_b]
   cases hpo':p o' with
   | true=>
    refine⟨λe=>absurd e (by simp),λ_=>?_⟩
    simp only[vBin_add,hww]
    rw[<-hse]at obd ⊢
    exact hT hpo' _ obd
   | false=>
    refine⟨λ_=>?_,λe=>absurd e (by simp)⟩
    rw[ld]
    obtain⟨x,hx⟩:∃x,m[F.length]?=some x:=⟨_,List.getElem?_eq_getElem (by omega)⟩
    rw[<-hml]at obd
    rw[<-hml]
    refine ord_st (o':=o') obd hx λg2 ob2=>?_
    simp only[vBin_add,hww]
    rw[w64 (by omega) (by omega)]
    rw[hml]at ob2 ⊢
    rw[<-hse]at ob2 ⊢
    exact hN hpo' _ ob2
  refine key _ _ _ (λhpo' g2 ob2=>?_) (λhpo' g2 ob2=>?_)
  ·rw[hpo',if_pos rfl,List.append_nil]at hF'
   exact⟨rfl,l.length-(j+1),by omega,j+1,m,by rw[hF'];simp,rfl,by omega,by omega,hml,by rw[hF'];exact htk,λt ht=>hdr t (by omega),by rw[hF'];omega,ob2⟩
  ·rw[hpo']at hF'
   simp only[Bool.false_eq_true,if_false]at hF'
   refine⟨rfl,l.length-(j+1),by omega,j+1,m.set F.length o',by rw[hF'];simp,rfl,by omega,by omega,by rw[List.length_set];exact hml,?_,λt ht=>?_,by rw[hF'];simp;omega,ob2⟩
   ·rw[hF',List.length_append,List.length_singleton,List.take_add_one,List.take_set_of_le (Nat.le_refl _),htk,List.getElem?_set_self (by omega)]
    rfl
   ·rw[List.getElem?_set_ne (by omega)]
    exact hdr t (by omega)
 ·have e:j=l.length:=by omega
  subst e
  unfold b172_5
  rw[hse]
  simp
  intro r hr
  simp only[Prod.mk.injEq]at hr
  obtain⟨r0,r5⟩:=hr
  rw[r0,r5]
  rw[List.take_length]at hF
  rw[hF]at hR
  rcases obm.buf with⟨e1,_⟩ | ⟨g3,c3,cap3,e1,hg3,hg30,hcs3,hle3,htk3⟩
  ·rw[hse]at e1;cases e1
  ·rw[hse]at e1;cases e1
   have hcap:¬cap=F.length:=by omega
   refine⟨_,_,_,rfl,⟨_,_,rfl,by omega,by omega,?_⟩⟩
   simp only[Int.toNat_natCast,Option.map_some,Addr.add,hcap,if_false]
   have e3:(if F.length*6=0 then (⟨gg,0,none⟩:Addr)else ⟨gg,0+F.length*6,none⟩)=⟨gg,0+F.length*6,none⟩:=by
    split
    ·rename_i e;rw[e]
    ·rfl
   rw[e3]
   refine .inr ⟨gg,_,l.length-F.length,_,c3,_,(0,0),rfl,by omega,hg3,by rw[hcs3];show 0+F.length*6+(l.length-F.length)*6<=_;omega,.inl (Nat.zero_le _),?_,?_⟩
   ·intro v hv
    simp at hv
    rcases hv with rfl | rfl <;> rfl
   ·refine⟨_,_,_,rfl,⟨_,_,rfl,by omega,by omega,?_⟩⟩
    have hc0:¬cap=0:=by omega
    simp only[intBetween,hc0,if_false,Nat.zero_mul,Nat.sub_zero,Int.toNat_natCast,Option.map_some,Addr.add,Nat.add_zero,if_true]
    refine hR _ _ ⟨Sub.put obm.sub hg30,ordsC_len _,.inr ⟨gg,_,cap,rfl,ins_eq _ _ _,hg30,by rw[wr_size];exact hcs3,by omega,?_⟩⟩
    refine ordsC_of (by rw[wr_size,hcs3];omega) λt o2 ho2 t2 ht2=>?_
    have ht:t<F.length:=(List.getElem?_eq_some_iff.1 ho2).1
    rw[wr_getElem,if_neg (by omega)]
    have hmt:m[t]?=some o2:=by
     rw[<-ho2,<-htk,List.getElem?_take,if_pos ht]
    rw[<-hml]at htk3
    exact ordsC_to htk3 hmt ht2
theorem notRight_ok:SaysO 190 (λo=>!rightO o):=λo g R hR=>by
 refine ACalls.drop (call190 ?_)
 unfold sh190
 refine vNew_gen λc G hc hs hcc=>?_
 rw[vLoad_n hcc (off:=0) (n:=6) (by show 0+6<=6;omega),show (Value.cells o.v).extract 0 (0+6)=o.a from rfl]
 refine right_ok ?_
 simp only[AEnd.elim,vUn_not]
 exact⟨g,hs,hR⟩
theorem isVoid_ok:SaysO 173 (λo=>decide (o.am=0)):=λo g R hR=>by
 refine ACalls.drop (call173 ?_)
 unfold sh173
 refine vNew_gen λc G hc hs hcc=>?_
 have l3:=λK=>vLoad_1 (K:=K) hcc (show o.a[3]?=some (.int .i64 o.am)from rfl)
 simp[l3]
 exact⟨g,hs,hR⟩
def rightsO (l:List Ord):List Ord:=l.filter rightO
theorem rights_ok (hs:OrdsAt h s l) (hz:l.length<=64) (hR:∀g s',OB 78 6 h (rightsO l).length (ordsC (rightsO l)) g s'->R (.ret s') g):ACalls Tryz.prog 184 #[s] h R:=by
 refine call184 ?_
 unfold sh184
 obtain⟨pp,cap,hse⟩:=OS.lens hs
 have h64:¬(64:Int)<(l.length:Int):=by omega
 rw[hse]
 simp[h64]
 rw[<-hse]
 refine clone_ok hs hz λg s' ob=>?_
 simp only[AEnd.elim]
 refine deleteFunc_ok ob hz notRight_ok λg2 s2 ob2=>?_
 simp only[AEnd.elim]
 have e:(l.filter λo=>!(!rightO o))=rightsO l:=by unfold rightsO;congr 1;funext o;simp
 rw[e]at ob2
 exact hR _ _ ob2
end
end Go.Pw
set_option linter.unusedSimpArgs false
set_option linter.unusedVariables false
namespace Go.Pw
open Go Go.Proofs
def cmpI (a b:Int):Int:=if a<b then -1 else if b<a then 1 else 0
def aheadO (x y:Ord):Int:=if (if x.buys then-cmpI x.pr y.pr else cmpI x.pr y.pr)≠0 then (if x.buys then-cmpI x.pr y.pr else cmpI x.pr y.pr)else cmpI x.pl y.pl
theorem cmpI_cases (a b:Int):cmpI a b = -1\/cmpI a b=0\/cmpI a b=1:=by unfold cmpI;split <;> (try split) <;> simp
section
variable {h h0 g:PH} {R:AEnd->PH->Prop} {l:List Ord} {s:Value}
theorem nan_ok {a:Int} (hR:R (.ret (.bool false)) h):ACalls Tryz.prog 196 #[.int .i64 a] h R:=by
 refine call196 ?_
 unfold sh196
 simp[hR]
theorem compare_ok {a b:Int} (hR:R (.ret (.int .i64 (cmpI a b))) h):ACalls Tryz.prog 192 #[.int .i64 a,.int .i64 b] h R:=by
 refine call192 ?_
 unfold sh192
 refine nan_ok ?_
 simp only[AEnd.elim]
 refine nan_ok ?_
 unfold cmpI at hR
 simp only[AEnd.elim]
 by_cases h1:a<b
 ·rw[if_pos h1]at hR
  simp[h1,hR]
 ·rw[if_neg h1]at hR
  by_cases h2:b<a
  ·rw[if_pos h2]at hR
   simp[h1,h2,hR]
  ·rw[if_neg h2]at hR
   simp[h1,h2,hR]
theorem or_ok {q:Nat} {a b:Int} (hq:h q=some (.cells #[.int .i64 a,.int .i64 b] 3 (0,0))) (hR:R (.ret (.int .i64 (if a≠0 then a else b))) h):ACalls Tryz.prog 193 #[.slice (some ⟨q,0,none⟩) 2 2] h R:=by
 refine call193 ?_
 unfold sh193
 simp only[vLenS_s]
 have l0:=λK=>vLoad_1 (K:=K) hq (show (#[.int .i64 a,.int .i64 b]:Array Value)[0]?=some (.int .i64 a)from rfl)
 have l1:=λK=>vLoad_1 (K:=K) hq (show (#[.int .i64 a,.int .i64 b]:Array Value)[1]?=some (.int .i64 b)from rfl)
 refine lf_unroll 3 (lfn_step λkn hkn=>?_)
 unfold b193_3
 by_cases ha:a=0
 ·rw[if_neg (by simp[ha])]at hR
  simp[l0,ha]
  refine hkn _ _ (lfn_step λkn2 hkn2=>?_)
  unfold b193_3
  rw[w64 (by omega) (by omega)]
  by_cases hb:b=0
  ·rw[hb]at hR
   simp[l1,hb]
   refine hkn2 _ _ (lfn_step λkn3 hkn3=>?_)
   unfold b193_3
   rw[w64 (by omega) (by omega)]
   simp
   intro r hr
   simp only[Prod.mk.injEq]at hr
   rw[hr.2]
   exact hR
  ·simp[l1,hb]
   intro r hr
   simp only[Prod.mk.injEq]at hr
   rw[hr.1]
   exact hR
 ·rw[if_pos ha]at hR
  simp[l0,ha]
  intro r hr
  simp only[Prod.mk.injEq]at hr
  rw[hr.1]
  exact hR
theorem ahead_ok {x y:Ord} (hR:R (.ret (.int .i64 (aheadO x y))) h):ACalls Tryz.prog 186 #[x.v,y.v] h R:=by
 refine ACalls.drop (call186 ?_)
 unfold sh186
 refine vNew_gen λc G hc hs hcc=>?_
 refine vNew_gen λd G2 hd hs2 hdd=>?_
 have hcc2:=hs2 _ _ hcc
 have x2:=λK=>vLoad_1 (K:=K) hcc2 (show x.a[2]?=some (.int .i64 x.pr)from rfl)
 have x4:=λK=>vLoad_1 (K:=K) hcc2 (show x.a[4]?=some (.int .i64 x.pl)from rfl)
 have x5:=λK=>vLoad_1 (K:=K) hcc2 (show x.a[5]?=some (.bool x.buys)from rfl)
 have y2:=λK=>vLoad_1 (K:=K) hdd (show y.a[2]?=some (.int .i64 y.pr)from rfl)
 have y4:=λK=>vLoad_1 (K:=K) hdd (show y.a[4]?=some (.int .i64 y.pl)from rfl)
 simp[x2,y2]
 refine compare_ok ?_
 simp only[AEnd.elim]
 unfold aheadO at hR
 have hcm:=cmpI_cases x.pr y.pr
 cases hb:x.buys with
 | true=>
  rw[hb]at hR
  simp only[if_true]at hR
  simp[x5,hb,x4,y4]
  rw[w64 (by omega) (by omega)]
  refine compare_ok ?_
  simp only[AEnd.elim]
  refine⟨_,fill_2i _ _ rfl rfl,λq hq=>?_⟩
  refine or_ok (ins_eq _ _ _) ?_
  exact⟨h,(hs.trans hs2).trans (sub_ins _ hq),hR⟩
 | false=>
  rw[hb]at hR
  simp only[Bool.false_eq_true,if_false]at hR
  simp[x5,hb,x4,y4]
  refine compare_ok ?_
  simp only[AEnd.elim]
  refine⟨_,fill_2i _ _ rfl rfl,λq hq=>?_⟩
  refine or_ok (ins_eq _ _ _) ?_
  exact⟨h,(hs.trans hs2).trans (sub_ins _ hq),hR⟩
end
def fBuy (at_:Int) (o:Ord):Int:=if o.buys=true/\at_<=o.pr then o.am else 0
def fSell (at_:Int) (o:Ord):Int:=if o.buys=false/\o.pr<=at_ then o.am else 0
def sumO (f:Ord->Int):List Ord->Int
 | []=>0
 | o::l=>f o+sumO f l
theorem sumO_app (f:Ord->Int):∀(l m:List Ord),sumO f (l++m)=sumO f l+sumO f m
 | [],m=>by simp[sumO]
 | o::l,m=>by simp only[List.cons_append,sumO,sumO_app f l m];omega
theorem sumO_take (f:Ord->Int) {l:List Ord} {i:Nat} {o:Ord} (ho:l[i]?=some o):sumO f (l.take (i+1))=sumO f (l.take i)+f o:=by
 rw[List.take_add_one,ho,sumO_app];simp[sumO]
theorem sumO_bd {f:Ord->Int} {M:Int} (hM:0<=M):∀(l:List Ord),(∀o∈l,0<=f o/\f o<=M)->0<=sumO f l/\sumO f l<=l.length*M
 | [],_=>by simp[sumO]
 | o::l,H=>by
  have h1:=sumO_bd hM l λo ho=>H o (by simp[ho])
  have h2:=H o (by simp)
  simp only[sumO,List.length_cons]
  have:((l.length+1:Nat):Int)*M=l.length*M+M:=by rw[Int.natCast_add,Int.add_mul];simp
  omega
def crossStep (r:List Ord) (pa:Int×Int) (o:Ord):Int×Int:=
 let n:=min (sumO (fBuy o.pr) r) (sumO (fSell o.pr) r)
 if pa.2<n\/(n=pa.2/\0<n/\o.pr<pa.1)then (o.pr,n)else pa
def crossO (r:List Ord):Int×Int:=r.foldl (crossStep r) (0,0)
theorem rightO_iff {o:Ord}:rightO o=true↔(0<=o.id/\o.id<=9007199254740992/\0<=o.own/\o.own<16/\0<=o.pr/\o.pr<=1099511627776/\1<=o.am/\o.am<=1048576):=by unfold rightO;simp
theorem rightsO_right {l:List Ord}:∀o∈rightsO l,rightO o=true:=λo ho=>(List.mem_filter.1 ho).2
section
variable {h h0 g:PH} {R:AEnd->PH->Prop} {l:List Ord} {s:Value}
theorem ord_copy {K:Value->PH->Prop} {k:Nat} {o:Ord} (hs:OrdsAt h s l) (ho:l[k]?=some o) (hk:∀c,h c=none->K (ptr c) (ins h c (.cells o.a 78 (0,0)))) :
  vIxS 6 s (.int .i64 k) λt=>vLoad (some 6) t h λv=>vNew #[.int .i64 0,.int .i64 0,.int .i64 0,.int .i64 0,.int .i64 0,.bool false] 78 h λp h1=>vStore 6 p v h1 λh2=>K p h2:=by
 refine ord_ix hs ho ?_
 refine vNew_i λc hc=>?_
 refine vStore_to (cs:=o.a) (ins_eq _ _ _) (by rfl) (by rfl) (by cases o;rfl) ?_
 rw[ins_ins]
 exact hk c hc
theorem cross_ok (hs:OrdsAt h s l) (hz:l.length<=64) (hR:R (.ret (.tuple #[.int .i64 (crossO (rightsO l)).1,.int .i64 (crossO (rightsO l)).2])) h):ACalls Tryz.prog 170 #[s] h R:=by
 refine ACalls.drop (call170 ?_)
 unfold sh170
 refine rights_ok hs hz λh1 s1 ob=>?_
 have hlen:(rightsO l).length<=64:=Nat.le_trans (List.length_filter_le _ _) hz
 have hright:=λo ho=>rightO_iff.1 (rightsO_right (l:=l) o ho)
 generalize rightsO l=r at *
 obtain⟨pp,cap,rfl⟩:=ob_len ob
 simp only[AEnd.elim,vLenS_s]
 have hos:OrdsAt h1 (.slice pp r.length cap) r:=sep_l OS.mono (ob_os (C:=emp) trivial ob)
 refine lf_intro (λq s' g=>∃i:Nat,s'=(.int .i64 ((r.take i).foldl (crossStep r) (0,0)).1,.int .i64 ((r.take i).foldl (crossStep r) (0,0)).2,.int .i64 i)/\q=r.length-i/\i<=r.length/\Sub h1 g) r.length ⟨0,rfl,rfl,by omega,Sub.refl h1⟩ ?_
 rintro q s' g ⟨i,rfl,rfl,hi,hsg⟩
 by_cases hin:i<r.length
 ·obtain⟨o,ho⟩:∃o,r[i]?=some o:=⟨_,List.getElem?_eq_getElem hin⟩
  have hstep:(r.take (i+1)).foldl (crossStep r) (0,0)=crossStep r ((r.take i).foldl (crossStep r) (0,0)) o:=by
   rw[List.take_add_one,ho,List.foldl_append];rfl
  generalize hpa:(r.take i).foldl (crossStep r) (0,0)=pa at *
  have key:∀(kn:(Value×Value×Value)->(Value×Value×Value)->PH->Prop) Kp x0,(∀g2,Sub h1 g2->kn (.slice pp r.length cap,.slice pp r.length cap,.int .i64 r.length) (.int .i64 (crossStep r pa o).1,.int .i64 (crossStep r pa o).2,.int .i64 ((i:Int)+1)) g2) ->
    b170_3 Kp x0 (.slice pp r.length cap,.slice pp r.length cap,.int .i64 r.length) kn (.int .i64 pa.1,.int .i64 pa.2,.int .i64 i) g:=by
   intro kn Kp x0 hkn
   unfold b170_3
   have hlt:(i:Int)<(r.length:Int):=by omega
   simp only[vBin_lss,hlt,decide_true,dIf_b]
   refine⟨λ_=>?_,λe=>absurd e (by simp)⟩
   refine ord_copy (OS.mono _ _ hsg hos) ho λc hc=>?_
   simp only[vLenS_s]
   have hsc:Sub h1 (ins g c (.cells o.a 78 (0,0))):=hsg.trans (sub_ins _ hc)
   have hcc:ins g c (.cells o.a 78 (0,0)) c=some (.cells o.a 78 (0,0)):=ins_eq _ _ _
   revert hsc hcc
   generalize ins g c (.cells o.a 78 (0,0))=G
   intro hsc hcc
   have hww:IntKind.i64.wrap ((i:Int)+1)=(i:Int)+1:=w64 (by omega) (by omega)
   have bB:∀j,0<=sumO (fBuy o.pr) (r.take j)/\sumO (fBuy o.pr) (r.take j)<=67108864:=λj=>by
    have h1:=sumO_bd (f:=fBuy o.pr) (M:=1048576) (by omega) (r.take j) λx hx=>by
     have:=hright x (List.mem_of_mem_take hx)
     unfold fBuy;split <;> omega
    have h2:(r.take j).length<=64:=by rw[List.length_take];omega
    omega
   have bS:∀j,0<=sumO (fSell o.pr) (r.take j)/\sumO (fSell o.pr) (r.take j)<=67108864:=λj=>by
    have h1:=sumO_bd (f:=fSell o.pr) (M:=1048576) (by omega) (r.take j) λx hx=>by
     have:=hright x (List.mem_of_mem_take hx)
     unfold fSell;split <;> omega
    have h2:(r.take j).length<=64:=by rw[List.length_take];omega
    omega
   refine lf_intro (λq s' g=>∃j:Nat,s'=(.int .i64 (sumO (fBuy o.pr) (r.take j)),.int .i64 (sumO (fSell o.pr) (r.take j)),.int .i64 j)/\q=r.length-j/\j<=r.length/\Sub G g) r.length ⟨0,rfl,rfl,by omega,Sub.refl G⟩ ?_
   rintro q s' g ⟨j,rfl,rfl,hj,hsg⟩
   by_cases hjn:j<r.length
   ·obtain⟨x,hx⟩:∃x,r[j]?=some x:=⟨_,List.getElem?_eq_getElem hjn⟩
    have key3:∀(F:Value×Value×Value×Value×Value×Value×Value×Value×Value) (kn:(Value×Value×Value×Value×Value×Value×Value×Value×Value)->(Value×Value×Value)->PH->Prop) Kp x2,F.2.2.2.1=ptr c->F.2.2.2.2.2.2.2.1 = .slice pp r.length cap->F.2.2.2.2.2.2.2.2 = .int .i64 r.length ->
      (∀g2,Sub G g2->kn F (.int .i64 (sumO (fBuy o.pr) (r.take (j+1))),.int .i64 (sumO (fSell o.pr) (r.take (j+1))),.int .i64 ((j:Int)+1)) g2) ->
      b170_7 Kp x2 F kn (.int .i64 (sumO (fBuy o.pr) (r.take j)),.int .i64 (sumO (fSell o.pr) (r.take j)),.int .i64 j) g:=by
     intro F kn Kp x2 e1 e2 e3 hkn
     unfold b170_7
     rw[e1,e2,e3]
     have hlt:(j:Int)<(r.length:Int):=by omega
     simp only[vBin_lss,hlt,decide_true,dIf_b]
     refine⟨λ_=>?_,λe=>absurd e (by simp)⟩
     refine ord_copy (OS.mono _ _ (hsc.trans hsg) hos) hx λd hd=>?_
     have hsd:Sub G (ins g d (.cells x.a 78 (0,0))):=hsg.trans (sub_ins _ hd)
     have hdd:ins g d (.cells x.a 78 (0,0)) d=some (.cells x.a 78 (0,0)):=ins_eq _ _ _
     revert hsd hdd
     generalize ins g d (.cells x.a 78 (0,0))=G2
     intro hsd hdd
     have o2:=λK=>vLoad_1 (K:=K) (hsd _ _ hcc) (show o.a[2]?=some (.int .i64 o.pr)from rfl)
     have x2:=λK=>vLoad_1 (K:=K) hdd (show x.a[2]?=some (.int .i64 x.pr)from rfl)
     have x3:=λK=>vLoad_1 (K:=K) hdd (show x.a[3]?=some (.int .i64 x.am)from rfl)
     have x5:=λK=>vLoad_1 (K:=K) hdd (show x.a[5]?=some (.bool x.buys)from rfl)
     have hB:=sumO_take (fBuy o.pr) hx
     have hS:=sumO_take (fSell o.pr) hx
     have b1:=bB j
     have b2:=bS j
     have b3:=hright x (List.mem_of_getElem? hx)
     have hwj:IntKind.i64.wrap ((j:Int)+1)=(j:Int)+1:=w64 (by omega) (by omega)
     have hwB:IntKind.i64.wrap (sumO (fBuy o.pr) (r.take j)+x.am)=sumO (fBuy o.pr) (r.take j)+x.am:=w64 (by omega) (by omega)
     have hwS:IntKind.i64.wrap (sumO (fSell o.pr) (r.take j)+x.am)=sumO (fSell o.pr) (r.take j)+x.am:=w64 (by omega) (by omega)
     have hkn2:=hkn _ hsd
     rw[hB,hS]at hkn2
     rw[show fBuy o.pr x=(if x.buys=true/\o.pr<=x.pr then x.am else 0)from rfl,show fSell o.pr x=(if x.buys=false/\x.pr<=o.pr then x.am else 0)from rfl]at hkn2
     cases hb:x.buys with
     | true=>
      by_cases hp:o.pr<=x.pr
      ·simp[x5,hb,x2,o2,hp,x3,hwB,hwj]
       simpa [hb,hp]using hkn2
      ·simp[x5,hb,x2,o2,hp,x3,hwB,hwj]
       simpa [hb,hp]using hkn2
     | false=>
      by_cases hp:x.pr<=o.pr
      ·simp[x5,hb,x2,o2,hp,x3,hwS,hwj]
       simpa [hb,hp]using hkn2
      ·simp[x5,hb,x2,o2,hp,x3,hwS,hwj]
       simpa [hb,hp]using hkn2
    exact key3 _ _ _ _ rfl rfl rfl λg2 hs2=>⟨rfl,r.length-(j+1),by omega,j+1,rfl,rfl,by omega,hs2⟩
   ·have e:j=r.length:=by omega
    unfold b170_7
    have hge:¬(j:Int)<(r.length:Int):=by omega
    simp only[vBin_lss,hge,decide_false,dIf_b]
    refine⟨λe=>absurd e (by simp),λ_=>?_⟩
    intro ρ hρ
    simp only[Prod.mk.injEq]at hρ
    obtain⟨r0,r2,r3,r5,r6,r7,r13,r14,r15⟩:=hρ
    simp only[r0,r2,r3,r5,r6,r7,r13,r14,r15]
    rw[e,List.take_length]
    have o2:=λK=>vLoad_1 (K:=K) (hsg _ _ hcc) (show o.a[2]?=some (.int .i64 o.pr)from rfl)
    have hkn2:=hkn _ (hsc.trans hsg)
    unfold crossStep at hkn2
    simp only[vMinMax_i,Bool.false_eq_true,if_false]
    have hmin:(if sumO (fSell o.pr) r<sumO (fBuy o.pr) r then sumO (fSell o.pr) r else sumO (fBuy o.pr) r)=min (sumO (fBuy o.pr) r) (sumO (fSell o.pr) r):=by
     split <;> omega
    rw[hmin]
    generalize min (sumO (fBuy o.pr) r) (sumO (fSell o.pr) r)=n at *
    by_cases c1:pa.2<n
    ·simp only[c1,true_or,if_true]at hkn2
     simp[c1,o2,hww]
     exact hkn2
    ·by_cases c2:n=pa.2
     ·by_cases c3:0<n
      ·by_cases c4:o.pr<pa.1
       ·rw[if_pos (.inr ⟨c2,c3,c4⟩)]at hkn2
        simp[c1,<-c2,c3,c4,o2,hww]
        exact hkn2
       ·rw[if_neg (by omega)]at hkn2
        simp[c1,<-c2,c3,c4,o2,hww]
        rw[c2]
        exact hkn2
      ·rw[if_neg (by omega)]at hkn2
       simp[c1,<-c2,c3,o2,hww]
       rw[c2]
       exact hkn2
     ·rw[if_neg (by omega)]at hkn2
      simp[c1,c2,o2,hww]
      exact hkn2
  refine key _ _ _ λg2 hs2=>⟨rfl,r.length-(i+1),by omega,i+1,by rw[hstep];rfl,rfl,by omega,hs2⟩
 ·have e:i=r.length:=by omega
  unfold b170_3
  have hge:¬(i:Int)<(r.length:Int):=by omega
  simp only[vBin_lss,hge,decide_false,dIf_b]
  refine⟨λe=>absurd e (by simp),λ_=>?_⟩
  intro ρ hρ
  simp only[Prod.mk.injEq]at hρ
  rw[hρ.1,hρ.2,e,List.take_length]
  exact⟨h,ob.sub.trans hsg,hR⟩
end
end Go.Pw
