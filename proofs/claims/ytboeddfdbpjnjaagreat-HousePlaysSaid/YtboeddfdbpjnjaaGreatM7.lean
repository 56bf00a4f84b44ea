/- Texts of this claim, one behind the other. -/
import Derived.Test.YtboeddfdbpjnjaaGreatM3
import Derived.WalkKit
import Derived.ProofKit
import Derived.Carry
import Derived.ChangeSame
import Derived.JoinedOf
import Derived.RowKit
import Derived.OpenShut
set_option linter.unusedSimpArgs false
set_option linter.unusedVariables false
namespace Go.Pw
open Go Go.ChangeShapes Go.WideShapes Go.ChangeAt Go.RowKit
def Mn (W:World):PH:=λb=>W.heap[b]?
theorem SS (W:World):BF (Mn W) W:=λb o h=>h
theorem cK {W b:World} (c:BF (Mn W) b) (a:Ax (Mn W) (Mn W) W b):Below W.heap.size W b where
 os:=a.os
 tape:=a.tape
 output:=a.output
 size:=a.size
 block k hk:=by
  have:W.heap[k]?=some W.heap[k]:=Array.getElem?_eq_getElem hk;rw[c k _ this,this]
section
variable {H:Type} {enc:TypeId×Value->H} {P:Program}
theorem jd {ts:List TypeId} (e:laidOutB P=true) {W g:World} (f:Below W.heap.size W g) {c:Nat->Bool} :
  ∀{ts:List TypeId} {vs:List Value} {b:List (DataW H)} {p:List MemPlace},ts.all (λt=>P.readableRec t&&decide (t<P.types.size))=true ->
   DataW.TrodAll enc P W 0 (λ_=>true) true ts vs b p->(∀x∈p,x.block<W.heap.size)->(∀x∈p,c x.block=true)->DataW.TrodAll enc P g 0 c true ts vs b p
 | [],vs,b,p,_,h,_,_=>by
  obtain⟨rfl,rfl,rfl⟩:=trodAll_nil h;exact trodAll_mk0
 | t::ts,vs,b,p,ht,h,hlt,hs=>by
  obtain⟨v,i,d,k,l,q,rfl,rfl,rfl,h0,j⟩:=trodAll_cons h;simp only[List.all_cons,Bool.and_eq_true,CF]at ht
  exact trodAll_cons_mk (WideElems.Trod_stays e ht.1.1 ht.1.2 h0 (λx a=>f.same (hlt x (by simp[a]))) (λx a=>hs x (by simp[a])))
   (jd (ts:=ts) e f (by simpa using ht.2) j (λx a=>hlt x (by simp[a])) (λx a=>hs x (by simp[a])))
theorem aC {f:Func} {s:ChangeSpec} {h m g o:Bool} {W y:World} {args:Array Value} {n O:List (DataW H)} {a:List MemPlace} {E:TypeId}
  (z:DataW.Whole enc P f.params.toList s.vars h W args.toList n O a) (C:Below W.heap.size W y) (L:laidOutB P=true)
  (B:f.params.toList.all (λt=>P.readableRec t&&decide (t<P.types.size))=true) (c:s.vars = [])
  (l:s.fn H n = {results:=[.lit (.bool true)],args:=n}) (j:f.resultTypes=#[E]) (v:P.underlying E=some .bool) :
  s.post enc P f h m g o W args (.bool true) y:=by
 have k:∀p∈a,(λb=>decide (b<W.heap.size)) p.block=true:=λp w=>by simpa using z.lt p w
 have d:=z.lt;have D:=z;obtain⟨p,q,N,K,rfl,F,I⟩:=D;rw[c]at K;obtain⟨rfl,rfl⟩:=trodVars_none K;simp only[List.append_nil]at F I k d;have hW':=z;simp only[List.append_nil]at hW'
 have e:∀i:Nat->Bool,(∀x∈p,i x.block=true)->DataW.TrodAll enc P y 0 i true f.params.toList args.toList (s.fn H (n ++ [])).args p:=λi A=>by
  rw[List.append_nil,l];exact jd (ts:=[]) L C B N (λx r=>d x r) A
 have G:∀(b:Nat) (i:Nat->Bool) (J:Bool),DataW.TrodAll enc P y b i J f.resultTypes.toList ((Value.bool true).resultList f.resultTypes.size) (s.fn H (n ++ [])).results []:=λb i J=>by
  rw[List.append_nil,l,j];exact trodAll_mk1 (shut_bool v _)
 have u:∀i:Nat->Bool,DataW.TrodVars enc P y i s.vars (s.fn H (n ++ [])).vars []:=λi=>by
  rw[List.append_nil,l,c];exact rfl
 refine⟨n,[],p,[],p,[],hW',G _ _ _,e _ k,u _,World.keptBut_mono (λx r=>⟨r,?_⟩) (C.frame (λx=>x∈p)),λ_=>?_⟩
 ·simp[r]
 ·refine⟨ok_one j rfl (okWide_bool_mk v _),_,_,([]++p) ++ [],⟨[]++p,[],trodAll_append (e _ (λ_ _=>rfl)) (G _ _ _),u _,rfl,?_,?_⟩,?_⟩
  ·intro b off w
   simp only[List.nil_append,List.append_nil]at w;have:=d _ w;rw[C.frozen (p:=⟨b,off,none⟩) (show b<W.heap.size from this)];exact F b off w
  ·intro M
   simpa using I M
  ·intro x r _
   simpa using r
theorem Xu {f:FuncId} {j:Func} {s:ChangeSpec} {b g a h:Bool} {W:World} {args:Array Value} {q B:List (DataW H)} {c:List MemPlace} {r:TypeId}
  (z:A7 P f args (Mn W) λe o=>e = .ret (.bool true)/\o=Mn W)
  (A:DataW.Whole enc P j.params.toList s.vars b W args.toList q B c) (y:laidOutB P=true)
  (l:j.params.toList.all (λt=>P.readableRec t&&decide (t<P.types.size))=true) (d:s.vars = [])
  (m:s.fn H q = {results:=[.lit (.bool true)],args:=q}) (i:j.resultTypes=#[r]) (k:P.underlying r=some .bool) :
  Calls P f args W λe x=>∃v,e = .returned v/\s.post enc P j b g a h W args v x:=by
 refine (z.2 W (SS W)).mono λe x n=>?_;cases e <;> simp only at n
 ·obtain⟨o,u,w,p,rfl⟩:=n
  cases p;exact⟨_,rfl,aC A (cK u w) y l d m i k⟩
 ·obtain⟨o,u,w,p,rfl⟩:=n
  cases p
end
end Go.Pw
