/- Texts of this claim, one behind the other. -/
import Derived.Test.YtboeddfdbpjnjaaGreatM1
import Derived.Deep.AppendSrc
import Derived.Room.AppendAny
import Derived.Room.Make
import Derived.Laws.Rows
set_option linter.unusedSimpArgs false
set_option linter.unusedVariables false
namespace Go.Pw
open Go
def szOf (P:Program) (t:TypeId):Option (Option Nat):=
 match P.underlying t with
 | some (.struct _)=>(P.info? t).map λi=>some i.size
 | some (.array _ _)=>(P.info? t).map λi=>some i.size
 | some _=>some none
 | none=>none
def sizeOf' (P:Program) (t:TypeId):Option Nat:=(P.info? t).map (·.size)
def placesOf (P:Program):List Field->Option (List (Nat×Nat))
 | []=>some []
 | f::l=>match sizeOf' P f.type,placesOf P l with
  | some n,some r=>some ((f.offset,n)::r)
  | _,_=>none
def zeroOf (P:Program) (t:TypeId):Option (Array Value):=(P.info? t).bind λi=>i.zero.map Value.cells
def partsOf (ρ:Env) (ps:Array (Nat×Operand)):List (Nat×Value):=ps.toList.map λp=>(p.1,evalE ρ p.2)
def argsOf (ρ:Env) (as:Array Operand):Array Value:=(as.toList.map (evalE ρ)).toArray
def denQ (P:Program) (o:Oper) (ρ:Env) (h:PH) (K:Value->Prop):Prop:=
 match o.op with
 | .move x=>K (evalE ρ x)
 | .assign x=>K (evalE ρ x)
 | .pick c a b=>vPick (evalE ρ c) (evalE ρ a) (evalE ρ b) K
 | .binOp op t x y _=>vBin P op t (evalE ρ x) (evalE ρ y) K
 | .unOp op _ x=>vUn P op (evalE ρ x) K
 | .extract x i=>vExt (evalE ρ x) i K
 | .field t x i=>match P.underlying t with
  | some (.struct fs)=>match fs.toList[i]? with
   | some f=>match szOf P f.type with
    | some sz=>vFld sz f.offset (evalE ρ x) K
    | none=>False
   | none=>False
  | _=>False
 | .fieldAddr t x i=>match P.underlying t with
  | some (.struct fs)=>match fs.toList[i]? with
   | some f=>match sizeOf' P f.type with
    | some (_+1)=>vFA f.offset (evalE ρ x) K
    | _=>False
   | none=>False
  | _=>False
 | .indexAddr t x ix=>match P.underlying t with
  | some (.array len e)=>match sizeOf' P e with
   | some n=>vIxA len n (evalE ρ x) (evalE ρ ix) K
   | none=>False
  | some (.slice e)=>match sizeOf' P e with
   | some n=>vIxS n (evalE ρ x) (evalE ρ ix) K
   | none=>False
  | _=>False
 | .index t x ix=>match P.underlying t with
  | some .string=>vIxStr (evalE ρ x) (evalE ρ ix) K
  | some (.array len e)=>match sizeOf' P e,szOf P e with
   | some n,some sz=>vIxAg sz len n (evalE ρ x) (evalE ρ ix) K
   | _,_=>False
  | _=>False
 | .nilCheck x=>vNil (evalE ρ x) K
 | .slice t x lo hi none=>match P.underlying t with
  | some .string=>vSlStr (lo.map (evalE ρ)) (hi.map (evalE ρ)) (evalE ρ x) K
  | some (.slice e)=>match sizeOf' P e with
   | some n=>vSl n (lo.map (evalE ρ)) (hi.map (evalE ρ)) (evalE ρ x) K
   | none=>False
  | some (.array len e)=>match sizeOf' P e with
   | some n=>vSlA len n (lo.map (evalE ρ)) (hi.map (evalE ρ)) (evalE ρ x) K
   | none=>False
  | _=>False
 | .slice t x lo hi (some mx)=>match P.underlying t with
  | some (.slice e)=>match sizeOf' P e with
   | some n=>vSl3 n (lo.map (evalE ρ)) (hi.map (evalE ρ)) (evalE ρ mx) (evalE ρ x) K
   | none=>False
  | _=>False
 | .lookup t x ix ok=>match P.underlying t with
  | some (.map kt e)=>match P.underlying kt,P.info? e with
   | some d,some i=>match i.zero with
    | some z=>vMapGet d z ok (evalE ρ x) (evalE ρ ix) h K
    | none=>False
   | _,_=>False
  | _=>False
 | .load t x=>match szOf P t with
  | some sz=>vLoad sz (evalE ρ x) h K
  | none=>False
 | .build t ps=>match P.underlying t,zeroOf P t with
  | some (.struct fs),some z=>match placesOf P fs.toList with
   | some pl=>vBuild pl z (partsOf ρ ps) K
   | none=>False
  | some (.array _ e),some z=>match sizeOf' P e with
   | some n=>vBuildA n z (partsOf ρ ps) K
   | none=>False
  | _,_=>False
 | .makeInterface t x=>match P.underlying t with
  | some (.interface _)=>False
  | some _=>vIface t (evalE ρ x) K
  | none=>False
 | .makeFunc f first cap=>vFunc f (argsOf ρ first) (argsOf ρ cap) K
 | .typeAssert x xt t true=>vAssert P xt t (evalE ρ x) K
 | .convert src dst x=>match P.underlying src,P.underlying dst with
  | some (.int _),some (.int k)=>vConvI k (evalE ρ x) K
  | some (.int _),some (.float k)=>vConvIF k (evalE ρ x) K
  | some (.float _),some (.int k)=>vConvFI k (evalE ρ x) K
  | some (.slice e),some .string=>match P.underlying e with
   | some (.int .u8)=>vConvBS (evalE ρ x) h K
   | _=>False
  | _,_=>False
 | .call {callee:=.builtin .len,args,argTypes}=>match args.toList,argTypes.toList with
  | [x],[t]=>match P.underlying t with
   | some .string=>vLenStr (evalE ρ x) K
   | some (.slice _)=>vLenS (evalE ρ x) K
   | _=>False
  | _,_=>False
 | .call {callee:=.builtin .max,args,..}=>match args.toList with
  | [x,y]=>vMinMax true (evalE ρ x) (evalE ρ y) K
  | _=>False
 | .call {callee:=.builtin .min,args,..}=>match args.toList with
  | [x,y]=>vMinMax false (evalE ρ x) (evalE ρ y) K
  | _=>False
 | .call {callee:=.value (.func f),args,..}=>vQCall P f (argsOf ρ args) h K
 | _=>False
def clsOf (P:Program) (qf:FuncId->Bool) (o:Oper):Cls:=
 match o.op with
 | .binOp op t _ _ _=>match arithF op with
  | some _=>(match P.underlying t with
   | some (.float _)=>.loud
   | _=>.pure)
  | none=>.pure
 | .move _ | .assign _ | .pick .. | .unOp .. | .extract .. | .field .. | .fieldAddr .. | .indexAddr .. | .index .. | .nilCheck _ | .slice .. | .build .. | .makeInterface .. | .makeFunc .. | .typeAssert ..=>.pure
 | .load .. | .lookup ..=>.read
 | .convert src dst _=>match P.underlying src,P.underlying dst with
  | some (.slice _),_=>.read
  | _,some (.slice _)=>.loud
  | _,_=>.pure
 | .alloc _ | .box ..=>.alloc
 | .buildSlice ..=>match qf 1000000 with
  | true=>.alloc
  | false=>.loud
 | .call {callee:=.builtin .len,..}=>.pure
 | .call {callee:=.builtin .max,..}=>.pure
 | .call {callee:=.builtin .min,..}=>.pure
 | .call {callee:=.value (.func f),..}=>match qf f with
  | true=>.read
  | false=>.loud
 | _=>.loud
def denA (P:Program) (o:Oper) (ρ:Env) (h:PH) (K:Value->PH->Prop):Prop:=
 match o.op with
 | .alloc e=>match zeroOf P e with
  | some z=>vNew z e h K
  | none=>False
 | .box e x=>vNew (evalE ρ x).cells e h K
 | .buildSlice t len ps=>match P.underlying t with
  | some (.slice e)=>match sizeOf' P e,zeroOf P e with
   | some n,some z=>len*n<=2^24/\vBuildS e n len z (partsOf ρ ps) h K
   | _,_=>False
  | _=>False
 | _=>False
def denL (P:Program) (o:Oper) (ρ:Env) (h:PH) (K:Value->PH->Prop) (Kp:List PanicEntry->PH->Prop):Prop:=
 match o.op with
 | .store t a x=>match sizeOf' P t with
  | some n=>vStore n (evalE ρ a) (evalE ρ x) h (λh'=>K undef h')
  | none=>False
 | .buildSlice t len ps=>match P.underlying t with
  | some (.slice e)=>match sizeOf' P e,zeroOf P e with
   | some n,some z=>len*n<=2^24/\vBuildS e n len z (partsOf ρ ps) h K
   | _,_=>False
  | _=>False
 | .makeSlice t l c=>match P.underlying t with
  | some (.slice e)=>match P.info? e with
   | some i=>match i.zero with
    | some z=>vMakeS e i.size i.bytes z.cells (evalE ρ l) (evalE ρ c) h K
    | none=>False
   | none=>False
  | _=>False
 | .call {callee:=.builtin .append,args,argTypes}=>match args.toList,argTypes.toList with
  | [s,x],[t,tx]=>match P.underlying t with
   | some (.slice e)=>match P.info? e with
    | some i=>match i.zero with
     | some z=>0<i.size/\0<i.bytes/\z.cells.size=i.size/\(match P.underlying tx with
      | some .string=>vAppend true e i.size i.bytes (evalE ρ s) (evalE ρ x) h K
      | some (.slice _)=>vAppend false e i.size i.bytes (evalE ρ s) (evalE ρ x) h K
      | _=>False)
     | none=>False
    | none=>False
   | _=>False
  | _,_=>False
 | .call {callee:=.builtin .clear,args,argTypes}=>match args.toList,argTypes.toList with
  | [x],[t]=>match P.underlying t with
   | some (.slice e)=>match zeroOf P e with
    | some z=>vClear z (evalE ρ x) h (λh'=>K (.tuple #[]) h')
    | none=>False
   | _=>False
  | _,_=>False
 | .makeMap _ none=>vMapNew h K
 | .insert t m k v=>match P.underlying t with
  | some (.map kt _)=>match P.underlying kt with
   | some d=>vMapIns d (evalE ρ m) (evalE ρ k) (evalE ρ v) h (λh'=>K undef h')
   | none=>False
  | _=>False
 | .binOp op _ x y _=>vFArith op (evalE ρ x) (evalE ρ y) h K
 | .call {callee:=.value (.func f),args,..}=>match extOf P f with
  | true=>vLib P f (argsOf ρ args) h K
  | false=>vCall P f (argsOf ρ args) h K Kp
 | .call {callee:=.value x,args,..}=>vCallV P (evalE ρ x) (argsOf ρ args) h K Kp
 | .panic x=>vPanic (evalE ρ x) h Kp
 | _=>False
section
variable {P:Program} {ρ:Env} {h:PH}
theorem OpY.run {o:Oper} {v:Value} (hp:∀w,Holds h w->(execOp (evalE ρ) o).run P w = .ok (.value v) w):OpY P o ρ h v:=by
 intro w hw
 rw[hp w hw]
 exact⟨rfl,rfl⟩
theorem run_v (s:Sem Value) {v:Value} {w:World} (hs:s.run P w = .ok v w):(do pure (.value (<-s)):Sem Next).run P w = .ok (.value v) w:=by
 rw[Sem.run_bind,hs];rfl
def aggD:TypeDesc->Bool
 | .struct _=>true
 | .array _ _=>true
 | _=>false
theorem run_isAgg {t:TypeId} {sz:Option Nat} (hs:szOf P t=some sz) (w:World):(isAgg t).run P w = .ok sz.isSome w/\(∀n,sz=some n->(Go.sizeOf t).run P w = .ok n w):=by
 unfold szOf at hs
 cases hu:P.underlying t with
 | none=>rw[hu]at hs;cases hs
 | some d=>
  rw[hu]at hs
  have h1:(isAgg t).run P w = .ok (aggD d) w:=by
   unfold isAgg
   rw[Sem.run_bind,run_underlying hu]
   cases d <;> rfl
  have hsz:∀n,(P.info? t).map (λi=>some i.size)=some (some n)->(Go.sizeOf t).run P w = .ok n w:=λn hn=>by
   cases hi:P.info? t with
   | none=>rw[hi]at hn;cases hn
   | some i=>
    rw[hi]at hn
    simp at hn
    simp[Go.sizeOf,typeInfo,hi,hn]
  rw[h1]
  clear h1 hu
  cases d <;> simp only[Option.some.injEq]at hs <;> first
   | (subst hs;exact⟨rfl,λn hn=>by cases hn⟩)
   | (cases sz with
     | none=>
      exfalso
      revert hs
      cases P.info? t <;> simp
     | some n=>exact⟨rfl,λm hm=>by cases hm;exact hsz n hs⟩)
theorem run_part {t:TypeId} {sz:Option Nat} (hs:szOf P t=some sz) {cs:Array Value} {off:Nat} {K:Value->Prop} (hk:cellsAt sz cs off K) (w:World) :
  ∃v,(part t cs off).run P w = .ok v w/\K v:=by
 obtain⟨h1,h2⟩:=run_isAgg hs w
 unfold part
 cases sz with
 | none=>
  obtain⟨v,hv,hk⟩:=hk
  refine⟨v,?_,hk⟩
  rw[Sem.run_bind,h1]
  simp[Result.andThen,hv]
 | some n=>
  refine⟨_,?_,hk.2⟩
  rw[Sem.run_bind,h1]
  simp[Result.andThen,h2 n rfl]
theorem cellsAt_fun {sz:Option Nat} {cs:Array Value} {off:Nat} {K:Value->Prop} (hk:cellsAt sz cs off K):∃v,(∀K':Value->Prop,K' v->cellsAt sz cs off K')/\K v:=by
 cases sz with
 | none=>obtain⟨v,hv,hk⟩:=hk;exact⟨v,λK' hk'=>⟨v,hv,hk'⟩,hk⟩
 | some n=>exact⟨_,λK' hk'=>⟨hk.1,hk'⟩,hk.2⟩
theorem cell_of {w:World} {b off:Nat} {c:Array Value} {e:TypeId} {fr:Nat×Nat} (hb:w.heap[b]?=some (.cells c e fr)) (j:Nat):w.cell? ⟨b,off+j,none⟩=c[off+j]?:=by
 unfold World.cell?
 rw[hb]
 rfl
theorem run_loadVar {t:TypeId} {sz:Option Nat} (hs:szOf P t=some sz) {w:World} {b off:Nat} {c:Array Value} {e:TypeId} {fr:Nat×Nat} (hb:w.heap[b]?=some (.cells c e fr))
  {K:Value->Prop} (hk:cellsAt sz c off K):∃v,(loadVar t ⟨b,off,none⟩).run P w = .ok v w/\K v:=by
 obtain⟨h1,h2⟩:=run_isAgg hs w
 unfold loadVar
 cases sz with
 | none=>
  obtain⟨v,hv,hk⟩:=hk
  refine⟨v,?_,hk⟩
  have hc:w.cell? ⟨b,off,none⟩=some v:=by have:=cell_of (off:=off) hb 0;simpa [hv]using this
  rw[Sem.run_bind,h1]
  simp[Result.andThen,load,Sem.run,hc]
 | some n=>
  refine⟨_,?_,hk.2⟩
  have hl:=run_loadCells_list (P:=P) w ⟨b,off,none⟩ ((c.extract off (off+n)).toList) (λj v hv=>by
   rw[Addr.add_lit]
   rw[cell_of hb]
   simp only[Array.getElem?_toList,Array.getElem?_extract]at hv
   split at hv
   ·exact hv
   ·cases hv)
  have hlen:(c.extract off (off+n)).toList.length=n:=by have:=hk.1;simp;omega
  rw[hlen]at hl
  rw[Sem.run_bind,h1]
  simp only[Result.andThen,Option.isSome_some,if_true,Sem.run_bind,h2 n rfl,hl,Array.toArray_toList]
  rfl
theorem run_intBetween {v:Option Value} {lo hi dflt:Nat} {K:Nat->Prop} (hk:intBetween v lo hi dflt K):∃n,K n/\((v=none/\n=dflt)\/∃k i,v=some (.int k i)/\(lo:Int)<=i/\i<=(hi:Int)/\n=i.toNat):=by
 unfold intBetween at hk
 cases v with
 | none=>exact⟨dflt,hk,.inl ⟨rfl,rfl⟩⟩
 | some v=>obtain⟨k,i,rfl,a,b,c⟩:=hk;exact⟨_,c,.inr ⟨k,i,rfl,a,b,rfl⟩⟩
theorem run_sliceBounds {isSlice:Bool} {len cap:Nat} {low high:Option Value} {K:Nat->Nat->Prop} (hk:intBetween high 0 cap len λh=>intBetween low 0 h 0 λl=>K l h) (w:World) :
  ∃l h,(Instr.sliceBounds isSlice len cap low high none).run P w = .ok (l,h,cap) w/\K l h:=by
 obtain⟨h,hk,hh⟩:=run_intBetween hk
 obtain⟨l,hk,hl⟩:=run_intBetween hk
 refine⟨l,h,?_,hk⟩
 have sb:∀(k:IntKind) (i:Int) (y:Nat) (c:BoundsCode),0<=i->i<=(y:Int)->(Instr.sliceBound (.int k i) y c).run P w = .ok i.toNat w:=λk i y c a b=>by
  simp[Instr.sliceBound,asIntOf,a,b]
 unfold Instr.sliceBounds
 rcases hh with⟨rfl,rfl⟩ | ⟨k,i,rfl,a,b,rfl⟩ <;> rcases hl with⟨rfl,rfl⟩ | ⟨k',i',rfl,a',b',rfl⟩
 ·simp
 ·simp[sb k' i' h _ (by simpa using a') b']
 ·simp[sb k i cap _ (by simpa using a) b]
 ·simp[sb k i cap _ (by simpa using a) b,sb k' i' _ _ (by simpa using a') b']
theorem argsOf_eq (as:Array Operand):as.map (evalE ρ)=argsOf ρ as:=by
 unfold argsOf;apply Array.ext';simp
theorem sizeOf'_run {t:TypeId} {n:Nat} (hs:sizeOf' P t=some n) (w:World):(Go.sizeOf t).run P w = .ok n w:=by
 unfold sizeOf' at hs
 cases hi:P.info? t with
 | none=>rw[hi]at hs;cases hs
 | some i=>rw[hi]at hs;simp at hs;simp[Go.sizeOf,typeInfo,hi,hs]
theorem run_mapM_fields (fs:Array Field) {pl:List (Nat×Nat)} (hp:placesOf P fs.toList=some pl) (w:World) :
  ((fs.mapM λf=>do pure (f.offset,<-Go.sizeOf f.type):Sem (Array (Nat×Nat)))).run P w = .ok pl.toArray w:=by
 have key:∀(l:List Field) (pl:List (Nat×Nat)),placesOf P l=some pl->((l.mapM λf=>do pure (f.offset,<-Go.sizeOf f.type):Sem (List (Nat×Nat)))).run P w = .ok pl w:=by
  intro l
  induction l with
  | nil=>intro pl hp;simp[placesOf]at hp;subst hp;simp
  | cons f l ih=>
   intro pl hp
   simp only[placesOf]at hp
   cases h1:sizeOf' P f.type with
   | none=>rw[h1]at hp;cases hp
   | some n=>
    cases h2:placesOf P l with
    | none=>rw[h1,h2]at hp;cases hp
    | some r=>
     rw[h1,h2]at hp
     simp only[Option.some.injEq]at hp
     subst hp
     have hsz:=sizeOf'_run h1 w
     rw[List.mapM_cons,Sem.run_bind,Sem.run_bind,hsz]
     simp only[Result.andThen,Sem.run_pure,Sem.run_bind,ih r h2]
 obtain⟨l,rfl⟩:∃l:List Field,fs=l.toArray:=⟨fs.toList,by simp⟩
 rw[List.mapM_toArray]
 simp only[map_eq_pure_bind,Sem.run_bind]
 rw[key _ _ hp]
 rfl
theorem zeroOf_run {t:TypeId} {z:Array Value} (hs:zeroOf P t=some z) (w:World):∃v,(zeroValue t).run P w = .ok v w/\v.cells=z:=by
 unfold zeroOf at hs
 cases hi:P.info? t with
 | none=>rw[hi]at hs;cases hs
 | some i=>
  rw[hi]at hs
  cases hz:i.zero with
  | none=>simp[hz]at hs
  | some v=>simp[hz]at hs;exact⟨v,by simp[zeroValue,typeInfo,hi,hz],hs⟩
end
end Go.Pw
set_option linter.unusedSimpArgs false
set_option linter.unusedVariables false
namespace Go.Pw
open Go
section
variable {P:Program} {ρ:Env} {h:PH} {qf:FuncId->Bool}
theorem add_lit (b o n:Nat):(⟨b,o,none⟩:Addr).add n=⟨b,o+n,none⟩:=by
 unfold Addr.add;split <;> simp_all
theorem run_fieldPlace {f:Field} {n:Nat} (hs:sizeOf' P f.type=some (n+1)) (a:Addr) (w:World):(fieldPlace a f).run P w = .ok (a.add f.offset) w:=by
 unfold fieldPlace
 rw[Sem.run_bind,sizeOf'_run hs w]
 simp[Result.andThen]
def Says (P:Program) (o:Oper) (ρ:Env) (v:Value):Prop:=∀w,(execOp (evalE ρ) o).run P w = .ok (.value v) w
theorem denQ_pure {o:Oper} {K:Value->Prop} (hc:clsOf P qf o = .pure) (hd:denQ P o ρ h K):∃v,Says P o ρ v/\K v:=by
 obtain⟨dst,op,type,pos,after,guard⟩:=o
 cases op <;> simp only[denQ,clsOf]at hd hc
 case move x=>exact⟨_,λw=>rfl,hd⟩
 case assign x=>exact⟨_,λw=>rfl,hd⟩
 case pick c a b=>
  obtain⟨t,ht,hk⟩:=hd
  refine⟨_,λw=>?_,hk⟩
  simp only[execOp,ht,asBool]
  cases t <;> simp
 case binOp op t x y yt=>
  obtain⟨v,hv,hk⟩:=hd
  exact⟨v,λw=>run_v _ (hv x y w),hk⟩
 case unOp op t x=>
  obtain⟨v,hv,hk⟩:=hd
  exact⟨v,λw=>run_v _ (pureRun_run w _ hv),hk⟩
 case extract x i=>
  obtain⟨vs,v,hx,hv,hk⟩:=hd
  refine⟨v,λw=>run_v _ ?_,hk⟩
  simp only[Instr.extract,hx,hv];rfl
 case field t x i=>
  cases hu:P.underlying t with
  | none=>rw[hu]at hd;exact hd.elim
  | some d=>
   rw[hu]at hd
   cases d <;> simp only at hd
   case struct fs=>
    cases hf:fs.toList[i]? with
    | none=>rw[hf]at hd;exact hd.elim
    | some f=>
     rw[hf]at hd
     simp only at hd
     cases hs:szOf P f.type with
     | none=>rw[hs]at hd;exact hd.elim
     | some sz=>
      rw[hs]at hd
      obtain⟨cs,hx,hk⟩:=hd
      obtain⟨v,hv,hk⟩:=cellsAt_fun hk
      refine⟨v,λw=>run_v _ ?_,hk⟩
      obtain⟨v',h1,h2⟩:=run_part hs (hv (λu=>u=v) rfl) w
      subst h2
      have hf':fs[i]?=some f:=by rw[<-hf];simp
      simp only[Instr.field,Sem.run_bind,run_underlying hu,Result.andThen,hf',hx,asAgg,Sem.run_pure,h1]
 case fieldAddr t x i=>
  cases hu:P.underlying t with
  | none=>rw[hu]at hd;exact hd.elim
  | some d=>
   rw[hu]at hd
   cases d <;> simp only at hd
   case struct fs=>
    cases hf:fs.toList[i]? with
    | none=>rw[hf]at hd;exact hd.elim
    | some f=>
     rw[hf]at hd
     simp only at hd
     cases hs:sizeOf' P f.type with
     | none=>rw[hs]at hd;exact hd.elim
     | some n=>
      rw[hs]at hd
      cases n with
      | zero=>exact hd.elim
      | succ n=>
       obtain⟨b,o,hx,hk⟩:=hd
       refine⟨_,λw=>run_v _ ?_,hk⟩
       have hf':fs[i]?=some f:=by rw[<-hf];simp
       simp only[Instr.fieldAt,Sem.run_bind,run_underlying hu,Result.andThen,hf',hx,Instr.sureAddr,Sem.run_pure,run_fieldPlace hs,add_lit]
 case indexAddr t x ix=>
  cases hu:P.underlying t with
  | none=>rw[hu]at hd;exact hd.elim
  | some d=>
   rw[hu]at hd
   cases d <;> simp only at hd
   case array len e=>
    cases hs:sizeOf' P e with
    | none=>rw[hs]at hd;exact hd.elim
    | some n=>
     rw[hs]at hd
     obtain⟨b,o,k,i,hx,hi,h0,hl,hk⟩:=hd
     refine⟨_,λw=>run_v _ ?_,hk⟩
     simp[Instr.indexAt,run_underlying hu,hx,hi,asIntOf,Instr.sureAddr,h0,hl,sizeOf'_run hs,add_lit]
   case slice e=>
    cases hs:sizeOf' P e with
    | none=>rw[hs]at hd;exact hd.elim
    | some n=>
     rw[hs]at hd
     obtain⟨b,o,len,cap,k,i,hx,hi,h0,hl,hk⟩:=hd
     refine⟨_,λw=>run_v _ ?_,hk⟩
     simp[Instr.indexAt,run_underlying hu,hx,hi,asIntOf,Instr.sureAddr,h0,hl,sizeOf'_run hs,add_lit]
 case index t x ix=>
  cases hu:P.underlying t with
  | none=>rw[hu]at hd;exact hd.elim
  | some d=>
   rw[hu]at hd
   cases d <;> simp only at hd
   case string=>
    obtain⟨s,k,i,c,hx,hi,h0,hc',hk⟩:=hd
    refine⟨_,λw=>run_v _ ?_,hk⟩
    have hb:s[i.toNat]?=some c:=by
     rw[<-hc']
     simp only[getElem?_def,ByteArray.size]
     rfl
    simp[Instr.index,run_underlying hu,hx,hi,asIntOf,h0,hb]
   case array len e=>
    cases hs:sizeOf' P e with
    | none=>rw[hs]at hd;exact hd.elim
    | some n=>
     cases hz:szOf P e with
     | none=>rw[hs,hz]at hd;exact hd.elim
     | some sz=>
      rw[hs,hz]at hd
      obtain⟨cs,k,i,hx,hi,h0,hl,hk⟩:=hd
      obtain⟨v,hv,hk⟩:=cellsAt_fun hk
      refine⟨v,λw=>run_v _ ?_,hk⟩
      obtain⟨v',h1,h2⟩:=run_part hz (hv (λu=>u=v) rfl) w
      subst h2
      simp[Instr.index,run_underlying hu,hx,hi,asIntOf,h0,hl,sizeOf'_run hs,h1]
 case nilCheck x=>
  obtain⟨hn,hk⟩:=hd
  refine⟨_,λw=>?_,hk⟩
  simp only[execOp]
  generalize evalE ρ x=v at hn
  cases v <;> simp only[notNil]at hn <;> first | cases hn | skip
  case pointer a=>cases a with
   | none=>cases hn
   | some a=>rfl
  case func f a b=>cases f <;> first | rfl | cases hn
 case slice t x lo hi mx=>
  cases mx with
  | some m=>
   simp only at hd
   cases hu:P.underlying t with
   | none=>rw[hu]at hd;exact hd.elim
   | some d=>
    rw[hu]at hd
    cases d <;> simp only at hd
    case slice e=>
     cases hs:sizeOf' P e with
     | none=>rw[hs]at hd;exact hd.elim
     | some n=>
      rw[hs]at hd
      obtain⟨p,len,cap,k1,n1,k2,n2,l,hx,hhi,hmx,b0,b1,b2,hlo,hk⟩:=hd
      refine⟨_,λw=>run_v _ ?_,hk⟩
      obtain⟨N1,rfl⟩:∃N:Nat,n1=N:=⟨n1.toNat,by omega⟩
      obtain⟨N2,rfl⟩:∃N:Nat,n2=N:=⟨n2.toNat,by omega⟩
      have c1:N2<=N1:=by omega
      have c2:N1<=cap:=by omega
      rcases hlo with⟨hl,rfl⟩ | ⟨k,i,hl,a0,a1,rfl⟩
      ·simp[Instr.sliceAt,Instr.slice,run_underlying hu,hx,hhi,hmx,hl,Instr.sliceBounds,Instr.sliceBound,asIntOf,c1,c2,sizeOf'_run hs,add_lit]
      ·obtain⟨N,rfl⟩:∃N:Nat,i=N:=⟨i.toNat,by omega⟩
       have c3:N<=N2:=by omega
       simp[Instr.sliceAt,Instr.slice,run_underlying hu,hx,hhi,hmx,hl,Instr.sliceBounds,Instr.sliceBound,asIntOf,c1,c2,c3,sizeOf'_run hs,add_lit]
    all_goals exact hd.elim
  | none=>
   simp only at hd
   cases hu:P.underlying t with
   | none=>rw[hu]at hd;exact hd.elim
   | some d=>
    rw[hu]at hd
    cases d <;> simp only at hd
    case string=>
     obtain⟨s,hx,hk⟩:=hd
     obtain⟨l,h',_,hk'⟩:=run_sliceBounds (P:=P) (isSlice:=false) hk (default:World)
     obtain⟨n,hn,hh⟩:=run_intBetween hk
     obtain⟨m,hm,hl⟩:=run_intBetween hn
     refine⟨_,λw=>run_v _ ?_,hm⟩
     obtain⟨l1,h1,hr,e1⟩:=run_sliceBounds (P:=P) (isSlice:=false) (len:=s.size) (cap:=s.size) (low:=lo.map (evalE ρ)) (high:=hi.map (evalE ρ)) (K:=λl h=>l=m/\h=n) (by
      rcases hh with⟨e,rfl⟩ | ⟨k,i,e,a,b,rfl⟩ <;> rcases hl with⟨e',rfl⟩ | ⟨k',i',e',a',b',rfl⟩ <;> rw[e,e']
      ·exact⟨rfl,rfl⟩
      ·exact⟨k',i',rfl,a',b',rfl,rfl⟩
      ·exact⟨k,i,rfl,a,b,rfl,rfl⟩
      ·exact⟨k,i,rfl,a,b,k',i',rfl,a',b',rfl,rfl⟩) w
     obtain⟨rfl,rfl⟩:=e1
     simp[Instr.sliceAt,Instr.slice,run_underlying hu,hx,hr]
    case slice e=>
     cases hs:sizeOf' P e with
     | none=>rw[hs]at hd;exact hd.elim
     | some n=>
      rw[hs]at hd
      obtain⟨p,len,cap,hx,hk⟩:=hd
      obtain⟨q,hn,hh⟩:=run_intBetween hk
      obtain⟨m,hm,hl⟩:=run_intBetween hn
      refine⟨_,λw=>run_v _ ?_,hm⟩
      obtain⟨l1,h1,hr,e1⟩:=run_sliceBounds (P:=P) (isSlice:=true) (len:=len) (cap:=cap) (low:=lo.map (evalE ρ)) (high:=hi.map (evalE ρ)) (K:=λl h=>l=m/\h=q) (by
       rcases hh with⟨e,rfl⟩ | ⟨k,i,e,a,b,rfl⟩ <;> rcases hl with⟨e',rfl⟩ | ⟨k',i',e',a',b',rfl⟩ <;> rw[e,e']
       ·exact⟨rfl,rfl⟩
       ·exact⟨k',i',rfl,a',b',rfl,rfl⟩
       ·exact⟨k,i,rfl,a,b,rfl,rfl⟩
       ·exact⟨k,i,rfl,a,b,k',i',rfl,a',b',rfl,rfl⟩) w
      obtain⟨rfl,rfl⟩:=e1
      simp[Instr.sliceAt,Instr.slice,run_underlying hu,hx,hr,sizeOf'_run hs]
    case array len e=>
     cases hs:sizeOf' P e with
     | none=>rw[hs]at hd;exact hd.elim
     | some n=>
      rw[hs]at hd
      obtain⟨b,o,hx,hk⟩:=hd
      obtain⟨q,hn,hh⟩:=run_intBetween hk
      obtain⟨m,hm,hl⟩:=run_intBetween hn
      refine⟨_,λw=>run_v _ ?_,hm⟩
      obtain⟨l1,h1,hr,e1⟩:=run_sliceBounds (P:=P) (isSlice:=false) (len:=len) (cap:=len) (low:=lo.map (evalE ρ)) (high:=hi.map (evalE ρ)) (K:=λl h=>l=m/\h=q) (by
       rcases hh with⟨e,rfl⟩ | ⟨k,i,e,a,b,rfl⟩ <;> rcases hl with⟨e',rfl⟩ | ⟨k',i',e',a',b',rfl⟩ <;> rw[e,e']
       ·exact⟨rfl,rfl⟩
       ·exact⟨k',i',rfl,a',b',rfl,rfl⟩
       ·exact⟨k,i,rfl,a,b,rfl,rfl⟩
       ·exact⟨k,i,rfl,a,b,k',i',rfl,a',b',rfl,rfl⟩) w
      obtain⟨rfl,rfl⟩:=e1
      simp[Instr.sliceAt,run_underlying hu,hx,hr,sizeOf'_run hs,Instr.sureAddr,add_lit]
 case build t ps=>
  have hparts:∀(w:World),∀(place:Nat->Option (Nat×Nat)) (z:Array Value),Instr.fill place z ((ps.map λ(i,x)=>(i,evalE ρ x)).toList)=Instr.fill place z (partsOf ρ ps):=λw place z=>by
   unfold partsOf;simp
  cases hu:P.underlying t with
  | none=>rw[hu]at hd;exact hd.elim
  | some d=>
   cases hz:zeroOf P t with
   | none=>rw[hu,hz]at hd;cases d <;> exact hd.elim
   | some z=>
    rw[hu,hz]at hd
    cases d <;> simp only at hd
    case struct fs=>
     cases hp:placesOf P fs.toList with
     | none=>rw[hp]at hd;exact hd.elim
     | some pl=>
      rw[hp]at hd
      obtain⟨cs,hf,hk⟩:=hd
      refine⟨_,λw=>run_v _ ?_,hk⟩
      obtain⟨zv,hzr,hzc⟩:=zeroOf_run hz w
      have hf':Instr.fill (λx=>pl.toArray[x]?) z ((ps.map λ(i,x)=>(i,evalE ρ x)).toList)=some cs:=by
       rw[hparts w,<-hf];congr 1;funext x;simp
      simp only[Instr.build,Sem.run_bind,hzr,Result.andThen,run_underlying hu,run_mapM_fields fs hp,hzc,hf',Sem.run_pure]
    case array len e=>
     cases hs:sizeOf' P e with
     | none=>rw[hs]at hd;exact hd.elim
     | some n=>
      rw[hs]at hd
      obtain⟨cs,hf,hk⟩:=hd
      refine⟨_,λw=>run_v _ ?_,hk⟩
      obtain⟨zv,hzr,hzc⟩:=zeroOf_run hz w
      have hf':Instr.fill (λi=>some (i*n,n)) z ((ps.map λ(i,x)=>(i,evalE ρ x)).toList)=some cs:=by
       rw[hparts w,<-hf]
      simp only[Instr.build,Sem.run_bind,hzr,Result.andThen,run_underlying hu,sizeOf'_run hs,hzc,hf',Sem.run_pure]
 case makeInterface t x=>
  cases hu:P.underlying t with
  | none=>rw[hu]at hd;exact hd.elim
  | some d=>
   rw[hu]at hd
   cases d <;> simp only at hd
   all_goals (refine⟨_,λw=>run_v _ ?_,hd⟩;simp[Instr.makeInterface,run_underlying hu])
 case makeFunc f first cap=>
  refine⟨_,λw=>run_v _ ?_,hd⟩
  simp only[Instr.makeFunc,argsOf_eq];rfl
 case typeAssert x xt t ok=>
  cases ok with
  | false=>exact hd.elim
  | true=>
   obtain⟨v,hv,hk⟩:=hd
   exact⟨v,λw=>run_v _ (pureRun_run w _ hv),hk⟩
 case convert src dst' x=>
  cases hs:P.underlying src with
  | none=>rw[hs]at hd;exact hd.elim
  | some d=>
   rw[hs]at hd hc
   cases d
   case int k0=>
    cases ht:P.underlying dst' with
    | none=>rw[ht]at hd;exact hd.elim
    | some d2=>
     rw[ht]at hd
     cases d2
     case int k=>
      obtain⟨k',n,hx,hk⟩:=hd
      refine⟨_,λw=>run_v _ ?_,hk⟩
      simp[convert,run_underlying hs,run_underlying ht,hx,Conv.intToInt]
     case float k=>
      obtain⟨k',n,hx,hk⟩:=hd
      refine⟨_,λw=>run_v _ ?_,hk⟩
      simp[convert,run_underlying hs,run_underlying ht,hx,Conv.intToFloat]
     all_goals exact hd.elim
   case float k0=>
    cases ht:P.underlying dst' with
    | none=>rw[ht]at hd;exact hd.elim
    | some d2=>
     rw[ht]at hd
     cases d2
     case int k=>
      obtain⟨k',bb,n,hx,hn,h1,h2,hk⟩:=hd
      refine⟨_,λw=>run_v _ ?_,hk⟩
      simp[convert,run_underlying hs,run_underlying ht,hx,Conv.floatToInt,hn,h1,h2]
     all_goals exact hd.elim
   case slice=>cases hc
   all_goals exact hd.elim
 case call c=>
  obtain⟨callee,args,argTypes⟩:=c
  cases callee with
  | value f=>
   cases f
   case func f=>cases hq:qf f <;> simp only[hq]at hc <;> cases hc
   all_goals cases hc
  | invoke r m=>cases hc
  | builtin b=>
   cases b
   case len=>
    obtain⟨al⟩:=args
    obtain⟨tl⟩:=argTypes
    simp only at hd
    split at hd
    ·rename_i _ _ x t
     have hgo:∀d,P.underlying t=some d->((∃e,d = .slice e)/\(∃p len cap,evalE ρ x = .slice p len cap/\K (.int .i64 len))\/(d = .string/\∃s,evalE ρ x = .string s/\K (.int .i64 s.size))) ->
       ∃v,Says P ⟨dst,.call ⟨.builtin .len,⟨[x]⟩,⟨[t]⟩⟩,type,pos,after,guard⟩ ρ v/\K v:=by
      intro d hu hh
      rcases hh with⟨⟨e,rfl⟩,p,len,cap,hx,hk⟩ | ⟨rfl,s,hx,hk⟩
      ·refine⟨_,λw=>?_,hk⟩
       simp[execOp,resolve,invoke,builtin,Builtin.len_,run_underlying hu,hx,goInt]
      ·refine⟨_,λw=>?_,hk⟩
       simp[execOp,resolve,invoke,builtin,Builtin.len_,run_underlying hu,hx,goInt]
     cases hu:P.underlying t with
     | none=>rw[hu]at hd;exact hd.elim
     | some d=>
      rw[hu]at hd
      cases d
      case string=>exact hgo _ hu (.inr ⟨rfl,hd⟩)
      case slice e=>exact hgo _ hu (.inl ⟨⟨e,rfl⟩,hd⟩)
      all_goals exact hd.elim
    ·exact hd.elim
   case max=>
    obtain⟨al⟩:=args
    simp only at hd
    split at hd
    ·rename_i _ x y
     obtain⟨k,k',a,b,hx,hy,hk⟩:=hd
     refine⟨_,λw=>?_,hk⟩
     simp[execOp,resolve,invoke,builtin,Builtin.max_,Builtin.max2,hx,hy]
    ·exact hd.elim
   case min=>
    obtain⟨al⟩:=args
    simp only at hd
    split at hd
    ·rename_i _ x y
     obtain⟨k,k',a,b,hx,hy,hk⟩:=hd
     refine⟨_,λw=>?_,hk⟩
     simp[execOp,resolve,invoke,builtin,Builtin.min_,Builtin.min2,hx,hy]
    ·exact hd.elim
   all_goals exact hd.elim
 all_goals (first | exact hd.elim | cases hc)
theorem Says.opY {o:Oper} {v:Value} (hs:Says P o ρ v):OpY P o ρ h v:=OpY.run λw _=>hs w
theorem run_loadBytes {b off len:Nat} {c:Array Value} {e:TypeId} {fr:Nat×Nat} {w:World} {l:List UInt8} (hb:w.heap[b]?=some (.cells c e fr)) (hl:l.length=len) (ht:(c.toList.drop off).take len=byteCells l) :
  (Conv.bytesToString (.slice (some ⟨b,off,none⟩) len len)).run P w = .ok (.string ⟨l.toArray⟩) w:=by
 have h1:=run_loadCells_list (P:=P) w ⟨b,off,none⟩ (byteCells l) (λj v hv=>by
  rw[Addr.add_lit,cell_of hb,<-Array.getElem?_toList]
  rw[<-ht,List.getElem?_take]at hv
  split at hv
  ·rw[List.getElem?_drop]at hv;exact hv
  ·cases hv)
 have h2:(byteCells l).length=len:=by simp[byteCells,hl]
 rw[h2]at h1
 have key:∀(g:Value->ByteArray->Sem (ForInStep ByteArray)),(∀n s,g (.int .u8 n) s=pure (ForInStep.yield (s.push (UInt8.ofNat n.toNat))))->∀(l:List UInt8) (acc:ByteArray),(forIn (byteCells l) acc g).run P w = .ok ⟨acc.data++l.toArray⟩ w:=by
  intro g hg l
  induction l with
  | nil=>intro acc;simp[byteCells]
  | cons x l ih=>
   intro acc
   have:=ih (acc.push (UInt8.ofNat ((x.toNat:Int)).toNat))
   simp only[byteCells,List.map_cons,List.forIn_cons]at this ⊢
   simp only[hg,Sem.run_bind,Sem.run_pure,Result.andThen]
   rw[this]
   simp[ByteArray.push]
 unfold Conv.bytesToString
 simp only[Sem.run_bind,h1,Result.andThen,Sem.run_pure]
 simp
 rw[key _ (λn s=>rfl)]
 simp
theorem run_callFunc {f:FuncId} (hf:Callable P f) (args:Array Value) (w:World):(callFunc f args).run P w = .ok (.enter f args) w:=by
 obtain⟨fn,hf,hb,hn⟩:=hf
 have hn' : fn.name ≠ "runtime.NumGoroutine" := by simpa using hn
 have hb':¬fn.body=none:=by intro h;rw[h]at hb;cases hb
 simp[callFunc,program,Sem.run,hf]
 rw[if_neg hn',if_neg hb']
theorem run_vW (s:Sem Value) {v:Value} {w w':World} (hs:s.run P w = .ok v w'):(do pure (.value (<-s)):Sem Next).run P w = .ok (.value v) w':=by
 rw[Sem.run_bind,hs];rfl
theorem denQ_read {o:Oper} {K:Value->Prop} (hc:clsOf P qf o = .read) (hd:denQ P o ρ h K):∃v,OpY P o ρ h v/\K v:=by
 obtain⟨dst,op,type,pos,after,guard⟩:=o
 cases op <;> simp only[denQ,clsOf]at hd hc
 case slice t x lo hi mx=>cases hc
 case binOp op t x y yt=>split at hc <;> (try split at hc) <;> cases hc
 case lookup t x ix ok=>
  cases hu:P.underlying t with
  | none=>rw[hu]at hd;exact hd.elim
  | some d=>
   rw[hu]at hd
   cases d
   case map kt e=>
    simp only at hd
    cases hk:P.underlying kt with
    | none=>rw[hk]at hd;exact hd.elim
    | some dk=>
     cases hi:P.info? e with
     | none=>rw[hk,hi]at hd;exact hd.elim
     | some i=>
      rw[hk,hi]at hd
      simp only at hd
      cases hz:i.zero with
      | none=>rw[hz]at hd;exact hd.elim
      | some z=>
       rw[hz]at hd
       obtain⟨b,es,clock,r,hm,hb,hkd,hf,hkk⟩:=hd
       refine⟨_,OpY.run λw hw=>run_v _ ?_,hkk⟩
       have hg:(getObj b).run P w = .ok (.map es clock) w:=by
        have:=hw b _ hb
        simp[getObj,Sem.run,this]
       have hck:∀ee nn,(Instr.checkKey ee (nn+1) kt (evalE ρ ix)).run P w = .ok () w:=λee nn=>by
        rw[Instr.checkKey,Sem.run_bind,run_underlying hk,Result.andThen_ok]
        cases dk <;> first | rfl | cases hkd
       have hfk:(Instr.findKey kt (evalE ρ ix) es.toList).run P w = .ok r w:=by
        rw[Instr.findKey,Sem.run_bind,run_underlying hk,Result.andThen_ok,hf];rfl
       have hzv:(zeroValue e).run P w = .ok z w:=by
        simp[zeroValue,typeInfo,hi,hz]
       simp only[Instr.lookup,Sem.run_bind,run_underlying hu,Result.andThen_ok,hm,hg,Sem.run_pure]
       rw[show (10000:Nat)=9999+1 from rfl,hck,Result.andThen_ok,hfk,Result.andThen_ok]
       cases r with
       | none=>cases ok <;> simp[Sem.run_bind,hzv]
       | some iv=>obtain⟨_,v⟩:=iv;cases ok <;> simp
   all_goals exact hd.elim
 case load t x=>
  cases hs:szOf P t with
  | none=>rw[hs]at hd;exact hd.elim
  | some sz=>
   rw[hs]at hd
   obtain⟨b,off,c,e,fr,hx,hb,hk⟩:=hd
   obtain⟨v,hv,hk⟩:=cellsAt_fun hk
   refine⟨v,OpY.run λw hw=>run_v _ ?_,hk⟩
   obtain⟨v',h1,h2⟩:=run_loadVar hs (hw b _ hb) (hv (λu=>u=v) rfl)
   subst h2
   simp only[Instr.loadAt,hx,Instr.sureAddr,Sem.run_bind,Sem.run_pure,Result.andThen,h1]
 case convert src dst' x=>
  cases hs:P.underlying src with
  | none=>rw[hs]at hd;exact hd.elim
  | some d=>
   rw[hs]at hd hc
   cases d
   case slice e=>
    cases ht:P.underlying dst' with
    | none=>rw[ht]at hd;exact hd.elim
    | some d2=>
     rw[ht]at hd
     cases d2
     case string=>
      simp only at hd
      cases he:P.underlying e with
      | none=>rw[he]at hd;exact hd.elim
      | some d3=>
       rw[he]at hd
       cases d3
       case int k=>
        cases k
        case u8=>
         rcases hd with⟨hx,hk⟩ | ⟨b,off,len,cap,c,e',fr,l,hx,hb,hl,ht',hk⟩
         ·refine⟨_,OpY.run λw hw=>run_v _ ?_,hk⟩
          simp[convert,run_underlying hs,run_underlying ht,run_underlying he,hx,Conv.bytesToString]
         ·refine⟨_,OpY.run λw hw=>run_v _ ?_,hk⟩
          have h1:=run_loadBytes (P:=P) (hw b _ hb) hl ht'
          have h2:∀cap',Conv.bytesToString (.slice (some ⟨b,off,none⟩) len cap')=Conv.bytesToString (.slice (some ⟨b,off,none⟩) len len):=λ_=>rfl
          simp only[convert,Sem.run_bind,run_underlying hs,run_underlying ht,Result.andThen,run_underlying he,hx]
          rw[h2,h1]
        all_goals exact hd.elim
       all_goals exact hd.elim
     all_goals exact hd.elim
   all_goals first | exact hd.elim | (cases ht:P.underlying dst' with
    | none=>rw[ht]at hc;cases hc
    | some d2=>rw[ht]at hc;cases d2 <;> cases hc)
 case call c=>
  obtain⟨callee,args,argTypes⟩:=c
  cases callee with
  | value f=>
   cases f
   case func f=>
    obtain⟨v,hq,hk⟩:=hd
    refine⟨v,λw hw=>?_,hk⟩
    obtain⟨hcb,hcall⟩:=hq
    have hrun:(execOp (evalE ρ) ⟨dst,.call ⟨.value (.func f),args,argTypes⟩,type,pos,after,guard⟩).run P w = .ok (.enter f (argsOf ρ args)) w:=by
     have:=run_callFunc hcb (argsOf ρ args) w
     simp only[execOp,resolve,Deferred.ofValue,evalE,invoke,Sem.run_bind,Sem.run_pure,Result.andThen,argsOf_eq]
     simpa using this
    rw[hrun]
    refine⟨rfl,(hcall w hw).mono λe w'' he=>?_⟩
    cases e <;> simp only at he ⊢
    ·obtain⟨h',a,b,c,d⟩:=he
     cases c;subst d
     exact⟨rfl,a,b⟩
    ·obtain⟨h',a,b,c,d⟩:=he
     cases c
   all_goals cases hc
  | invoke r m=>cases hc
  | builtin b=>cases b <;> cases hc
 all_goals (first | exact hd.elim | cases hc)
end
end Go.Pw
set_option linter.unusedSimpArgs false
set_option linter.unusedVariables false
namespace Go.Pw
open Go
section
variable {P:Program} {ρ:Env} {h:PH} {qf:FuncId->Bool}
theorem heap_setCell {w:World} {b o:Nat} {v:Value} {c:Array Value} {e:TypeId} {fr:Nat×Nat} (hb:w.heap[b]?=some (.cells c e fr)) :
  (w.setCell ⟨b,o,none⟩ v).heap[b]?=some (.cells (c.setIfInBounds o v) e fr):=by
 simp[World.setCell,Array.getElem?_modify,hb]
theorem heap_setCell_ne {w:World} {b o x:Nat} {v:Value} (hx:x≠b):(w.setCell ⟨b,o,none⟩ v).heap[x]?=w.heap[x]?:=by
 simp[World.setCell,Array.getElem?_modify,Ne.symm hx]
theorem setCells_spec (b:Nat) {e:TypeId} {fr:Nat×Nat}:∀(vs:List Value) (o:Nat) (w:World) (c:Array Value),w.heap[b]?=some (.cells c e fr) ->
  (w.setCells b o vs).heap[b]?=some (.cells (wr c o vs) e fr)/\(∀x,x≠b->(w.setCells b o vs).heap[x]?=w.heap[x]?)/\(w.setCells b o vs).heap.size=w.heap.size /\
  (w.setCells b o vs).os=w.os/\(w.setCells b o vs).tape=w.tape/\(w.setCells b o vs).output=w.output
 | [],o,w,c,hb=>⟨hb,λ_ _=>rfl,rfl,rfl,rfl,rfl⟩
 | v::r,o,w,c,hb=>by
  obtain⟨h1,h2,h3,h4,h5,h6⟩:=setCells_spec b r (o+1) (w.setCell ⟨b,o,none⟩ v) _ (heap_setCell (o:=o) (v:=v) hb)
  refine⟨h1,λx hx=>(h2 x hx).trans (heap_setCell_ne hx),h3.trans ?_,h4,h5,h6⟩
  simp[World.setCell]
theorem wr_size:∀(vs:List Value) (c:Array Value) (o:Nat),(wr c o vs).size=c.size
 | [],_,_=>rfl
 | v::vs,c,o=>by rw[wr,wr_size vs];simp
theorem wr_getElem:∀(vs:List Value) (c:Array Value) (o j:Nat),(wr c o vs)[j]?=if o<=j/\j<o+vs.length/\j<c.size then vs[j-o]? else c[j]?
 | [],c,o,j=>by rw[if_neg (by simp;omega)];rfl
 | v::vs,c,o,j=>by
  rw[wr,wr_getElem vs]
  simp only[Array.size_setIfInBounds,List.length_cons]
  by_cases h1:o=j
  ·subst h1
   rw[if_neg (by omega)]
   by_cases h2:o<c.size
   ·rw[if_pos ⟨by omega,by omega,h2⟩];simp[h2]
   ·rw[if_neg (by omega)];simp[h2]
  ·rw[Array.getElem?_setIfInBounds_ne h1]
   by_cases h2:o+1<=j/\j<o+1+vs.length/\j<c.size
   ·rw[if_pos h2,if_pos (by omega)]
    have:j-o=(j-(o+1))+1:=by omega
    rw[this,List.getElem?_cons_succ]
   ·rw[if_neg h2,if_neg (by omega)]
theorem wr_behind {c:Array Value} {k:Nat} {vs:List Value} (hk:k+vs.length<=c.size):wr c k vs=(c.toList.take k++vs++c.toList.drop (k+vs.length)).toArray:=by
 apply Array.ext_getElem?
 intro j
 rw[wr_getElem]
 simp only[List.getElem?_toArray]
 by_cases h1:k<=j/\j<k+vs.length/\j<c.size
 ·rw[if_pos h1,List.getElem?_append_left (by simp;omega),List.getElem?_append_right (by simp;omega)]
  congr 1
  simp;omega
 ·rw[if_neg h1]
  by_cases h2:j<k
  ·rw[List.getElem?_append_left (by simp;omega),List.getElem?_append_left (by simp;omega),List.getElem?_take,if_pos h2];simp
  ·have h3:k+vs.length<=j:=by
    rcases Nat.lt_or_ge j (k+vs.length)with h | h
    ·exact absurd ⟨by omega,h,by omega⟩ h1
    ·exact h
   rw[List.getElem?_append_right (by simp;omega),List.getElem?_drop]
   simp
   congr 1
   omega
theorem frozen_of {w:World} {b off n:Nat} {c:Array Value} {e:TypeId} {fr:Nat×Nat} (hb:w.heap[b]?=some (.cells c e fr)) (hf:frOK fr off n) (j:Nat) (hj:j<n):w.frozen? ⟨b,off+j,none⟩=false:=by
 unfold World.frozen?
 rw[hb]
 obtain⟨lo,hi⟩:=fr
 unfold frOK at hf
 simp at hf ⊢
 omega
theorem run_storeCellsAt {w:World} {b off:Nat} {c:Array Value} {e:TypeId} {fr:Nat×Nat} {vs:List Value} (hb:w.heap[b]?=some (.cells c e fr)) (hl:off+vs.length<=c.size) (ho:vs.all Value.oneCell'=true) (hf:frOK fr off vs.length) :
  (storeCells ⟨b,off,none⟩ vs).run P w = .ok () (w.setCells b off vs):=by
 have:=run_storeCells_cells (P:=P) b off vs 0 w (λj hj=>by
  rw[Nat.add_zero,cell_of hb]
  simp;omega) (λj hj=>by rw[Nat.add_zero];exact frozen_of hb hf j hj) (λv hv=>List.all_eq_true.1 ho v hv)
 simpa using this
theorem Holds.set {w w':World} {b:Nat} {o:Obj} (hw:Holds h w) (h1:w'.heap[b]?=some o) (h2:∀x,x≠b->w'.heap[x]?=w.heap[x]?):Holds (ins h b o) w':=λx p hp=>by
 by_cases hx:x=b
 ·subst hx;rw[ins_eq]at hp;injection hp with hp;subst hp;exact h1
 ·rw[ins_ne _ _ hx]at hp;rw[h2 x hx];exact hw x p hp
theorem Framed.set {w w':World} {b:Nat} {o p:Obj} (hb:h b=some o) (h2:∀x,x≠b->w'.heap[x]?=w.heap[x]?) (h3:w'.heap.size=w.heap.size) (h4:w'.os=w.os) (h5:w'.tape=w.tape) (h6:w'.output=w.output):Framed h (ins h b p) w w':=
 ⟨h4,h5,h6,Nat.le_of_eq h3.symm,λx hx hn=>by
  have hxb:x≠b:=λe=>by subst e;rw[hb]at hn;cases hn
  exact⟨by rw[ins_ne _ _ hxb];exact hn,h2 x hxb⟩⟩
theorem heap_push_last (a:Array Obj) (o:Obj):(a.push o)[a.size]?=some o:=by simp
theorem heap_push_ne (a:Array Obj) (o:Obj) {x:Nat} (hx:x≠a.size):(a.push o)[x]?=a[x]?:=by
 rw[Array.getElem?_push];rw[if_neg hx]
theorem Holds.push {w w':World} {o:Obj} (hw:Holds h w) (he:w'.heap=w.heap.push o):Holds (ins h w.heap.size o) w':=λx p hp=>by
 rw[he]
 by_cases hx:x=w.heap.size
 ·subst hx;rw[ins_eq]at hp;injection hp with hp;subst hp;exact heap_push_last _ _
 ·rw[ins_ne _ _ hx]at hp;rw[heap_push_ne _ _ hx];exact hw x p hp
theorem Framed.push {w w':World} {o:Obj} (he:w'.heap=w.heap.push o) (h4:w'.os=w.os) (h5:w'.tape=w.tape) (h6:w'.output=w.output):Framed h (ins h w.heap.size o) w w':=
 ⟨h4,h5,h6,by rw[he];simp,λx hx hn=>by
  have hxb:x≠w.heap.size:=by omega
  exact⟨by rw[ins_ne _ _ hxb];exact hn,by rw[he,heap_push_ne _ _ hxb]⟩⟩
theorem heap_da (w:World) {X Y:Array Value} (e:TypeId) (hx:X.toList=Y.toList):(w.drew.alloc (.cells X e)).heap=w.heap.push (.cells Y e):=by
 have:X=Y:=Array.ext' hx
 subst this
 rfl
theorem range0 (f:Nat->Value):(Array.range 0).map f=#[]:=by apply Array.ext';simp
theorem mul_rep (z:Array Value) (n m:Nat) (hz:z.size=n):(Builtin.zeroCells z m).toList.length=m*n:=by
 rw[Array.length_toList,size_zeroCells,hz]
theorem append_sound {t tx ty e:TypeId} {i:TypeInfo} {z:Value} {d:TypeDesc} (ht:P.underlying t=some (.slice e)) (hi:P.info? e=some i) (hz:i.zero=some z)
  (htx:P.underlying tx=some d) (hd:∀k,d≠.int k) (hs0:0<i.size) (hb0:0<i.bytes) (hzs:z.cells.size=i.size) {str:Bool} (hstr:(str=true/\d = .string)\/(str=false/\∃e',d = .slice e'))
  {s x:Value} {K:Value->PH->Prop} (hv:vAppend str e i.size i.bytes s x h K) {w:World} (hw:Holds h w) :
  (∃v' w',(Builtin.append_ #[t,tx] ty #[s,x]).run P w = .ok v' w'/\∃h',Holds h' w'/\Framed h h' w w'/\K v' h') \/
  False:=by
 -- the source
 have src:∃n news,(Src P i.size tx x n news w)/\Builtin.lenOf x=Sem.pure n /\
   (∀sLen base,(∀a,base=some a->Room.holdsV w a (sLen*i.size)=true/\w.frozen? (a.add (sLen/2*i.size))=false/\∀b off l c,x = .slice (some ⟨b,off,none⟩) l c->b≠a.block)->0<n->(Builtin.mayShare i.size sLen n base x).runT P w #[]=(.ok false w,#[])) /\
   ((s = .slice none 0 0/\(n=0->K (.slice none 0 0) h) /\
    (0<n->n*i.bytes<=roomBytes/\∀b cap rest,h b=none->n<=cap->news.length+rest.length=cap*i.size->K (.slice (some ⟨b,0,none⟩) n cap) (ins h b (.cells (news++rest).toArray e)))) \/
   (∃g len cap c,s = .slice (some ⟨g,0,none⟩) len cap/\h g=some (.cells c e (0,0))/\c.size=cap*i.size/\len<=cap/\(len+n)*i.bytes<=roomBytes/\(∀b off l c,x = .slice (some ⟨b,off,none⟩) l c->b≠g) /\
    ∀b cap' rest,(b=g\/h b=none)->len+n<=cap'->(c.toList.take (len*i.size)++news).length+rest.length=cap'*i.size ->
     K (.slice (some ⟨b,0,none⟩) (len+n) cap') (ins (dropB h g) b (.cells (c.toList.take (len*i.size)++news++rest).toArray e))) \/
   vAppIn e i.size i.bytes n news s h K):=by
  rcases hv with⟨hst,sv,rfl,h1,hk⟩ | ⟨hst,c,rfl,hk⟩ | ⟨hst,b,off,len,cap,c,e',fr,rfl,hb,hl,hone,hk⟩
  ·have hds:d = .string:=by rcases hstr with⟨_,h⟩ | ⟨h,_⟩;exact h;rw[hst]at h;cases h
   subst hds
   refine⟨sv.size,Go.byteCells sv,by rw[h1];exact Src.ofString w htx sv,rfl,λsLen base ha _=>?_,hk⟩
   exact runT_mayShare_string w i.size sLen sv.size base sv λa hba=>⟨(ha a hba).1,(ha a hba).2.1⟩
  ·have hds:∃e',d = .slice e':=by rcases hstr with⟨h,_⟩ | ⟨_,h⟩;rw[hst]at h;cases h;exact h
   obtain⟨e',rfl⟩:=hds
   exact⟨0,[],Src.ofNil w htx c,rfl,λ_ _ _ h0=>absurd h0 (by omega),hk⟩
  ·have hds:∃e',d = .slice e':=by rcases hstr with⟨h,_⟩ | ⟨_,h⟩;rw[hst]at h;cases h;exact h
   obtain⟨e'',rfl⟩:=hds
   have hbw:=hw b _ hb
   have hcell:∀j u,((c.toList.drop off).take (len*i.size))[j]?=some u->w.cell? ((⟨b,off,none⟩:Addr).add j)=some u:=λj u hu=>by
    rw[add_lit,cell_of hbw,<-Array.getElem?_toList]
    rw[List.getElem?_take]at hu
    split at hu
    ·rw[List.getElem?_drop]at hu;exact hu
    ·cases hu
   refine⟨len,_,Src.ofSlice w htx ⟨b,off,none⟩ len cap _ (by simp;omega) hcell hone,rfl,λsLen base ha h0=>?_,hk⟩
   have hx:Room.holdsV w ⟨b,off,none⟩ (len*i.size)=true:=by
    simp[Room.holdsV,World.shape?,hbw];omega
   cases base with
   | none=>
    simp[-Sem.runT_eq,Builtin.mayShare,Room.Sem.bind_def,Room.Sem.runT_bind,Room.runT_holdsCells',Room.Sem.runT_pure',hx]
   | some a=>
    obtain⟨a1,a2,a3⟩:=ha a rfl
    have hne:=a3 b off len cap rfl
    simp[-Sem.runT_eq,Builtin.mayShare,Room.Sem.bind_def,frozen,Sem.bind,Sem.runT,Room.Sem.runT_bind,Room.runT_holdsCells',Room.Sem.runT_pure',a1,hx,a2,Ne.symm hne]
 obtain⟨n,news,hsrc,hlen,hshare,hk⟩:=src
 rcases hk with⟨rfl,hk0,hk⟩ | ⟨g,len,cap,c,rfl,hg,hcs,hle,hcap,hap,hk⟩ | ⟨g,off,len,cap,c,e',fr,rfl,hin⟩
 rotate_left 2
 ·-- in place,or away from a row of another one's
  left
  rcases hin with⟨hroom,hg,hfit,hfr,hk⟩ | ⟨hroom,hB,hcn,hg,hlsz,hone,hk⟩
  ·have hgw:=hw g _ hg
   have hr:=run_append_room_src (P:=P) w t tx ty e i ht hi g off len cap x n news hsrc hroom (λj hj=>by
    rw[cell_of hgw];simp;omega) (λj hj=>frozen_of hgw hfr j hj)
   obtain⟨s1,s2,s3,s4,s5,s6⟩:=setCells_spec g news (off+len*i.size) w c hgw
   exact⟨_,_,hr,_,hw.set s1 s2,Framed.set hg s2 s3 s4 s5 s6,hk⟩
  ·have hgw:=hw g _ hg
   have hold:(Builtin.firstCells i.size len (.slice (some ⟨g,off,none⟩) len cap)).run P w.drew = .ok ((c.toList.drop off).take (len*i.size)).toArray w.drew:=
    run_firstCells_some w.drew i.size len ⟨g,off,none⟩ len cap _ (by simp;omega) (λj u hu=>by
     rw[add_lit]
     have:w.drew.heap[g]?=some (.cells c e' (0,0)):=hgw
     rw[cell_of this,<-Array.getElem?_toList]
     rw[List.getElem?_take]at hu
     split at hu
     ·rw[List.getElem?_drop]at hu;exact hu
     ·cases hu)
   have hB':(len+n)*i.bytes<=140737488355328:=by simpa [roomBytes]using hB
   have hnb:(len+n)<=(len+n)*i.bytes:=Nat.le_mul_of_pos_right _ hb0
   have hfit:Builtin.nextslicecap (len+n) cap*i.bytes<=281474976710656:=growslice_fits (by omega) hB'
   have hr:=run_append_grow_src (P:=P) w t tx ty e i z ht hi hz (some ⟨g,off,none⟩) len cap _ hold x n news hsrc (by omega) (by omega) hfit
   have hge:=grownCap_ge w (len+n) cap e
   refine⟨_,_,hr,_,Holds.push hw (heap_da w e (by simp)),Framed.push (heap_da w e (by simp)) rfl rfl rfl,hk w.heap.size (grownCap w (len+n) cap e) (Builtin.zeroCells z.cells (grownCap w (len+n) cap e-(len+n))).toList (hw.none (Nat.le_refl _)) hge ?_⟩
   rw[mul_rep _ _ _ hzs,List.length_append,hsrc.newsLen]
   have:((c.toList.drop off).take (len*i.size)).length=len*i.size:=by simp;omega
   rw[this,<-Nat.add_mul,<-Nat.add_mul];congr 1;omega
 ·-- onto nil
  have hold:(Builtin.firstCells i.size 0 (.slice none 0 0)).run P w.drew = .ok ([]:List Value).toArray w.drew:=run_firstCells_none w.drew i.size 0 0 0
  by_cases hn0:n=0
  ·subst hn0
   left
   refine⟨.slice none 0 0,w,?_,h,hw,Framed.refl h w,hk0 rfl⟩
   have hnl:news = []:=List.eq_nil_of_length_eq_zero (by have:=hsrc.newsLen;simpa using this)
   rcases hsrc.kind with⟨e',hkd⟩ | hkd <;> simp[Builtin.append_,run_underlying ht,run_underlying hkd,Go.sizeOf,typeInfo,hi,hsrc.len,hsrc.cells]
  ·obtain⟨hB0,hk⟩:=hk (by omega)
   have elder:∀(Post:Value->World->Prop),((0+n)*i.bytes<=140737488355328->∃v' w',(Builtin.append_ #[t,tx] ty #[.slice none 0 0,x]).run P w = .ok v' w'/\Post v' w')->∃v' w',(Builtin.append_ #[t,tx] ty #[.slice none 0 0,x]).run P w = .ok v' w'/\Post v' w':=λ_ hh=>hh (by simpa [roomBytes]using hB0)
   rcases elder
    (λv' w'=>∃b cap rest,v' = .slice (some ⟨b,0,none⟩) n cap/\h b=none/\n<=cap/\news.length+rest.length=cap*i.size/\Holds (ins h b (.cells (news++rest).toArray e)) w'/\Framed h (ins h b (.cells (news++rest).toArray e)) w w')
    (λhB=>by
     have hnb:n<=n*i.bytes:=Nat.le_mul_of_pos_right _ hb0
     simp only[Nat.zero_add]at hB
     have hr:=run_append_grow_src (P:=P) w t tx ty e i z ht hi hz none 0 0 [] hold x n news hsrc (by omega) (by omega) (by rw[nextslicecap_zero (by omega)];simp only[Nat.zero_add];omega)
     refine⟨_,_,hr,w.heap.size,grownCap w (0+n) 0 e,(Builtin.zeroCells z.cells (grownCap w (0+n) 0 e-(0+n))).toList,by simp,hw.none (Nat.le_refl _),by simpa using grownCap_ge w (0+n) 0 e,?_,?_,?_⟩
     ·have hge:=grownCap_ge w (0+n) 0 e
      rw[mul_rep _ _ _ hzs,hsrc.newsLen]
      rw[<-Nat.add_mul];congr 1;omega
     ·exact Holds.push hw (heap_da w e (by simp))
     ·exact Framed.push (heap_da w e (by simp)) rfl rfl rfl)with⟨v',w',hr,b,cap,rest,rfl,hb,hnc,hlen2,hh,hf⟩
   left
   exact⟨_,w',hr,_,hh,hf,hk b cap rest hb hnc hlen2⟩
 ·-- onto a row of one's own
  have hgw:=hw g _ hg
  have hlsz:len*i.size<=c.size:=by rw[hcs];exact Nat.mul_le_mul_right _ hle
  have hold:(Builtin.firstCells i.size len (.slice (some ⟨g,0,none⟩) len cap)).run P w.drew = .ok (c.toList.take (len*i.size)).toArray w.drew:=
   run_firstCells_some w.drew i.size len ⟨g,0,none⟩ len cap _ (by simp;omega) (λj u hu=>by
    rw[add_lit]
    have:w.drew.heap[g]?=some (.cells c e (0,0)):=hgw
    rw[cell_of this,<-Array.getElem?_toList]
    rw[List.getElem?_take]at hu
    split at hu
    ·simpa using hu
    ·cases hu)
  have hsh:0<n->(Builtin.mayShare i.size len n (some ⟨g,0,none⟩) x).runT P w #[]=(.ok false w,#[]):=hshare len (some ⟨g,0,none⟩) (λa ha=>by
   cases ha
   refine⟨by simp[Room.holdsV,World.shape?,hgw,hlsz],?_,λb off l c' hx=>hap b off l c' hx⟩
   rw[add_lit];unfold World.frozen?;simp[hgw])
  have elder:∀(Post:Value->World->Prop),((len+n)*i.bytes<=140737488355328->∃v' w',(Builtin.append_ #[t,tx] ty #[.slice (some ⟨g,0,none⟩) len cap,x]).run P w = .ok v' w'/\Post v' w')->∃v' w',(Builtin.append_ #[t,tx] ty #[.slice (some ⟨g,0,none⟩) len cap,x]).run P w = .ok v' w'/\Post v' w':=λ_ hh=>hh (by simpa [roomBytes]using hcap)
  rcases elder
    (λv' w'=>∃b cap' rest,v' = .slice (some ⟨b,0,none⟩) (len+n) cap'/\(b=g\/h b=none)/\len+n<=cap'/\(c.toList.take (len*i.size)++news).length+rest.length=cap'*i.size /\
     Holds (ins (dropB h g) b (.cells (c.toList.take (len*i.size)++news++rest).toArray e)) w'/\Framed h (ins (dropB h g) b (.cells (c.toList.take (len*i.size)++news++rest).toArray e)) w w')
    (λhB=>by
     have drop:∀(w':World) (b:Nat) (o:Obj),Holds (ins h b o) w'->Holds (ins (dropB h g) b o) w':=λw' b o hh x p hp=>by
      refine hh x p ?_
      by_cases hx:x=b
      ·subst hx;rw[ins_eq]at hp ⊢;exact hp
      ·rw[ins_ne _ _ hx]at hp ⊢
       unfold dropB at hp
       cases hq:Nat.beq x g <;> rw[hq]at hp
       ·exact hp
       ·cases hp
     have fdrop:∀(w':World) (b:Nat) (o:Obj),Framed h (ins h b o) w w'->Framed h (ins (dropB h g) b o) w w':=λw' b o hf=>
      ⟨hf.os,hf.tape,hf.output,hf.size,λx hx hn=>by
       obtain⟨a1,a2⟩:=hf.keep x hx hn
       refine⟨?_,a2⟩
       by_cases hxb:x=b
       ·subst hxb;rw[ins_eq]at a1;cases a1
       ·rw[ins_ne _ _ hxb]
        unfold dropB
        cases Nat.beq x g
        ·exact hn
        ·rfl⟩
     by_cases hroom:len+n<=cap
     ·have hfit:len*i.size+news.length<=c.size:=by rw[hsrc.newsLen,hcs,<-Nat.add_mul];exact Nat.mul_le_mul_right _ hroom
      have hr:=run_append_room_src (P:=P) w t tx ty e i ht hi g 0 len cap x n news hsrc hroom (λj hj=>by
        rw[show 0+len*i.size+j=(0+len*i.size)+j from rfl,cell_of hgw];simp;omega) (λj hj=>by unfold World.frozen?;simp[hgw])
      simp only[Nat.zero_add]at hr
      obtain⟨s1,s2,s3,s4,s5,s6⟩:=setCells_spec g news (len*i.size) w c hgw
      rw[wr_behind hfit]at s1
      refine⟨_,_,hr,g,cap,c.toList.drop (len*i.size+news.length),rfl,.inl rfl,hroom,?_,drop _ _ _ (hw.set s1 s2),fdrop _ _ _ (Framed.set hg s2 s3 s4 s5 s6)⟩
      simp;omega
     ·have hnb:(len+n)<=(len+n)*i.bytes:=Nat.le_mul_of_pos_right _ hb0
      have hfit:Builtin.nextslicecap (len+n) cap*i.bytes<=281474976710656:=growslice_fits (by omega) hB
      have hr:=run_append_grow_src (P:=P) w t tx ty e i z ht hi hz (some ⟨g,0,none⟩) len cap _ hold x n news hsrc (by omega) (by omega) hfit
      have hge:=grownCap_ge w (len+n) cap e
      refine⟨_,_,hr,w.heap.size,grownCap w (len+n) cap e,(Builtin.zeroCells z.cells (grownCap w (len+n) cap e-(len+n))).toList,rfl,.inr (hw.none (Nat.le_refl _)),hge,?_,drop _ _ _ (Holds.push hw ?_),fdrop _ _ _ (Framed.push ?_ rfl rfl rfl)⟩
      ·rw[mul_rep _ _ _ hzs,List.length_append,hsrc.newsLen]
       have:(c.toList.take (len*i.size)).length=len*i.size:=by simp;omega
       rw[this,<-Nat.add_mul,<-Nat.add_mul];congr 1;omega
      ·exact heap_da w e (by simp)
      ·exact heap_da w e (by simp))with⟨v',w',hr,b,cap',rest,rfl,hb,hnc,hlen2,hh,hf⟩
  left
  exact⟨_,w',hr,_,hh,hf,hk b cap' rest hb hnc hlen2⟩
theorem makeS_sound {t e:TypeId} {i:TypeInfo} {z:Value} (ht:P.underlying t=some (.slice e)) (hi:P.info? e=some i) (hz:i.zero=some z) {l c:Value} {K:Value->PH->Prop}
  (hv:vMakeS e i.size i.bytes z.cells l c h K) {w:World} (hw:Holds h w) :
  (∃v' w',(Instr.makeSlice t l c).run P w = .ok v' w'/\∃h',Holds h' w'/\Framed h h' w w'/\K v' h') \/
  False:=by
 obtain⟨k,k',n,m,rfl,rfl,h0,hnm,hb,h62,hk⟩:=hv
 have wl:IntKind.i64.wrap n=n:=by rw[IntKind.wrap_i64];omega
 have wc:IntKind.i64.wrap m=m:=by rw[IntKind.wrap_i64];omega
 have n1:¬m<0:=by omega
 have hb':(i.bytes:Int)*m<=281474976710656:=by simpa using hb
 have n2:¬(281474976710656<(i.bytes:Int)*m):=by omega
 have n3:¬n<0:=by omega
 have n4:¬m<n:=by omega
 have hrun:(Instr.makeSlice t (.int k n) (.int k' m)).run P w = .ok (.slice (some ⟨w.heap.size,0,none⟩) n.toNat m.toNat) (w.alloc (.cells (rep z.cells (m.toNat*i.size)) e)):=by
  by_cases hn0:m.toNat*i.size=0
  ·by_cases hbig:m.toNat*i.bytes>roomBytes <;>
    simp[Instr.makeSlice,run_underlying ht,typeInfo,hi,asInt,asIntOf,wl,wc,n1,n2,n3,n4,Go.sizeOf,askRoom,hbig,mark,hn0,newRow,newObj,rep,Sem.run,range0]
  ·by_cases hbig:m.toNat*i.bytes>roomBytes <;>
    simp[Instr.makeSlice,run_underlying ht,typeInfo,hi,asInt,asIntOf,wl,wc,n1,n2,n3,n4,Go.sizeOf,askRoom,hbig,mark,hn0,newRow,newObj,rep,Sem.run,zeroValue,hz]
 left
 refine⟨_,_,hrun,_,Holds.push hw ?_,Framed.push ?_ rfl rfl rfl,hk w.heap.size (hw.none (Nat.le_refl _))⟩
 ·rfl
 ·rfl
theorem callV_sound {g:FuncId} {args:Array Value} {K:Value->PH->Prop} {Kp:List PanicEntry->PH->Prop} (hk:ACalls P g args h (AEnd.elim K Kp)) {w:World} (hw:Holds h w) :
  Calls P g args w λe w''=>match e with
   | .returned v=>∃h',Holds h' w''/\Framed h h' w w''/\K v h'
   | .panicked c=>∃h',Holds h' w''/\Framed h h' w w''/\Kp c h'
   | .outgrown=>False:=
 (hk.2 w hw).mono λe w'' he=>by
  cases e <;> simp only at he ⊢ <;> exact he
theorem denL_sound {o:Oper} {K:Value->PH->Prop} {Kp:List PanicEntry->PH->Prop} (hd:denL P o ρ h K Kp):OpL P o ρ h K Kp:=by
 obtain⟨dst,op,type,pos,after,guard⟩:=o
 intro w hw
 cases op <;> simp only[denL]at hd
 case store t a x=>
  cases hs:sizeOf' P t with
  | none=>rw[hs]at hd;exact hd.elim
  | some n=>
   rw[hs]at hd
   obtain⟨b,off,c,e,fr,ha,hb,hn,hl,ho,hf,hk⟩:=hd
   left
   have hbw:=hw b _ hb
   have hlen:(evalE ρ x).cells.toList.length=n:=by simpa using hn
   have hst:=run_storeCellsAt (P:=P) (vs:=(evalE ρ x).cells.toList) hbw (by rw[hlen];exact hl) ho (by rw[hlen];exact hf)
   obtain⟨s1,s2,s3,s4,s5,s6⟩:=setCells_spec b (evalE ρ x).cells.toList off w c hbw
   have hrun:(execOp (evalE ρ) ⟨dst,.store t a x,type,pos,after,guard⟩).run P w = .ok .skip (w.setCells b off (evalE ρ x).cells.toList):=by
    simp only[execOp,Instr.storeAt,ha,Instr.sureAddr,storeVar,Sem.run_bind,Sem.run_pure,Result.andThen,sizeOf'_run hs,hn,ne_eq,not_true_eq_false,if_false,hst]
   rw[hrun]
   exact⟨_,hw.set s1 s2,Framed.set hb s2 s3 s4 s5 s6,hk⟩
 case buildSlice t len ps=>
  cases hu:P.underlying t with
  | none=>rw[hu]at hd;exact hd.elim
  | some d=>
   rw[hu]at hd
   cases d
   case slice e=>
    simp only at hd
    cases hs:sizeOf' P e with
    | none=>rw[hs]at hd;exact hd.elim
    | some n=>
     cases hz:zeroOf P e with
     | none=>rw[hs,hz]at hd;exact hd.elim
     | some z=>
      rw[hs,hz]at hd
      obtain⟨hmax,cs,hf,hk⟩:=hd
      left
      obtain⟨zv,hzr,hzc⟩:=zeroOf_run hz w
      have hparts:∀(place:Nat->Option (Nat×Nat)) (zz:Array Value),Instr.fill place zz ((ps.map λ(i,x)=>(i,evalE ρ x)).toList)=Instr.fill place zz (partsOf ρ ps):=λplace zz=>by
       unfold partsOf;simp
      have hmax':¬(len*n>2^24):=by omega
      have hrun:(Instr.buildSlice t len (ps.map λ(i,x)=>(i,evalE ρ x))).run P w = .ok (.slice (some ⟨w.heap.size,0,none⟩) len len) (w.alloc (.cells cs e)):=by
       have hf':Instr.fill (λi=>some (i*n,n)) (rep z (len*n)) ((ps.map λ(i,x)=>(i,evalE ρ x)).toList)=some cs:=by rw[hparts,hf]
       unfold rep at hf'
       by_cases h0:len*n=0
       ·rw[h0,range0]at hf'
        have hmax0:¬(0>2^24):=by omega
        simp[Instr.buildSlice,run_underlying hu,Result.andThen,sizeOf'_run hs,h0,range0]
        simp only[Array.toList_map]at hf'
        rw[hf']
        simp[newRow,newObj,Sem.run]
       ·simp only[Instr.buildSlice,Sem.run_bind,run_underlying hu,Result.andThen,sizeOf'_run hs,hmax',if_false,h0,hzr,Sem.run_pure,hzc,hf']
        simp[newRow,newObj,Sem.run]
      have hx:(execOp (evalE ρ) ⟨dst,.buildSlice t len ps,type,pos,after,guard⟩).run P w = .ok (.value (.slice (some ⟨w.heap.size,0,none⟩) len len)) (w.alloc (.cells cs e)):=run_vW _ hrun
      rw[hx]
      refine⟨_,Holds.push hw ?_,Framed.push ?_ rfl rfl rfl,hk w.heap.size (hw.none (Nat.le_refl _))⟩
      ·rfl
      ·rfl
   all_goals exact hd.elim
 case makeMap t r=>
  cases r with
  | some r=>exact hd.elim
  | none=>
   left
   have hr:(Instr.makeMap t none).run P w = .ok (.map (some w.heap.size)) {w with heap:=w.heap.push (.map #[] 0)}:=by
    simp[Instr.makeMap,newObj,Sem.run]
   have hrun:(execOp (evalE ρ) ⟨dst,.makeMap t none,type,pos,after,guard⟩).run P w = .ok (.value (.map (some w.heap.size))) {w with heap:=w.heap.push (.map #[] 0)}:=run_vW _ hr
   rw[hrun]
   exact⟨_,Holds.push hw rfl,Framed.push rfl rfl rfl rfl,hd w.heap.size (hw.none (Nat.le_refl _))⟩
 case insert t m k v=>
  cases hu:P.underlying t with
  | none=>rw[hu]at hd;exact hd.elim
  | some d=>
   rw[hu]at hd
   cases d
   case map kt e=>
    simp only at hd
    cases hkt:P.underlying kt with
    | none=>rw[hkt]at hd;exact hd.elim
    | some dk=>
     rw[hkt]at hd
     obtain⟨b,es,clock,hm,hb,hkd,hf,hk⟩:=hd
     left
     have hbw:=hw b _ hb
     have hlt:=hw.lt hb
     have hg:(getObj b).run P w = .ok (.map es clock) w:=by simp[getObj,Sem.run,hbw]
     have hck:∀ee nn,(Instr.checkKey ee (nn+1) kt (evalE ρ k)).run P w = .ok () w:=λee nn=>by
      rw[Instr.checkKey,Sem.run_bind,run_underlying hkt,Result.andThen_ok]
      cases dk <;> first | rfl | cases hkd
     have hfk:(Instr.findKey kt (evalE ρ k) es.toList).run P w = .ok none w:=by
      rw[Instr.findKey,Sem.run_bind,run_underlying hkt,Result.andThen_ok,hf];rfl
     have hr:(Instr.mapUpdate t (evalE ρ m) (evalE ρ k) (evalE ρ v)).run P w = .ok () {w with heap:=w.heap.setIfInBounds b (.map (es.push {key:=evalE ρ k,val:=evalE ρ v,born:=clock}) (clock+1))}:=by
      simp only[Instr.mapUpdate,Sem.run_bind,run_underlying hu,Result.andThen_ok,hm,hg]
      rw[show (10000:Nat)=9999+1 from rfl,hck,Result.andThen_ok,hfk,Result.andThen_ok]
      simp[setObj,Sem.run,hbw]
     have hrun:(execOp (evalE ρ) ⟨dst,.insert t m k v,type,pos,after,guard⟩).run P w = .ok .skip {w with heap:=w.heap.setIfInBounds b (.map (es.push {key:=evalE ρ k,val:=evalE ρ v,born:=clock}) (clock+1))}:=by
      show (do (Instr.mapUpdate t (evalE ρ m) (evalE ρ k) (evalE ρ v));pure Next.skip:Sem Next).run P w=_
      rw[Sem.run_bind,hr];rfl
     rw[hrun]
     have h2:∀x,x≠b->({w with heap:=w.heap.setIfInBounds b (.map (es.push {key:=evalE ρ k,val:=evalE ρ v,born:=clock}) (clock+1))}:World).heap[x]?=w.heap[x]?:=λx hx=>by
      show (w.heap.setIfInBounds b _)[x]?=_
      rw[Array.getElem?_setIfInBounds_ne (Ne.symm hx)]
     refine⟨_,hw.set (o:=.map (es.push {key:=evalE ρ k,val:=evalE ρ v,born:=clock}) (clock+1)) ?_ h2,Framed.set hb h2 (by simp) rfl rfl rfl,hk⟩
     show (w.heap.setIfInBounds b _)[b]?=_
     rw[Array.getElem?_setIfInBounds_self_of_lt hlt]
   all_goals exact hd.elim
 case binOp op t x y yt=>
  obtain⟨k,a,b,f,hx,hy,hf,h1,h2⟩:=hd
  left
  have hrun:∃r n,(execOp (evalE ρ) ⟨dst,.binOp op t x y yt,type,pos,after,guard⟩).run P w = .ok (.value (.float k r)) {w with drawn:=n}/\K (.float k r) h:=by
   cases hfr:f k a b with
   | some r=>
    refine⟨r,w.drawn,?_,h1 r hfr⟩
    have hs:(do eqGuard op t x y (evalE ρ x) (evalE ρ y);binOp op t (evalE ρ x) (evalE ρ y):Sem Value).run P w = .ok (.float k r) w:=by
     rw[hx,hy]
     cases op <;> simp only[arithF,Option.some.injEq,reduceCtorEq]at hf <;> subst hf <;> simp only at hfr <;> simp[eqGuard,binOp,Op.floatArith,hfr]
    exact run_v _ hs
   | none=>
    have hs:(do eqGuard op t x y (evalE ρ x) (evalE ρ y);binOp op t (evalE ρ x) (evalE ρ y):Sem Value).run P w=(do pure (.float k (<-choose (.nanBits k a b))):Sem Value).run P w:=by
     rw[hx,hy]
     cases op <;> simp only[arithF,Option.some.injEq,reduceCtorEq]at hf <;> subst hf <;> simp only at hfr <;> simp[eqGuard,binOp,Op.floatArith,hfr]
    have hch:∃r n,(do pure (.float k (<-choose (.nanBits k a b))):Sem Value).run P w = .ok (.float k r) {w with drawn:=n}:=by
     by_cases hq:(Question.nanBits k a b).forced=true
     ·exact⟨0,w.drawn,by simp[choose,Sem.run,hq]⟩
     ·exact⟨_,_,by simp[choose,Sem.run,hq];exact⟨rfl,rfl⟩⟩
    obtain⟨r,n,hr⟩:=hch
    refine⟨r,n,run_vW _ (hs.trans hr),h2 hfr r⟩
  obtain⟨r,n,hr,hk⟩:=hrun
  rw[hr]
  exact⟨h,hw,⟨rfl,rfl,rfl,Nat.le_refl _,λb _ hb=>⟨hb,rfl⟩⟩,hk⟩
 case makeSlice t l c=>
  cases hu:P.underlying t with
  | none=>rw[hu]at hd;exact hd.elim
  | some d=>
   rw[hu]at hd
   cases d
   case slice e=>
    simp only at hd
    cases hi:P.info? e with
    | none=>rw[hi]at hd;exact hd.elim
    | some i=>
     rw[hi]at hd
     simp only at hd
     cases hz:i.zero with
     | none=>rw[hz]at hd;exact hd.elim
     | some z=>
      rw[hz]at hd
      rcases makeS_sound hu hi hz hd hw with⟨v',w',hr,hh⟩ | ⟨h1,h2⟩
      ·left
       have hx:(execOp (evalE ρ) ⟨dst,.makeSlice t l c,type,pos,after,guard⟩).run P w = .ok (.value v') w':=run_vW _ hr
       rw[hx]
       exact hh
   all_goals exact hd.elim
 case panic x=>
  obtain⟨t,v,hx,hk⟩:=hd
  left
  have hrun:(execOp (evalE ρ) ⟨dst,.panic x,type,pos,after,guard⟩).run P w = .halt (.panic (.iface t v)) w:=by
   simp only[execOp,hx,Instr.panic,goPanic,Sem.run_bind]
   rfl
  rw[hrun]
  exact⟨h,hw,Framed.refl h w,hk⟩
 case call c=>
  obtain⟨callee,args,argTypes⟩:=c
  cases callee with
  | invoke r m=>exact hd.elim
  | value f=>
   have hval:∀x:Operand,vCallV P (evalE ρ x) (argsOf ρ args) h K Kp->OpL P ⟨dst,.call ⟨.value x,args,argTypes⟩,type,pos,after,guard⟩ ρ h K Kp:=by
    intro x hd w hw
    obtain⟨g,first,cap,hx,hk⟩:=hd
    left
    have hrun:(execOp (evalE ρ) ⟨dst,.call ⟨.value x,args,argTypes⟩,type,pos,after,guard⟩).run P w = .ok (.enter g (first++argsOf ρ args++cap)) w:=by
     have:=run_callFunc hk.1 (first++argsOf ρ args++cap) w
     simp only[execOp,resolve,hx,Deferred.ofValue,invoke,Sem.run_bind,Sem.run_pure,Result.andThen,argsOf_eq]
     exact this
    rw[hrun]
    exact⟨rfl,callV_sound hk hw⟩
   cases f with
   | func f=>
    simp only at hd
    cases hx:extOf P f with
    | false=>
     rw[hx]at hd
     refine hval (.func f) ⟨f,#[],#[],rfl,?_⟩ w hw
     simpa [vCall]using hd
    | true=>
     rw[hx]at hd
     left
     obtain⟨v,n,hr,hk⟩:=hd w hw
     have hrun:(execOp (evalE ρ) ⟨dst,.call ⟨.value (.func f),args,argTypes⟩,type,pos,after,guard⟩).run P w = .ok (.value v) {w with drawn:=n}:=by
      simp only[execOp,resolve,Deferred.ofValue,evalE,invoke,Sem.run_bind,Sem.run_pure,Result.andThen,argsOf_eq]
      simpa using hr
     rw[hrun]
     exact⟨h,hw,⟨rfl,rfl,rfl,Nat.le_refl _,λb _ hb=>⟨hb,rfl⟩⟩,hk⟩
   | tmp t=>exact hval _ hd w hw
   | const v=>exact hval _ hd w hw
   | global g=>exact hval _ hd w hw
  | builtin b=>
   cases b
   case clear=>
    obtain⟨al⟩:=args
    obtain⟨tl⟩:=argTypes
    simp only at hd
    split at hd
    ·rename_i _ _ x t
     cases hu:P.underlying t with
     | none=>rw[hu]at hd;exact hd.elim
     | some d=>
      rw[hu]at hd
      cases d
      case slice e=>
       simp only at hd
       cases hz:zeroOf P e with
       | none=>rw[hz]at hd;exact hd.elim
       | some z=>
        rw[hz]at hd
        left
        obtain⟨zv,hzr,hzc⟩:=zeroOf_run hz w
        have heq:execOp (evalE ρ) ⟨dst,.call ⟨.builtin .clear,⟨[x]⟩,⟨[t]⟩⟩,type,pos,after,guard⟩=(Builtin.clear_ #[t] type #[evalE ρ x]).bind (λv=>Sem.pure (Next.value v)):=by
         unfold execOp
         simp only[resolve,invoke,builtin,List.map_toArray,List.map_cons,List.map_nil]
         rfl
        rcases hd with⟨p,cap,hx,hk⟩ | ⟨b,off,n,cap,c,e',fr,hx,h0,hb,hl,hf,ho,hk⟩
        ·have hr:(Builtin.clear_ #[t] type #[evalE ρ x]).run P w = .ok (.tuple #[]) w:=by
          rw[hx]
          cases p <;> simp[Builtin.clear_,run_underlying hu]
         rw[heq]
         rw[show (Sem.run P ((Builtin.clear_ #[t] type #[evalE ρ x]).bind (λv=>Sem.pure (Next.value v))) w) = .ok (.value (.tuple #[])) w from run_vW _ hr]
         exact⟨h,hw,Framed.refl _ _,hk⟩
        ·have hbw:=hw b _ hb
         have hzz:(Builtin.zeroCells zv.cells n)=rep z (n*z.size):=by rw[hzc];rfl
         have hlen:(rep z (n*z.size)).toList.length=n*z.size:=by simp[rep]
         have hone:(rep z (n*z.size)).toList.all Value.oneCell'=true:=by
          rw[List.all_eq_true]
          intro v hv
          simp only[rep,Array.toList_map,List.mem_map]at hv
          obtain⟨i,hi,rfl⟩:=hv
          have hi':i<n*z.size:=by simpa using hi
          have hzp:0<z.size:=by
           rcases Nat.eq_zero_or_pos z.size with h | h
           ·rw[h]at hi';omega
           ·exact h
          have:=Nat.mod_lt i hzp
          rw[getElem!_pos z (i%z.size) this]
          exact ho _ (by simp)
         have hst:=run_storeCellsAt (P:=P) (vs:=(rep z (n*z.size)).toList) hbw (by rw[hlen];exact hl) hone (by rw[hlen];exact hf)
         obtain⟨s1,s2,s3,s4,s5,s6⟩:=setCells_spec b (rep z (n*z.size)).toList off w c hbw
         have hr:(Builtin.clear_ #[t] type #[evalE ρ x]).run P w = .ok (.tuple #[]) (w.setCells b off (rep z (n*z.size)).toList):=by
          rw[hx]
          obtain⟨n',rfl⟩:∃n',n=n'+1:=⟨n-1,by omega⟩
          simp only[Builtin.clear_]
          simp[run_underlying hu,hzr,hzz,hst,Result.andThen]
         rw[heq]
         rw[show (Sem.run P ((Builtin.clear_ #[t] type #[evalE ρ x]).bind (λv=>Sem.pure (Next.value v))) w) = .ok (.value (.tuple #[])) _ from run_vW _ hr]
         exact⟨_,hw.set s1 s2,Framed.set hb s2 s3 s4 s5 s6,hk⟩
      all_goals exact hd.elim
    ·exact hd.elim
   case append=>
    obtain⟨al⟩:=args
    obtain⟨tl⟩:=argTypes
    simp only at hd
    split at hd
    ·rename_i _ _ s x t tx
     cases hu:P.underlying t with
     | none=>rw[hu]at hd;exact hd.elim
     | some d=>
      rw[hu]at hd
      cases d
      case slice e=>
       simp only at hd
       cases hi:P.info? e with
       | none=>rw[hi]at hd;exact hd.elim
       | some i=>
        rw[hi]at hd
        simp only at hd
        cases hz:i.zero with
        | none=>rw[hz]at hd;exact hd.elim
        | some z=>
         rw[hz]at hd
         obtain⟨hs0,hb0,hzs,hd⟩:=hd
         have fin:(∃v' w',(Builtin.append_ #[t,tx] type #[evalE ρ s,evalE ρ x]).run P w = .ok v' w'/\∃h',Holds h' w'/\Framed h h' w w'/\K v' h') \/
           False:=by
          cases htx:P.underlying tx with
          | none=>rw[htx]at hd;exact hd.elim
          | some d2=>
           rw[htx]at hd
           cases d2
           case string=>exact append_sound hu hi hz htx (λk h=>by cases h) hs0 hb0 hzs (.inl ⟨rfl,rfl⟩) hd hw
           case slice e2=>exact append_sound hu hi hz htx (λk h=>by cases h) hs0 hb0 hzs (.inr ⟨rfl,e2,rfl⟩) hd hw
           all_goals exact hd.elim
         have heq:execOp (evalE ρ) ⟨dst,.call ⟨.builtin .append,⟨[s,x]⟩,⟨[t,tx]⟩⟩,type,pos,after,guard⟩=(Builtin.append_ #[t,tx] type #[evalE ρ s,evalE ρ x]).bind (λv=>Sem.pure (Next.value v)):=by
          unfold execOp
          simp only[resolve,invoke,builtin,List.map_toArray,List.map_cons,List.map_nil]
          rfl
         rcases fin with⟨v',w',hr,hh⟩ | ⟨h1,h2⟩
         ·left
          have hx:(execOp (evalE ρ) ⟨dst,.call ⟨.builtin .append,⟨[s,x]⟩,⟨[t,tx]⟩⟩,type,pos,after,guard⟩).run P w = .ok (.value v') w':=by
           rw[heq];exact run_vW _ hr
          rw[hx]
          exact hh
      all_goals exact hd.elim
    ·exact hd.elim
   all_goals exact hd.elim
 all_goals exact hd.elim
end
section
variable {P:Program} {qf:FuncId->Bool} {ρ:Env} {h:PH}
theorem denA_sound {o:Oper} {K:Value->PH->Prop} (hc:clsOf P qf o = .alloc) (hd:denA P o ρ h K):∃obj mk,OpA P o ρ obj mk/\∀b,h b=none->K (mk b) (ins h b obj):=by
 obtain⟨dst,op,type,pos,after,guard⟩:=o
 cases op <;> simp only[denA,clsOf]at hd hc
 case alloc e=>
  cases hz:zeroOf P e with
  | none=>rw[hz]at hd;exact hd.elim
  | some z=>
   rw[hz]at hd
   refine⟨.cells z e,λb=>.pointer (some ⟨b,0,none⟩),λw=>run_vW _ ?_,hd⟩
   obtain⟨zv,hzr,hzc⟩:=zeroOf_run hz w
   simp[Instr.alloc,hzr,newVar,newRow,newObj,Sem.run,hzc]
 case box e x=>
  refine⟨.cells (evalE ρ x).cells e,λb=>.pointer (some ⟨b,0,none⟩),λw=>run_vW _ ?_,hd⟩
  simp[Instr.box,newVar,newRow,newObj,Sem.run]
 case buildSlice t len ps=>
  cases hu:P.underlying t with
  | none=>rw[hu]at hd;exact hd.elim
  | some d=>
   rw[hu]at hd
   cases d
   case slice e=>
    simp only at hd
    cases hs:sizeOf' P e with
    | none=>rw[hs]at hd;exact hd.elim
    | some n=>
     cases hz:zeroOf P e with
     | none=>rw[hs,hz]at hd;exact hd.elim
     | some z=>
      rw[hs,hz]at hd
      obtain⟨hmax,cs,hf,hk⟩:=hd
      refine⟨.cells cs e,λb=>.slice (some ⟨b,0,none⟩) len len,λw=>?_,hk⟩
      obtain⟨zv,hzr,hzc⟩:=zeroOf_run hz w
      have hparts:∀(place:Nat->Option (Nat×Nat)) (zz:Array Value),Instr.fill place zz ((ps.map λ(i,x)=>(i,evalE ρ x)).toList)=Instr.fill place zz (partsOf ρ ps):=λplace zz=>by
       unfold partsOf;simp
      have hmax':¬(len*n>2^24):=by omega
      have hrun:(Instr.buildSlice t len (ps.map λ(i,x)=>(i,evalE ρ x))).run P w = .ok (.slice (some ⟨w.heap.size,0,none⟩) len len) (w.alloc (.cells cs e)):=by
       have hf':Instr.fill (λi=>some (i*n,n)) (rep z (len*n)) ((ps.map λ(i,x)=>(i,evalE ρ x)).toList)=some cs:=by rw[hparts,hf]
       unfold rep at hf'
       by_cases h0:len*n=0
       ·rw[h0,range0]at hf'
        have hmax0:¬(0>2^24):=by omega
        simp[Instr.buildSlice,run_underlying hu,Result.andThen,sizeOf'_run hs,h0,range0]
        simp only[Array.toList_map]at hf'
        rw[hf']
        simp[newRow,newObj,Sem.run]
       ·simp only[Instr.buildSlice,Sem.run_bind,run_underlying hu,Result.andThen,sizeOf'_run hs,hmax',if_false,h0,hzr,Sem.run_pure,hzc,hf']
        simp[newRow,newObj,Sem.run]
      exact run_vW _ hrun
   all_goals exact hd.elim
 all_goals (first | exact hd.elim | cases hc)
theorem alloc_total {o:Oper} (hc:clsOf P qf o = .alloc) (hz:∀e,o.op = .alloc e->(zeroOf P e).isSome=true) (hb:∀t n ps,o.op≠.buildSlice t n ps) (ρ:Env):∃obj mk,OpA P o ρ obj mk:=by
 have:denA P o ρ (λ_=>none) (λ_ _=>True):=by
  obtain⟨dst,op,type,pos,after,guard⟩:=o
  cases op <;> simp only[denA,clsOf]at hc ⊢
  case alloc e=>
   have:=hz e rfl
   cases h:zeroOf P e with
   | none=>rw[h]at this;cases this
   | some z=>exact λ_ _=>trivial
  case box e x=>exact λ_ _=>trivial
  case buildSlice t n ps=>exact absurd rfl (hb t n ps)
  case binOp op t x y yt=>split at hc <;> (try split at hc) <;> cases hc
  case convert src dst' x=>split at hc <;> cases hc
  case call c=>
   obtain⟨callee,args,argTypes⟩:=c
   cases callee with
   | value f=>cases f with
    | func f=>cases hq:qf f <;> simp only[hq]at hc <;> cases hc
    | _=>cases hc
   | invoke r m=>cases hc
   | builtin b=>cases b <;> cases hc
  all_goals cases hc
 obtain⟨obj,mk,h,_⟩:=denA_sound hc this
 exact⟨obj,mk,h⟩
end
end Go.Pw
set_option linter.unusedSimpArgs false
set_option linter.unusedVariables false
namespace Go.Pw
open Go
section
variable (P:Program) (qf:FuncId->Bool)
def denOp (o:Oper) (ρ:Env) (h:PH) (K:Value->PH->Prop) (Kp:List PanicEntry->PH->Prop):Prop:=
 match clsOf P qf o with
 | .pure=>denQ P o ρ h (λv=>K v h)
 | .read=>denQ P o ρ h (λv=>K v h)
 | .alloc=>denA P o ρ h K
 | .loud=>denL P o ρ h K Kp
def yieldedL (l:List Oper) (ρ:Env) (j:Nat):Option Bool:=
 match (l[j]?).bind (·.dst)with
 | some t=>boolOf (ρ t)
 | none=>none
def isB (o:Oper):Bool:=match o.op with | .buildSlice ..=>true | _=>false
def reYs (l:List Oper) (ρ:Env) (h:PH):List Nat->Prop->Prop
 | [],X=>X
 | q::qs,X=>match l[q]? with
  | some o=>match isB o with
   | true=>reYs l ρ h qs X
   | false=>(match o.guard with
    | none=>denQ P o ρ h (λv=>match o.dst with | some d=>ρ d=v | none=>True)
    | some (j,w)=>gd (yieldedL l ρ j) w (denQ P o ρ h (λv=>match o.dst with | some d=>ρ d=v | none=>True)))/\reYs l ρ h qs X
  | none=>reYs l ρ h qs X
def preF (l:List Oper) (ρ:Env):List Nat->Prop->Prop
 | [],X=>X
 | q::qs,X=>match l[q]? with
  | some o=>match isB o with
   | true=>(match o.guard with
    | none=>denA P o ρ (λ_=>none) (λ_ _=>True)
    | some (j,w)=>gd (yieldedL l ρ j) w (denA P o ρ (λ_=>none) (λ_ _=>True)))/\preF l ρ qs X
   | false=>preF l ρ qs X
  | none=>preF l ρ qs X
def denC (l:List Oper) (Q:Env->PH->Prop) (Kp:List PanicEntry->PH->Prop):List (Nat×List Nat)->Env->PH->Prop
 | [],ρ,h=>Q ρ h
 | (i,qs)::rest,ρ,h=>match l[i]? with
  | none=>False
  | some o=>preF P l ρ qs (match o.guard with
   | none=>denOp P qf o ρ h (λv h'=>reYs P l ρ h' qs (denC l Q Kp rest (upd ρ o.dst v) h')) Kp
   | some (j,w)=>gq (yieldedL l ρ j) w (λK=>denOp P qf o ρ h K Kp) (λv h'=>reYs P l ρ h' qs (denC l Q Kp rest (upd ρ o.dst v) h')) h)
def seqGo:Nat->Nat->List (Nat×List Nat)
 | 0,_=>[]
 | n+1,i=>(i,[])::seqGo n (i+1)
def LoopW (B:(Exit->Env->PH->Prop)->Env->PH->Prop) (Q:Exit->Env->PH->Prop) (ρ:Env) (h:PH):Prop:=
 ∃(I:Nat->Env->PH->Prop) (n:Nat),I n ρ h/\∀n ρ h,I n ρ h->B (λe ρ' h'=>match e with
  | .normal=>∃m,m<n/\I m ρ' h'
  | e=>Q e ρ' h') ρ h
abbrev Loops:=Code->(Exit->Env->PH->Prop)->Env->PH->Prop
def den (ords:Nat->List (Nat×List Nat)) (Kp:List PanicEntry->PH->Prop) (L:Loops):Code->(Exit->Env->PH->Prop)->Env->PH->Prop
 | .skip,Q,ρ,h=>Q .normal ρ h
 | .region id ops draw,Q,ρ,h=>denC P qf ops.toList (Q .normal) Kp (match draw with | true=>ords id | false=>seqGo ops.toList.length 0) ρ h
 | .seq a b,Q,ρ,h=>den ords Kp L a (λe ρ h=>match e with | .normal=>den ords Kp L b Q ρ h | e=>Q e ρ h) ρ h
 | .cond c a b,Q,ρ,h=>dIf (evalE ρ c) (den ords Kp L a Q ρ h) (den ords Kp L b Q ρ h)
 | .block id c,Q,ρ,h=>den ords Kp L c (λe ρ h=>match e with
  | .exit i=>match Nat.beq i id with | true=>Q .normal ρ h | false=>Q (.exit i) ρ h
  | e=>Q e ρ h) ρ h
 | .loop c,Q,ρ,h=>L c Q ρ h
 | .ret,Q,ρ,h=>Q .ret ρ h
 | .exit id,Q,ρ,h=>Q (.exit id) ρ h
 | _,_,_,_=>False
def loopsOf:Code->List Code
 | .seq a b=>loopsOf a++loopsOf b
 | .cond _ a b=>loopsOf a++loopsOf b
 | .block _ c=>loopsOf c
 | .loop c=>c::loopsOf c
 | _=>[]
def LoopsOK (ords:Nat->List (Nat×List Nat)) (Kp:List PanicEntry->PH->Prop) (L:Loops) (c:Code):Prop:=
 ∀b∈loopsOf c,∀Q ρ h,L b Q ρ h->∃Q0:Exit->Env->PH->Prop,(∀e ρ h,Q0 e ρ h->Q e ρ h)/\LoopW (den P qf ords Kp L b) Q0 ρ h
def aloneB (ops:Array Oper) (ms:Array Nat) (listed:Array Bool) (i:Nat):Bool:=
 (List.range ops.size).all λk=>k==i||listed.getD k true||(match ops[k]? with | some o=>clsOf P qf o == .alloc||(ms.getD k 0).testBit i | none=>true)
def readsB (ops:Array Oper) (ms:Array Nat) (listed:Array Bool) (i:Nat) (qs:List Nat):Bool:=
 (List.range ops.size).all λq=>!listed.getD q false||(ms.getD i 0).testBit q||(match ops[q]? with | some o=>clsOf P qf o != .read | none=>true)||qs.contains q
def idleB (ops:Array Oper) (ms:Array Nat) (listed:Array Bool) (i:Nat) (qs:List Nat):Bool:=
 (List.range ops.size).all λk=>k==i||listed.getD k true||(ms.getD k 0).testBit i||(match ops[k]? with
  | none=>true
  | some ok=>clsOf P qf ok != .alloc||((!isB ok||qs.contains k)&&(List.range ops.size).all λl=>l==i||l==k||listed.getD l true||(ms.getD l 0).testBit i||(match ops[l]? with
   | none=>true
   | some ol=>clsOf P qf ol != .alloc||(match ok.dst with | none=>true | some d=>!(ol.looksAt ops).contains d))))
def canonB (ops:Array Oper) (ms:Array Nat):List (Nat×List Nat)->Array Bool->Bool
 | [],listed=>(List.range ops.size).all λk=>listed.getD k true
 | (i,qs)::rest,listed=>(match ops[i]? with
  | none=>false
  | some o=>(Region.ready .any ops listed).contains i&&Region.free .any ops listed i&&(match clsOf P qf o with
   | .pure=>true
   | .read=>true
   | .alloc=>aloneB P qf ops ms listed i&&idleB P qf ops ms listed i qs
   | .loud=>(aloneB P qf ops ms listed i&&idleB P qf ops ms listed i qs)&&readsB P qf ops ms listed i qs))&&canonB ops ms rest (listed.setIfInBounds i true)
def lookB (ops:Array Oper) (ms:Array Nat):Bool:=
 (List.range ops.size).all λq=>match ops[q]? with
  | none=>true
  | some oq=>clsOf P qf oq != .read||(oq.dst.isSome&&(List.range ops.size).all λk=>match ops[k]? with
   | none=>true
   | some ok=>match ok.dst with
    | none=>true
    | some d=>(!(oq.looksAt ops).contains d||(ms.getD q 0).testBit k)&&(k==q||oq.dst != some d))
def totalB (ops:Array Oper):Bool:=ops.toList.all λo=>match o.op with | .alloc e=>(zeroOf P e).isSome | _=>true
def regB (ops:Array Oper) (order:List (Nat×List Nat)):Bool:=
 Region.noSelect ops&&lookB P qf ops (masks ops)&&totalB P ops&&canonB P qf ops (masks ops) order (Array.replicate ops.size false)&&decide (order.length=ops.size)
def codeOK (n:Nat) (ords:Nat->List (Nat×List Nat)):Code->Bool
 | .region id ops draw=>(ops.toList.all λo=>match o.dst with | some d=>decide (d<n) | none=>true)&&(match draw with | true=>regB P qf ops (ords id) | false=>true)
 | .seq a b=>codeOK n ords a&&codeOK n ords b
 | .cond _ a b=>codeOK n ords a&&codeOK n ords b
 | .block _ c=>codeOK n ords c
 | .loop c=>codeOK n ords c
 | .skip=>true
 | .ret=>true
 | .exit _=>true
 | _=>false
def tupleOf:List Value->Value
 | [v]=>v
 | l=>.tuple l.toArray
def resL (rs:List ResultVar) (ρ:Env) (h:PH) (K:List Value->Prop):Prop:=
 match rs with
 | []=>K []
 | .tmp t::rs=>resL rs ρ h (λvs=>K (ρ t::vs))
 | .cell a t::rs=>match szOf P t with
  | some sz=>vLoad sz (ρ a) h (λv=>resL rs ρ h (λvs=>K (v::vs)))
  | none=>False
def env0 (args:Array Value):Env:=λt=>args.toList.getD t undef
def denF (ords:Nat->List (Nat×List Nat)) (L:Loops) (rs:List ResultVar) (c:Code) (args:Array Value) (h:PH) (R:AEnd->PH->Prop):Prop:=
 den P qf ords (λc h=>R (.pan c) h) L c (λe ρ h=>match e with
  | .normal=>resL P rs ρ h (λvs=>R (.ret (tupleOf vs)) h)
  | .ret=>resL P rs ρ h (λvs=>R (.ret (tupleOf vs)) h)
  | _=>False) (env0 args) h
end
section
variable {P:Program} {qf:FuncId->Bool} {n:Nat} {ords:Nat->List (Nat×List Nat)}
theorem OpY.opL {o:Oper} {ρ:Env} {h:PH} {v:Value} {K:Value->PH->Prop} {Kp:List PanicEntry->PH->Prop} (hy:OpY P o ρ h v) (hk:K v h):OpL P o ρ h K Kp:=by
 intro w hw
 left
 have:=hy w hw
 generalize (execOp (evalE ρ) o).run P w=r at this
 cases r with
 | halt x w'=>exact this.elim
 | ok nx w'=>
  cases nx <;> simp only at this ⊢
  case value u=>obtain⟨rfl,rfl⟩:=this;exact⟨h,hw,Framed.refl _ _,hk⟩
  case enter f args=>
   refine⟨this.1,this.2.mono λe w'' he=>?_⟩
   cases e <;> simp only at he ⊢
   obtain⟨rfl,a,b⟩:=he
   exact⟨h,a,b,hk⟩
theorem OpA.opL {o:Oper} {ρ:Env} {h:PH} {obj:Obj} {mk:Nat->Value} {K:Value->PH->Prop} {Kp:List PanicEntry->PH->Prop} (ha:OpA P o ρ obj mk) (hk:∀b,h b=none->K (mk b) (ins h b obj)):OpL P o ρ h K Kp:=by
 intro w hw
 left
 rw[ha w]
 exact⟨_,Holds.push hw rfl,Framed.push rfl rfl rfl rfl,hk _ (hw.none (Nat.le_refl _))⟩
theorem denOp_opL {o:Oper} {ρ:Env} {h:PH} {K:Value->PH->Prop} {Kp:List PanicEntry->PH->Prop} (hd:denOp P qf o ρ h K Kp):OpL P o ρ h K Kp:=by
 unfold denOp at hd
 cases hc:clsOf P qf o <;> rw[hc]at hd <;> simp only at hd
 ·obtain⟨v,hs,hk⟩:=denQ_pure hc hd;exact hs.opY.opL hk
 ·obtain⟨v,hs,hk⟩:=denQ_read hc hd;exact hs.opL hk
 ·exact denL_sound hd
 ·obtain⟨obj,mk,ha,hk⟩:=denA_sound hc hd;exact ha.opL hk
def AQ (n:Nat) (G:Act->Prop) (h0:PH) (w0:World) (Q:Exit->Env->PH->Prop) (Kp:List PanicEntry->PH->Prop):Exit->Act->World->Prop:=λe a w=>
 match e with
 | .outgrown=>False
 | .panic c=>G a/\∃h,Holds h w/\Framed h0 h w0 w/\Kp c h
 | e=>n<=a.tmps.size/\G a/\∃h,Holds h w/\Framed h0 h w0 w/\Q e (envOf a) h
theorem wp_of_opL {G:Act->Prop} {o:Oper} {a:Act} {h h0:PH} {w w0:World} {K:Value->PH->Prop} {Q:Exit->Env->PH->Prop} {Kp:List PanicEntry->PH->Prop} {next:Act->World->Prop}
  (H:OpL P o (envOf a) h K Kp) (hd:G a) (hw:Holds h w) (hf:Framed h0 h w0 w)
  (hn:∀v h' w',Holds h' w'->Framed h h' w w'->K v h'->next (a.put o.dst v) w'):o.wp P a w next (AQ n G h0 w0 Q Kp)\/(o.asks P a w/\LetsOut (AQ n G h0 w0 Q Kp)):=by
 rcases H w hw with H | H
 ·left
  unfold Oper.wp
  rw[eval_envOf]
  generalize (execOp (evalE (envOf a)) o).run P w=r at H
  cases r with
  | halt x w'=>
   cases x <;> simp only at H ⊢
   case panic v=>obtain⟨h',b,c,d⟩:=H;exact⟨hd,h',b,hf.trans c,d⟩
   all_goals exact H.elim
  | ok nx w'=>
   cases nx <;> simp only at H ⊢
   case value v=>obtain⟨h',b,c,d⟩:=H;exact hn v h' w' b c d
   case skip=>obtain⟨h',b,c,d⟩:=H;exact hn _ h' w' b c d
   case enter f args=>
    obtain⟨rfl,hc⟩:=H
    refine hc.mono λe w'' he=>?_
    cases e <;> simp only at he ⊢
    ·obtain⟨h',b,c,d⟩:=he;exact hn _ h' w'' b c d
    ·obtain⟨h',b,c,d⟩:=he;exact⟨hd,h',b,hf.trans c,d⟩
   all_goals exact H.elim
 ·exact H.elim
theorem yieldedL_eq (ops:Array Oper) (ρ:Env):yieldedL ops.toList ρ=yieldedE ops ρ:=by
 funext j
 unfold yieldedL yieldedE boolOf
 simp only[Array.getElem?_toList]
 rfl
theorem wanted_none {o:Oper} {y:Nat->Option Bool} (hg:o.guard=none):Region.wanted o y=true:=by unfold Region.wanted;rw[hg]
theorem wanted_some {o:Oper} {y:Nat->Option Bool} {j:Nat} {w:Bool} (hg:o.guard=some (j,w)):Region.wanted o y=(y j==some w):=by unfold Region.wanted;rw[hg]
theorem reYs_out {l:List Oper} {ρ:Env} {h:PH} {X:Prop}:∀(qs:List Nat),reYs P l ρ h qs X->X
 | [],hx=>hx
 | q::qs,hx=>by
  simp only[reYs]at hx
  split at hx
  ·split at hx
   ·exact reYs_out qs hx
   ·exact reYs_out qs hx.2
  ·exact reYs_out qs hx
theorem preF_out {l:List Oper} {ρ:Env} {X:Prop}:∀(qs:List Nat),preF P l ρ qs X->X
 | [],hx=>hx
 | q::qs,hx=>by
  simp only[preF]at hx
  split at hx
  ·split at hx
   ·exact preF_out qs hx.2
   ·exact preF_out qs hx
  ·exact preF_out qs hx
theorem wpOps_of_denC {G:Act->Prop} {ops:Array Oper} {Q:Exit->Env->PH->Prop} {Kp:List PanicEntry->PH->Prop} {h0:PH} {w0:World} (hdst:∀o∈ops.toList,∀d,o.dst=some d->d<n) (hG:∀o∈ops.toList,∀a v,G a->G (a.put o.dst v)) :
  ∀(order:List (Nat×List Nat)) (a:Act) (h:PH) (w:World),n<=a.tmps.size->G a->Holds h w->Framed h0 h w0 w->denC P qf ops.toList (Q .normal) Kp order (envOf a) h ->
   wpOps P ops (AQ n G h0 w0 Q Kp) (order.map (·.1)) a w
 | [],a,h,w,hs,hd,hw,hf,H=>⟨hs,hd,h,hw,hf,H⟩
 | (i,qs)::rest,a,h,w,hs,hd,hw,hf,H=>by
  simp only[denC,Array.getElem?_toList]at H
  simp only[List.map_cons,wpOps]
  cases ho:ops[i]? with
  | none=>rw[ho]at H;exact H.elim
  | some o=>
   rw[ho]at H
   simp only at H ⊢
   have H:=preF_out qs H
   have hmem:o∈ops.toList:=by simpa using Array.mem_of_getElem? ho
   have hput:∀v,envOf (a.put o.dst v)=upd (envOf a) o.dst v:=λv=>envOf_put v λd hd=>Nat.lt_of_lt_of_le (hdst o hmem d hd) hs
   have hsz:∀v,n<=(a.put o.dst v).tmps.size:=λv=>by cases o.dst <;> simpa [Act.put]using hs
   have hdd:∀v,G (a.put o.dst v):=λv=>hG o hmem a v hd
   have go:denOp P qf o (envOf a) h (λv h'=>reYs P ops.toList (envOf a) h' qs (denC P qf ops.toList (Q .normal) Kp rest (upd (envOf a) o.dst v) h')) Kp ->
     o.wp P a w (wpOps P ops (AQ n G h0 w0 Q Kp) (rest.map (·.1))) (AQ n G h0 w0 Q Kp)\/(o.asks P a w/\LetsOut (AQ n G h0 w0 Q Kp)):=λhden=>
    wp_of_opL (denOp_opL hden) hd hw hf λv h' w' b c d=>wpOps_of_denC hdst hG rest _ h' w' (hsz v) (hdd v) b (hf.trans c) (by rw[hput];exact reYs_out qs d)
   cases hg:o.guard with
   | none=>
    rw[hg]at H
    rw[wanted_none hg,if_pos rfl]
    exact go H
   | some jw=>
    obtain⟨j,wt⟩:=jw
    rw[hg]at H
    rw[wanted_some hg,yielded_envOf,<-yieldedL_eq]
    obtain⟨h1,h2⟩:=H
    by_cases hy:yieldedL ops.toList (envOf a) j=some wt
    ·rw[hy];simp only[beq_self_eq_true,if_true];exact go (h1 hy)
    ·have:(yieldedL ops.toList (envOf a) j==some wt)=false:=by simpa using hy
     rw[this]
     simp only[Bool.false_eq_true,if_false]
     exact wpOps_of_denC hdst hG rest _ h w (hsz _) (hdd _) hw hf (by rw[hput];exact reYs_out qs (h2 hy))
theorem seqGo_map:∀(m i:Nat),(seqGo m i).map (·.1)=List.range' i m
 | 0,_=>rfl
 | m+1,i=>by simp[seqGo,List.range'_succ,seqGo_map m (i+1)]
theorem wpAny_of_anyA {G:Act->Prop} {ops:Array Oper} {Q:Exit->Env->PH->Prop} {Kp:List PanicEntry->PH->Prop} {h0:PH} {w0:World} (hdst:∀o∈ops.toList,∀d,o.dst=some d->d<n) (hG:∀o∈ops.toList,∀a v,G a->G (a.put o.dst v)) :
  ∀(fuel:Nat) (listed:Array Bool) (a:Act) (h:PH) (w:World),n<=a.tmps.size->G a->Holds h w->Framed h0 h w0 w->anyA P ops (clsOf P qf) (Q .normal) Kp fuel listed (envOf a) h ->
   wpAny P .any ops (AQ n G h0 w0 Q Kp) fuel listed a w
 | 0,listed,a,h,w,hs,hd,hw,hf,H=>⟨H.1,hs,hd,h,hw,hf,H.2⟩
 | fuel+1,listed,a,h,w,hs,hd,hw,hf,H=>by
  refine⟨λh0=>⟨hs,hd,h,hw,hf,H.1 h0⟩,λi hi=>?_⟩
  have H:=H.2 i hi
  unfold stepA at H
  unfold wpOp
  cases ho:ops[i]? with
  | none=>rw[ho]at H;exact wpAny_of_anyA hdst hG fuel _ a h w hs hd hw hf H
  | some o=>
   rw[ho]at H
   simp only at H ⊢
   have hmem:o∈ops.toList:=by simpa using Array.mem_of_getElem? ho
   have hput:∀v,envOf (a.put o.dst v)=upd (envOf a) o.dst v:=λv=>envOf_put v λd hd=>Nat.lt_of_lt_of_le (hdst o hmem d hd) hs
   have hsz:∀v,n<=(a.put o.dst v).tmps.size:=λv=>by cases o.dst <;> simpa [Act.put]using hs
   have hdd:∀v,G (a.put o.dst v):=λv=>hG o hmem a v hd
   rw[yielded_envOf]
   by_cases hwt:Region.wanted o (yieldedE ops (envOf a))=true
   ·rw[if_pos hwt]at H
    rw[if_pos hwt]
    have hL:OpL P o (envOf a) h (λv h'=>anyA P ops (clsOf P qf) (Q .normal) Kp fuel (listed.setIfInBounds i true) (upd (envOf a) o.dst v) h') Kp:=by
     cases hc:clsOf P qf o <;> rw[hc]at H <;> simp only at H
     ·obtain⟨v,b,c⟩:=H;exact (b.sub (λx p hx=>by cases hx)).opL c
     ·obtain⟨v,b,c⟩:=H;exact b.opL c
     ·exact H.mono (λv h' hh=>hh.2) (λ_ _ hh=>hh)
     ·obtain⟨obj,mk,b,c⟩:=H;exact b.opL c
    exact wp_of_opL hL hd hw hf λv h' w' b c d=>wpAny_of_anyA hdst hG fuel _ _ h' w' (hsz v) (hdd v) b (hf.trans c) (by rw[hput];exact d)
   ·rw[if_neg hwt]at H
    rw[if_neg hwt]
    exact wpAny_of_anyA hdst hG fuel _ _ h w (hsz _) (hdd _) hw hf (by rw[hput];exact H)
theorem regOK_of {ops:Array Oper} (h1:Region.noSelect ops=true) (h2:lookB P qf ops (masks ops)=true) (h3:totalB P ops=true):RegOK P ops (clsOf P qf):=by
 have look:∀(q k:Nat) (oq ok:Oper) (d:Tmp),ops[q]?=some oq->ops[k]?=some ok->clsOf P qf oq = .read->ok.dst=some d ->
   (d∈oq.looksAt ops->((masks ops).getD q 0).testBit k=true)/\(k≠q->oq.dst≠some d)/\oq.dst.isSome=true:=by
  intro q k oq ok d hq hk hc hd
  have a1:=List.all_eq_true.1 h2 q (List.mem_range.2 (Array.getElem?_eq_some_iff.1 hq).1)
  simp only[hq,hc,bne_self_eq_false,Bool.false_or,Bool.and_eq_true]at a1
  have a2:=List.all_eq_true.1 a1.2 k (List.mem_range.2 (Array.getElem?_eq_some_iff.1 hk).1)
  simp only[hk,hd,Bool.and_eq_true,Bool.or_eq_true,Bool.not_eq_true',bne_iff_ne,beq_iff_eq]at a2
  refine⟨λhin=>?_,λhne=>a2.2.resolve_left hne,a1.1⟩
  rcases a2.1 with h | h
  ·simp[hin]at h
  ·exact h
 refine⟨Region.noSelect_spec h1,λq k oq ok d hq hk hc hd hin=>(look q k oq ok d hq hk hc hd).1 hin,λq k oq ok d hq hk hc hne hd hkd=>?_,λq oq hq hc=>?_⟩
 ·exact (look q k oq ok d hq hk hc hkd).2.1 hne hd
 ·have a1:=List.all_eq_true.1 h2 q (List.mem_range.2 (Array.getElem?_eq_some_iff.1 hq).1)
  simp only[hq,hc,bne_self_eq_false,Bool.false_or,Bool.and_eq_true]at a1
  exact Option.isSome_iff_exists.1 a1.1
theorem cnt_le_set {ops:Array Oper} {listed:Array Bool} {i:Nat}:cnt ops listed<=cnt ops (listed.setIfInBounds i true)+1:=by
 unfold cnt
 have key:∀(l:List Nat),l.Nodup->(l.filter λk=>!listed.getD k true).length<=(l.filter λk=>!(listed.setIfInBounds i true).getD k true).length+(if i∈l then 1 else 0):=by
  intro l
  induction l with
  | nil=>intro _;simp
  | cons k l ih=>
   intro hnd
   have hnd':=List.nodup_cons.1 hnd
   have ih:=ih hnd'.2
   by_cases hk:i=k
   ·subst hk
    rw[if_neg hnd'.1]at ih
    simp only[List.filter_cons,List.mem_cons,true_or,if_true]
    split <;> split <;> (try simp only[List.length_cons]) <;> omega
   ·rw[List.filter_cons,List.filter_cons,getD_set_ne true hk]
    have hm:(if i∈k::l then 1 else 0)=(if i∈l then 1 else 0):=by simp[hk]
    rw[hm]
    split <;> (try simp only[List.length_cons]) <;> omega
 have:=key (List.range ops.size) List.nodup_range
 split at this <;> omega
theorem reYs_mem {l:List Oper} {ρ:Env} {h:PH} {X:Prop} {q:Nat} {o:Oper} (hq:l[q]?=some o) (hc:clsOf P qf o = .read):∀(qs:List Nat),reYs P l ρ h qs X->q∈qs ->
  (Region.wanted o (yieldedL l ρ)=true)->∃v,OpY P o ρ h v/\∀d,o.dst=some d->ρ d=v
 | [],_,hm,_=>by cases hm
 | p::qs,hr,hm,hw=>by
  by_cases hp:q=p
  ·subst hp
   simp only[reYs]at hr
   rw[hq]at hr
   simp only at hr
   have hnb:isB o=false:=by
    obtain⟨dst,op,type,pos,after,guard⟩:=o
    cases op <;> first | rfl | (simp only[clsOf]at hc;split at hc <;> cases hc)
   rw[hnb]at hr
   have h1:=hr.1
   have fin:denQ P o ρ h (λv=>match o.dst with | some d=>ρ d=v | none=>True)->∃v,OpY P o ρ h v/\∀d,o.dst=some d->ρ d=v:=λhd=>by
    obtain⟨v,a,b⟩:=denQ_read hc hd
    exact⟨v,a,λd hd=>by rw[hd]at b;exact b⟩
   cases hg:o.guard with
   | none=>rw[hg]at h1;exact fin h1
   | some jw=>
    obtain⟨j,w⟩:=jw
    rw[hg]at h1
    rw[wanted_some hg]at hw
    exact fin (h1 (by simpa using hw))
  ·refine reYs_mem (X:=X) hq hc qs ?_ (by simpa [hp]using hm) hw
   simp only[reYs]at hr
   split at hr
   ·split at hr
    ·exact hr
    ·exact hr.2
   ·exact hr
theorem preF_mem {l:List Oper} {ρ:Env} {X:Prop} {q:Nat} {o:Oper} (hq:l[q]?=some o) (hb:isB o=true):∀(qs:List Nat),preF P l ρ qs X->q∈qs ->
  (Region.wanted o (yieldedL l ρ)=true)->∃obj mk,OpA P o ρ obj mk
 | [],_,hm,_=>by cases hm
 | p::qs,hr,hm,hw=>by
  by_cases hp:q=p
  ·subst hp
   simp only[preF]at hr
   rw[hq]at hr
   simp only at hr
   rw[hb]at hr
   have h1:=hr.1
   have fin:denA P o ρ (λ_=>none) (λ_ _=>True)->∃obj mk,OpA P o ρ obj mk:=λhd=>by
    have hcl:clsOf P (λ_=>true) o = .alloc:=by
     obtain⟨dst,op,type,pos,after,guard⟩:=o
     cases op <;> first | rfl | cases hb
    obtain⟨obj,mk,ha,_⟩:=denA_sound hcl hd
    exact⟨obj,mk,ha⟩
   cases hg:o.guard with
   | none=>rw[hg]at h1;exact fin h1
   | some jw=>
    obtain⟨j,w⟩:=jw
    rw[hg]at h1
    rw[wanted_some hg]at hw
    exact fin (h1 (by simpa using hw))
  ·refine preF_mem (X:=X) hq hb qs ?_ (by simpa [hp]using hm) hw
   simp only[preF]at hr
   split at hr
   ·split at hr
    ·exact hr.2
    ·exact hr
   ·exact hr
theorem canon_cnt {ops:Array Oper} {ms:Array Nat}:∀(order:List (Nat×List Nat)) (listed:Array Bool),canonB P qf ops ms order listed=true->cnt ops listed<=order.length
 | [],listed,hB=>by
  unfold cnt
  simp only[List.length_nil,Nat.le_zero_eq,List.length_eq_zero_iff,List.filter_eq_nil_iff]
  intro i hi
  rw[List.all_eq_true.1 hB i hi]
  simp
 | (i,qs)::rest,listed,hB=>by
  simp only[canonB,Bool.and_eq_true]at hB
  have:=canon_cnt rest _ hB.2
  exact Nat.le_trans (cnt_le_set (i:=i)) (by simp only[List.length_cons];omega)
theorem canon_any {ops:Array Oper} {Q:Env->PH->Prop} {Kp:List PanicEntry->PH->Prop} (R:RegOK P ops (clsOf P qf)) (htB:totalB P ops=true) :
  ∀(order:List (Nat×List Nat)) (listed:Array Bool) (ρ:Env) (h:PH),canonB P qf ops (masks ops) order listed=true->Closed ops listed->denC P qf ops.toList Q Kp order ρ h ->
   anyA P ops (clsOf P qf) Q Kp order.length listed ρ h
 | [],listed,ρ,h,hB,hc,H=>by
  have hall:∀k,k<ops.size->listed.getD k true=true:=λk hk=>List.all_eq_true.1 hB k (List.mem_range.2 hk)
  refine⟨?_,H⟩
  cases hr:Region.ready .any ops listed with
  | nil=>rfl
  | cons i l=>
   have hi:i∈Region.ready .any ops listed:=by rw[hr];simp
   obtain⟨h1,o,ho,_⟩:=mem_ready.1 hi
   rw[hall i (Array.getElem?_eq_some_iff.1 ho).1]at h1
   cases h1
 | (i,qs)::rest,listed,ρ,h,hB,hc,H=>by
  have hcn:=canon_cnt _ _ hB
  simp only[List.length_cons]at hcn
  simp only[canonB,Bool.and_eq_true]at hB
  obtain⟨hB1,hB2⟩:=hB
  simp only[denC,Array.getElem?_toList]at H
  cases ho:ops[i]? with
  | none=>rw[ho]at H;exact H.elim
  | some o=>
   rw[ho]at H hB1
   simp only[Bool.and_eq_true]at H hB1
   obtain⟨⟨hr,hfree⟩,hcl⟩:=hB1
   have hr':i∈Region.ready .any ops listed:=by simpa using hr
   have hap:Apt ops listed i o:=Region.free_spec ho hfree
   have ih:∀ρ h,denC P qf ops.toList Q Kp rest ρ h->anyA P ops (clsOf P qf) Q Kp rest.length (listed.setIfInBounds i true) ρ h:=λρ h=>canon_any R htB rest (listed.setIfInBounds i true) ρ h hB2 (hc.set hr')
   have alone:aloneB P qf ops (masks ops) listed i=true->Alone ops (clsOf P qf) listed i:=λhal k ok hk hki hun=>by
    have:=List.all_eq_true.1 hal k (List.mem_range.2 (Array.getElem?_eq_some_iff.1 hk).1)
    simp only[hk,hun,Bool.or_false,Bool.or_eq_true,beq_iff_eq,hki,false_or]at this
    exact this
   have idle:idleB P qf ops (masks ops) listed i qs=true->(∀k ok,ops[k]?=some ok->isB ok=true->k∈qs->Region.wanted ok (yieldedE ops ρ)=true->∃obj mk,OpA P ok ρ obj mk)->Idle P ops (clsOf P qf) listed i ρ:=λhid hpre=>by
    have one:∀k ok,ops[k]?=some ok->k≠i->listed.getD k true=false->clsOf P qf ok = .alloc->((masks ops).getD k 0).testBit i=false->(isB ok=false\/k∈qs) /\
      ∀l ol,ops[l]?=some ol->l≠i->k≠l->listed.getD l true=false->clsOf P qf ol = .alloc->((masks ops).getD l 0).testBit i=false->∀d,ok.dst=some d->d ∉ ol.looksAt ops:=by
     intro k ok hk hki hun hc hm
     have a1:=List.all_eq_true.1 hid k (List.mem_range.2 (Array.getElem?_eq_some_iff.1 hk).1)
     simp only[hk,hun,hm,hc,bne_self_eq_false,Bool.or_false,Bool.false_or,Bool.or_eq_true,beq_iff_eq,hki,false_or,Bool.and_eq_true]at a1
     refine⟨?_,λl ol hl hli hkl hunl hcl' hml d hd hin=>?_⟩
     ·rcases a1.1 with h | h
      ·exact .inl (by simpa using h)
      ·exact .inr (by simpa using h)
     ·have a2:=List.all_eq_true.1 a1.2 l (List.mem_range.2 (Array.getElem?_eq_some_iff.1 hl).1)
      simp only[hl,hunl,hml,hcl',hd,bne_self_eq_false,Bool.or_false,Bool.false_or,Bool.or_eq_true,beq_iff_eq,hli,Ne.symm hkl,false_or]at a2
      simp[hin]at a2
    refine⟨λk ok hk hki hun hc hm hw=>?_,λk l ok ol d hk hl hki hli hkl hunk hunl hck hcl' hmk hml hd=>(one k ok hk hki hunk hck hmk).2 l ol hl hli hkl hunl hcl' hml d hd⟩
    rcases (one k ok hk hki hun hc hm).1 with hb | hb
    ·have htot:=List.all_eq_true.1 htB ok (by simpa using Array.mem_of_getElem? hk)
     exact alloc_total hc (λe he=>by rw[he]at htot;exact htot) (λt n ps he=>by unfold isB at hb;rw[he]at hb;cases hb) ρ
    ·cases hbb:isB ok with
     | true=>exact hpre k ok hk hbb hb hw
     | false=>
      have htot:=List.all_eq_true.1 htB ok (by simpa using Array.mem_of_getElem? hk)
      exact alloc_total hc (λe he=>by rw[he]at htot;exact htot) (λt n ps he=>by unfold isB at hbb;rw[he]at hbb;cases hbb) ρ
   have quiet:∀v,YE P ops (clsOf P qf) o ρ h v->denC P qf ops.toList Q Kp rest (upd ρ o.dst v) h->anyA P ops (clsOf P qf) Q Kp (rest.length+1) listed ρ h:=λv hy hh=>
    first_quiet R ho rest.length listed ρ h v hc hap hr' hy (ih _ _ hh)
   have hpre:∀k ok,ops[k]?=some ok->isB ok=true->k∈qs->Region.wanted ok (yieldedE ops ρ)=true->∃obj mk,OpA P ok ρ obj mk:=λk ok hk hb hm hw=>preF_mem (by simpa using hk) hb qs H hm (by rw[yieldedL_eq];exact hw)
   have main:Region.wanted o (yieldedE ops ρ)=true->denOp P qf o ρ h (λv h'=>reYs P ops.toList ρ h' qs (denC P qf ops.toList Q Kp rest (upd ρ o.dst v) h')) Kp ->
     anyA P ops (clsOf P qf) Q Kp (rest.length+1) listed ρ h:=λhw hden=>by
    unfold denOp at hden
    cases hco:clsOf P qf o <;> rw[hco]at hden hcl <;> simp only at hden hcl
    ·obtain⟨v,hs,hk⟩:=denQ_pure hco hden
     exact quiet v (.inl ⟨hw,.inl ⟨hco,hs.opY⟩⟩) (reYs_out qs hk)
    ·obtain⟨v,hs,hk⟩:=denQ_read hco hden
     exact quiet v (.inl ⟨hw,.inr ⟨hco,hs⟩⟩) (reYs_out qs hk)
    ·rw[Bool.and_eq_true,Bool.and_eq_true]at hcl
     refine first_loud R ho hco rest.length listed ρ h hc hap (alone hcl.1.1) (idle hcl.1.2 hpre) hr' hcn hw ((denL_sound hden).mono (λv h' hk=>⟨λq oq hq hl hrd hm hwq=>?_,ih _ _ (reYs_out qs hk)⟩) (λ_ _ hh=>hh))
     have hin:=List.all_eq_true.1 hcl.2 q (List.mem_range.2 (Array.getElem?_eq_some_iff.1 hq).1)
     simp only[hl,hm,hq,hrd,Bool.not_true,Bool.false_or,bne_self_eq_false]at hin
     exact reYs_mem (by simpa using hq) hrd qs hk (by simpa using hin) (by rw[yieldedL_eq];exact hwq)
    ·obtain⟨obj,mk,ha,hk⟩:=denA_sound hco hden
     rw[Bool.and_eq_true]at hcl
     exact first_alloc R ho hco rest.length listed ρ h obj mk hc hap (alone hcl.1) (idle hcl.2 hpre) hr' hcn hw ha λb hb=>ih _ _ (reYs_out qs (hk b hb))
   have H:=preF_out qs H
   cases hg:o.guard with
   | none=>
    rw[hg]at H
    exact main (wanted_none hg) H
   | some jw=>
    obtain⟨j,wt⟩:=jw
    rw[hg]at H
    obtain⟨h1,h2⟩:=H
    by_cases hy:yieldedL ops.toList ρ j=some wt
    ·exact main (by rw[wanted_some hg,<-yieldedL_eq,hy];simp) (h1 hy)
    ·exact quiet undef (.inr ⟨by rw[wanted_some hg,<-yieldedL_eq];simpa using hy,rfl⟩) (reYs_out qs (h2 hy))
theorem AQ_mono {G:Act->Prop} {h0:PH} {w0:World} {Q Q':Exit->Env->PH->Prop} {Kp:List PanicEntry->PH->Prop} (hq:∀e ρ h,Q e ρ h->Q' e ρ h):∀e a w,AQ n G h0 w0 Q Kp e a w->AQ n G h0 w0 Q' Kp e a w:=λe a w H=>by
 cases e <;> simp only[AQ]at H ⊢ <;> first | exact H | (obtain⟨a,b,h,c,d,e⟩:=H;exact⟨a,b,h,c,d,hq _ _ _ e⟩)
theorem wp_loop_n {c:Code} {Q:Exit->Act->World->Prop} (I:Nat->Act->World->Prop) (round:∀m a w,I m a w->c.wp P (Exit.then (λa' w'=>∃k,k<m/\I k a' w') Q) a w) :
  ∀m a w,I m a w->(Code.loop c).wp P Q a w:=by
 intro m a w h₀ b k cs
 have key:∀n a w,I n a w->∃e a' w',Q e a' w'/\Arrives P (lone (b.at a (.code c :: .inLoop c::k)) cs w) b k cs e a' w':=by
  intro n
  induction n using Nat.strongRecOn with
  | _ n ih=>
   intro a w hI
   obtain⟨e,a₁,w₁,hq,harr⟩:=round n a w hI b (.inLoop c::k) cs
   cases e with
   | normal=>
    obtain⟨m,hlt,hI₁⟩:=hq
    obtain⟨e₂,a₂,w₂,hq₂,harr₂⟩:=ih m hlt a₁ w₁ hI₁
    exact⟨e₂,a₂,w₂,hq₂,.of_steps (Steps.trans harr (.one step_inLoop)) harr₂⟩
   | exit id=>exact⟨_,a₁,w₁,hq,.pass (x:=.inLoop c) rfl (λ_ _=>.inl (by simp)) harr⟩
   | goto l=>exact⟨_,a₁,w₁,hq,.pass (x:=.inLoop c) rfl (λ_ _=>.inl (by simp)) harr⟩
   | ret=>exact⟨_,a₁,w₁,hq,.pass (x:=.inLoop c) rfl (λ_ _=>.inl (by simp)) harr⟩
   | panic ch=>exact⟨_,a₁,w₁,hq,.pass (x:=.inLoop c) rfl (λ_ _=>.inl (by simp)) harr⟩
   | outgrown=>exact⟨_,a₁,w₁,hq,.pass (x:=.inLoop c) rfl (λ_ _=>.inl (by simp)) harr⟩
 obtain⟨e,a',w',hq,harr⟩:=key m a w h₀
 exact⟨e,a',w',hq,.of_steps (.one step_loop) harr⟩
def gOK (G:Act->Prop):Code->Prop
 | .region _ ops _=>∀o∈ops.toList,∀a v,G a->G (a.put o.dst v)
 | .seq x y=>gOK G x/\gOK G y
 | .cond _ x y=>gOK G x/\gOK G y
 | .block _ c=>gOK G c
 | .loop c=>gOK G c
 | _=>True
theorem den_sound (hm:P.follows .mixedOrders=true) {G:Act->Prop} {Kp:List PanicEntry->PH->Prop} {L:Loops} {h0:PH} {w0:World}:∀(c:Code),LoopsOK P qf ords Kp L c->codeOK P qf n ords c=true->gOK G c->∀(Q:Exit->Env->PH->Prop) (a:Act) (h:PH) (w:World),
  n<=a.tmps.size->G a->Holds h w->Framed h0 h w0 w->den P qf ords Kp L c Q (envOf a) h->c.wp P (AQ n G h0 w0 Q Kp) a w
 | .skip,_,_,_,Q,a,h,w,hs,hd,hw,hf,H=>wp_skip ⟨hs,hd,h,hw,hf,H⟩
 | .ret,_,_,_,Q,a,h,w,hs,hd,hw,hf,H=>wp_ret ⟨hs,hd,h,hw,hf,H⟩
 | .exit id,_,_,_,Q,a,h,w,hs,hd,hw,hf,H=>wp_exit ⟨hs,hd,h,hw,hf,H⟩
 | .seq x y,hl,hc,hg,Q,a,h,w,hs,hd,hw,hf,H=>by
  simp only[codeOK,Bool.and_eq_true]at hc
  refine wp_seq (wp_mono (den_sound hm x (λb hb=>hl b (List.mem_append_left _ hb)) hc.1 hg.1 _ a h w hs hd hw hf H) λe a' w' hq=>?_)
  cases e <;> simp only[AQ,Exit.then]at hq ⊢ <;> first | exact hq | skip
  obtain⟨b1,b2,h',b3,b4,b5⟩:=hq
  exact den_sound hm y (λb hb=>hl b (List.mem_append_right _ hb)) hc.2 hg.2 Q a' h' w' b1 b2 b3 b4 b5
 | .cond c x y,hl,hc,hg,Q,a,h,w,hs,hd,hw,hf,H=>by
  simp only[codeOK,Bool.and_eq_true]at hc
  obtain⟨t,ht,h1,h2⟩:=H
  refine wp_cond_split (t:=t) (by rw[eval_envOf];exact ht) (λe=>den_sound hm x (λb hb=>hl b (List.mem_append_left _ hb)) hc.1 hg.1 Q a h w hs hd hw hf (h1 e)) (λe=>den_sound hm y (λb hb=>hl b (List.mem_append_right _ hb)) hc.2 hg.2 Q a h w hs hd hw hf (h2 e))
 | .block id c,hl,hc,hg,Q,a,h,w,hs,hd,hw,hf,H=>by
  simp only[codeOK]at hc
  refine wp_block (wp_mono (den_sound hm c hl hc hg _ a h w hs hd hw hf H) λe a' w' hq=>?_)
  cases e <;> simp only[AQ,Exit.inBlock]at hq ⊢ <;> first | exact hq | skip
  rename_i i
  obtain⟨b1,b2,h',b3,b4,b5⟩:=hq
  by_cases hi:i=id
  ·subst hi
   have:Nat.beq i i=true:=by simp
   rw[this]at b5
   rw[if_pos rfl]
   exact⟨b1,b2,h',b3,b4,b5⟩
  ·rw[nbeq hi]at b5
   rw[if_neg hi]
   exact⟨b1,b2,h',b3,b4,b5⟩
 | .loop c,hl,hc,hg,Q,a,h,w,hs,hd,hw,hf,H=>by
  simp only[codeOK]at hc
  obtain⟨Q0,hQ0,I,m,hI,hr⟩:=hl c (by simp[loopsOf]) Q _ h H
  refine wp_mono ?_ (AQ_mono hQ0)
  refine wp_loop_n (λm a w=>n<=a.tmps.size/\G a/\∃h,Holds h w/\Framed h0 h w0 w/\I m (envOf a) h) (λm a w hh=>?_) m a w ⟨hs,hd,h,hw,hf,hI⟩
  obtain⟨b1,b2,h',b3,b4,b5⟩:=hh
  refine wp_mono (den_sound hm c (λb hb=>hl b (by simp[loopsOf,hb])) hc hg _ a h' w b1 b2 b3 b4 (hr m _ _ b5)) λe a' w' hq=>?_
  cases e <;> simp only[AQ,Exit.then]at hq ⊢ <;> first | exact hq | skip
  obtain⟨c1,c2,h'',c3,c4,k,c5,c6⟩:=hq
  exact⟨k,c5,c1,c2,h'',c3,c4,c6⟩
 | .region id ops false,hl,hc,hg,Q,a,h,w,hs,hd,hw,hf,H=>by
  simp only[codeOK,Bool.and_eq_true]at hc
  have hdst:∀o∈ops.toList,∀d,o.dst=some d->d<n:=λo ho d hd=>by
   have:=List.all_eq_true.1 hc.1 o ho
   rw[hd]at this
   simpa using this
  have:=wpOps_of_denC (w0:=w0) hdst hg _ a h w hs hd hw hf H
  rw[seqGo_map,<-List.range_eq_range']at this
  exact wp_region (by simpa using this)
 | .region id ops true,hl,hc,hg,Q,a,h,w,hs,hd,hw,hf,H=>by
  simp only[codeOK,regB,Bool.and_eq_true]at hc
  obtain⟨hc1,⟨⟨⟨r1,r2⟩,r3⟩,r4⟩,r5⟩:=hc
  have hdst:∀o∈ops.toList,∀d,o.dst=some d->d<n:=λo ho d hd=>by
   have:=List.all_eq_true.1 hc1 o ho
   rw[hd]at this
   simpa using this
  have R:=regOK_of r1 r2 r3
  have hw':Holds h {w with drawn:=w.drawn+1}:=hw
  have hf':Framed h0 h w0 {w with drawn:=w.drawn+1}:=⟨hf.os,hf.tape,hf.output,hf.size,hf.keep⟩
  have hcl:Closed ops (Array.replicate ops.size false):=⟨by simp,λj oj _ hl=>by
   rcases Nat.lt_or_ge j ops.size with h | h
   ·simp[h]at hl
   ·simp[h]at hl⟩
  have hany:=canon_any R r3 (ords id) _ (envOf a) h r4 hcl H
  refine wp_region_any hm ?_
  have:=wpAny_of_anyA (w0:=w0) hdst hg (ords id).length _ a h _ hs hd hw' hf' hany
  rw[of_decide_eq_true r5]at this
  exact this
 | .scope _,_,hc,_,_,_,_,_,_,_,_,_,_=>by simp[codeOK]at hc
 | .label _,_,hc,_,_,_,_,_,_,_,_,_,_=>by simp[codeOK]at hc
 | .goto _,_,hc,_,_,_,_,_,_,_,_,_,_=>by simp[codeOK]at hc
 | .rangeFunc ..,_,hc,_,_,_,_,_,_,_,_,_,_=>by simp[codeOK]at hc
 | .refuse _,_,hc,_,_,_,_,_,_,_,_,_,_=>by simp[codeOK]at hc
theorem resL_run {a:Act} {h:PH} {w:World} (hw:Holds h w) (g:ResultVar->Sem Value) (g1:∀t,g (.tmp t)=pure (a.tmps.getD t undef)) (g2:∀x t,g (.cell x t)=(do loadVar t (<-asAddr (a.tmps.getD x undef)))) :
  ∀(rs:List ResultVar) (K:List Value->Prop),resL P rs (envOf a) h K->∃vs,(rs.mapM g).run P w = .ok vs w/\K vs
 | [],K,hk=>⟨[],by simp,hk⟩
 | .tmp t::rs,K,hk=>by
  obtain⟨vs,h1,h2⟩:=resL_run hw g g1 g2 rs _ hk
  refine⟨envOf a t::vs,?_,h2⟩
  rw[List.mapM_cons,g1]
  simp only[Sem.run_bind,Sem.run_pure,Result.andThen,h1]
  rfl
 | .cell x t::rs,K,hk=>by
  simp only[resL]at hk
  cases hs:szOf P t with
  | none=>rw[hs]at hk;exact hk.elim
  | some sz=>
   rw[hs]at hk
   obtain⟨b,off,c,e,fr,hx,hb,hk⟩:=hk
   obtain⟨v,hv,hk⟩:=cellsAt_fun hk
   obtain⟨v',l1,l2⟩:=run_loadVar hs (hw b _ hb) (hv (λu=>u=v) rfl)
   subst l2
   obtain⟨vs,h1,h2⟩:=resL_run hw g g1 g2 rs _ hk
   refine⟨v'::vs,?_,h2⟩
   have hx':a.tmps.getD x undef = .pointer (some ⟨b,off,none⟩):=hx
   have hg:(g (.cell x t)).run P w = .ok v' w:=by
    rw[g2,hx',Sem.run_bind]
    simp only[asAddr,Sem.run_pure,Result.andThen]
    exact l1
   rw[List.mapM_cons]
   simp only[Sem.run_bind,Sem.run_pure,Result.andThen,h1,hg]
theorem results_run {fn:Func} {a:Act} {h:PH} {w:World} (hw:Holds h w) {K:Value->Prop} (hk:resL P fn.results.toList (envOf a) h λvs=>K (tupleOf vs)):∃v,(results fn a.tmps).run P w = .ok v w/\K v:=by
 obtain⟨l,hl⟩:∃l:List ResultVar,fn.results=l.toArray:=⟨fn.results.toList,by simp⟩
 rw[hl]at hk
 unfold results
 rw[hl,List.mapM_toArray]
 simp only[map_eq_pure_bind,Sem.run_bind,Sem.run_pure,Result.andThen]
 generalize hg:(λx:ResultVar=>(match x with | .tmp t=>pure (a.tmps.getD t undef) | .cell x t=>do loadVar t (<-asAddr (a.tmps.getD x undef)):Sem Value))=g
 have g1:∀t,g (.tmp t)=pure (a.tmps.getD t undef):=λt=>by subst hg;rfl
 have g2:∀x t,g (.cell x t)=(do loadVar t (<-asAddr (a.tmps.getD x undef))):=λx t=>by subst hg;rfl
 obtain⟨vs,h1,h2⟩:=resL_run hw g g1 g2 l _ hk
 refine⟨_,?_,h2⟩
 rw[h1]
 simp only[Sem.run_pure]
 congr 1
 match vs with
 | []=>rfl
 | [v]=>rfl
 | v::u::r=>simp[tupleOf]
theorem gOK_defers:∀c:Code,gOK (λa=>a.defers = []) c
 | .region _ ops _=>λo _ a v hd=>by cases o.dst <;> exact hd
 | .seq x y=>⟨gOK_defers x,gOK_defers y⟩
 | .cond _ x y=>⟨gOK_defers x,gOK_defers y⟩
 | .block _ c=>gOK_defers c
 | .loop c=>gOK_defers c
 | .skip | .ret | .exit _ | .scope _ | .label _ | .goto _ | .rangeFunc .. | .refuse _=>trivial
theorem ACalls_of_den (hm:P.follows .mixedOrders=true) {L:Loops} {f:FuncId} {fn:Func} {c:Code} {args:Array Value} {h:PH} {R:AEnd->PH->Prop} (hf:P.funcs[f]?=some fn) (hb:fn.body=some c)
  (hn : (fn.name == "runtime.NumGoroutine") = false) (hok : codeOK P qf fn.ntmps ords c = true) (hl : LoopsOK P qf ords (fun c h => R (.pan c) h) L c) (H : denF P qf ords L fn.results.toList c args h R) : ACalls P f args h R := by
 refine⟨⟨fn,hf,by simp[hb],hn⟩,λw hw=>calls_of_wp hf hb ?_⟩
 have henv:envOf {tmps:=args++Array.replicate (fn.ntmps-args.size) undef,defers:=[]} = env0 args:=by
  funext t
  unfold envOf env0
  rw[Array.getD_eq_getD_getElem?,List.getD_eq_getElem?_getD]
  rcases Nat.lt_or_ge t args.size with ht | ht
  ·rw[Array.getElem?_append_left ht];simp
  ·rw[Array.getElem?_append_right ht,List.getElem?_eq_none (by simpa using ht)]
   rcases Nat.lt_or_ge (t-args.size) (fn.ntmps-args.size)with h' | h'
   ·simp[h']
   ·rw[Array.getElem?_eq_none (by simpa using h')]
 refine wp_mono (den_sound (w0:=w) (G:=λa=>a.defers = []) hm c hl hok (gOK_defers c) _ _ h w (by simp;omega) rfl hw (Framed.refl h w) (by rw[henv];exact H)) λe a w' hq=>?_
 cases e <;> simp only[AQ,bodyPost]at hq ⊢
 ·obtain⟨b1,b2,h',b3,b4,b5⟩:=hq
  obtain⟨v,r1,r2⟩:=results_run b3 (K:=λv=>R (.ret v) h') b5
  exact⟨b2,v,r1,h',b3,b4,r2⟩
 ·obtain⟨_,_,_,_,_,hh⟩:=hq;exact hh
 ·obtain⟨_,_,_,_,_,hh⟩:=hq;exact hh
 ·obtain⟨b1,b2,h',b3,b4,b5⟩:=hq
  obtain⟨v,r1,r2⟩:=results_run b3 (K:=λv=>R (.ret v) h') b5
  exact⟨b2,v,r1,h',b3,b4,r2⟩
 ·exact hq
end
end Go.Pw
set_option linter.unusedSimpArgs false
set_option linter.unusedVariables false
namespace Go.Pw
open Go
def lf {F S:Type} (B:F->(F->S->PH->Prop)->S->PH->Prop) (f:F) (s:S) (h:PH):Prop:=
 ∃(I:Nat->S->PH->Prop) (n:Nat),I n s h/\∀n s h,I n s h->B f (λf' s' h'=>f'=f/\∃m,m<n/\I m s' h') s h
theorem lf_intro {F S:Type} {B:F->(F->S->PH->Prop)->S->PH->Prop} {f:F} {s:S} {h:PH} (I:Nat->S->PH->Prop) (n:Nat) (h0:I n s h)
  (hr:∀n s h,I n s h->B f (λf' s' h'=>f'=f/\∃m,m<n/\I m s' h') s h):lf B f s h:=⟨I,n,h0,hr⟩
def exq {X:Type} (ξ:Env->X) (v:X) (G:Env->PH->Prop) (h:PH):Prop:=∀ρ,ξ ρ=v->G ρ h
def lq {F S X:Type} (KN:F->S->PH->Prop) (XX:Exit->X->PH->Prop) (φ:Env->F) (π:Env->S) (ξ:Env->X):Exit->Env->PH->Prop:=λe ρ h=>match e with
 | .normal=>KN (φ ρ) (π ρ) h
 | e=>XX e (ξ ρ) h
section
variable {P:Program} {qf:FuncId->Bool} {ords:Nat->List (Nat×List Nat)} {Kp:List PanicEntry->PH->Prop} {L:Loops}
def loopAt (c:Code) (i:Nat):Code:=(loopsOf c).getD i .skip
theorem LoopsOK.mk {c:Code} (k:Nat) (hk:(loopsOf c).length=k) (H:∀i,i<k->∀Q ρ h,L (loopAt c i) Q ρ h->∃Q0:Exit->Env->PH->Prop,(∀e ρ h,Q0 e ρ h->Q e ρ h)/\LoopW (den P qf ords Kp L (loopAt c i)) Q0 ρ h) :
  LoopsOK P qf ords Kp L c:=by
 intro b hb
 obtain⟨i,hi,he⟩:=List.getElem_of_mem hb
 have:loopAt c i=b:=by unfold loopAt;rw[List.getD_eq_getElem?_getD,List.getElem?_eq_getElem hi,<-he];rfl
 rw[<-this]
 exact H i (by omega)
theorem loop_gen {F S X:Type} {φ:Env->F} {π:Env->S} {ξ:Env->X} {b:Code} {B:(Exit->X->PH->Prop)->F->(F->S->PH->Prop)->S->PH->Prop}
  (hB:∀KN XX ρ h,den P qf ords Kp L b (lq KN XX φ π ξ) ρ h=B XX (φ ρ) KN (π ρ) h) {Q:Exit->Env->PH->Prop} {ρ:Env} {h:PH}
  (H:lf (B (λe v h=>exq ξ v (Q e) h)) (φ ρ) (π ρ) h):∃Q0:Exit->Env->PH->Prop,(∀e ρ h,Q0 e ρ h->Q e ρ h)/\LoopW (den P qf ords Kp L b) Q0 ρ h:=by
 obtain⟨I,n,h0,hr⟩:=H
 refine⟨λe ρ h=>match e with | .normal=>False | e=>exq ξ (ξ ρ) (Q e) h,λe ρ h he=>?_,λn ρ' h'=>φ ρ'=φ ρ/\I n (π ρ') h',n,⟨rfl,h0⟩,λn ρ' h' hI=>?_⟩
 ·cases e <;> simp only at he <;> first | exact he ρ rfl | exact he.elim
 ·have h1:=hr n _ _ hI.2
  rw[<-hI.1]at h1
  have h3:den P qf ords Kp L b (lq (λf s h=>f=φ ρ'/\∃m,m<n/\I m s h) (λe v h=>exq ξ v (Q e) h) φ π ξ) ρ' h':=by
   rw[hB]
   exact h1
  have h4:(λe ρ1 h1=>match e with | .normal=>∃m,m<n/\φ ρ1=φ ρ/\I m (π ρ1) h1 | e=>(match e with | .normal=>False | e=>exq ξ (ξ ρ1) (Q e) h1:Prop)) =
    lq (λf s h=>f=φ ρ'/\∃m,m<n/\I m s h) (λe v h=>exq ξ v (Q e) h) φ π ξ:=by
   funext e ρ1 h1
   cases e <;> first | rfl | skip
   simp only[lq]
   rw[hI.1]
   exact propext ⟨λ⟨m,a,b,c⟩=>⟨b,m,a,c⟩,λ⟨b,m,a,c⟩=>⟨m,a,b,c⟩⟩
  rw[<-h4]at h3
  exact h3
end
def ordOf:List (Nat×List (Nat×List Nat))->Nat->List (Nat×List Nat)
 | [],_=>[]
 | (k,o)::r,id=>cond (Nat.beq k id) o (ordOf r id)
def memN:List Nat->Nat->Bool
 | [],_=>false
 | k::r,id=>cond (Nat.beq k id) true (memN r id)
def bodyOf (f:Func):Code:=match f.body with | some c=>c | none=>.skip
def regionIn:Code->Option Nat
 | .region id _ _=>some id
 | .seq a b=>match regionIn a with | some n=>some n | none=>regionIn b
 | .cond _ a b=>match regionIn a with | some n=>some n | none=>regionIn b
 | .block _ c=>regionIn c
 | .loop c=>regionIn c
 | _=>none
def loopId (c:Code):Nat:=match regionIn c with | some n=>n | none=>0
def sel (b:Bool) (A B:Prop):Prop:=match b with | true=>A | false=>B
def noLoops:Loops:=λ_ _ _ _=>False
theorem noLoops_ok {P:Program} {qf:FuncId->Bool} {ords:Nat->List (Nat×List Nat)} {Kp:List PanicEntry->PH->Prop} {c:Code} (hk:(loopsOf c).length=0):LoopsOK P qf ords Kp noLoops c:=
 LoopsOK.mk 0 hk λi hi=>absurd hi (by omega)
theorem of_den {A B:Prop} (e:A=B) (h:B):A:=e▸h
end Go.Pw
set_option linter.unusedVariables false
namespace Go.Pw
open Go
abbrev V2:=Value×Value
abbrev V3:=Value×V2
abbrev V4:=Value×V3
abbrev V5:=Value×V4
abbrev V6:=Value×V5
abbrev V7:=Value×V6
abbrev V8:=Value×V7
abbrev V9:=Value×V8
abbrev V10:=Value×V9
abbrev KP:=List PanicEntry->PH->Prop
abbrev RT:=AEnd->PH->Prop
structure LG where
 {F:Type}
 {S:Type}
 {X:Type}
 φ:Env->F
 π:Env->S
 ξ:Env->X
 i:Nat
 B:KP->(Exit->X->PH->Prop)->F->(F->S->PH->Prop)->S->PH->Prop
def LGL:List LG->KP->Loops
 | [],_=>noLoops
 | g::l,Kp=>λc Q ρ h=>sel (Nat.beq (loopId c) g.i) (lf (g.B Kp (λe v h=>exq g.ξ v (Q e) h)) (g.φ ρ) (g.π ρ) h) (LGL l Kp c Q ρ h)
def chk (P:Program) (qf:FuncId->Bool) (fn:Func) (o:List (Nat×List (Nat×List Nat))) (ids:List Nat):Bool:=match fn.body with
 | some c => codeOK P qf fn.ntmps (ordOf o) c && (!(fn.name == "runtime.NumGoroutine") && (decide ((loopsOf c).map loopId = ids) && decide ids.Nodup))
 | none=>false
def ez (n:Nat):List (Nat×List Nat):=(List.range n).map λi=>(i,[])
def ej (l:List (Nat×Nat×List Nat)):List (Nat×List Nat):=l.flatMap λr=>(List.range r.2.1).map λi=>(r.1+i,r.2.2)
section
variable {P:Program} {qf:FuncId->Bool} {ords:Nat->List (Nat×List Nat)} {Kp:KP} {L:Loops} {c:Code}
inductive LGB (P:Program) (qf:FuncId->Bool) (ords:Nat->List (Nat×List Nat)) (Kp:KP) (L:Loops) (c:Code):Nat->List LG->Prop
 | nil {i:Nat}:LGB P qf ords Kp L c i []
 | cons {i:Nat} {g:LG} {l:List LG}:(∀KN XX ρ h,den P qf ords Kp L (loopAt c i) (lq KN XX g.φ g.π g.ξ) ρ h=g.B Kp XX (g.φ ρ) KN (g.π ρ) h)->LGB P qf ords Kp L c (i+1) l->LGB P qf ords Kp L c i (g::l)
theorem LGB.get {l:List LG}:∀{i:Nat},LGB P qf ords Kp L c i l->∀(j:Nat) (g:LG),l[j]?=some g->∀KN XX ρ h,den P qf ords Kp L (loopAt c (i+j)) (lq KN XX g.φ g.π g.ξ) ρ h=g.B Kp XX (g.φ ρ) KN (g.π ρ) h:=by
 induction l with
 | nil=>intro i _ j g h;simp at h
 | cons a l ih=>
  intro i H j g h
  cases H with
  | cons h1 h2=>
   cases j with
   | zero=>simp at h;subst h;exact h1
   | succ j=>
    simp at h
    have:=ih h2 j g h
    rw[show i+(j+1)=i+1+j by omega]
    exact this
theorem LGL_pick {Q:Exit->Env->PH->Prop} {ρ:Env} {h:PH}:∀(G:List LG),LGL G Kp c Q ρ h->∃(j:Nat) (g:LG),G[j]?=some g/\loopId c=g.i/\lf (g.B Kp (λe v h=>exq g.ξ v (Q e) h)) (g.φ ρ) (g.π ρ) h
 | [],H=>H.elim
 | g::l,H=>by
  unfold LGL at H
  cases hb:Nat.beq (loopId c) g.i with
  | true=>
   rw[hb]at H
   exact⟨0,g,rfl,Nat.eq_of_beq_eq_true hb,H⟩
  | false=>
   rw[hb]at H
   obtain⟨j,g',h1,h2,h3⟩:=LGL_pick l H
   exact⟨j+1,g',by simpa using h1,h2,h3⟩
theorem LGL_ok {G:List LG} (hi:(loopsOf c).map loopId=G.map LG.i) (hn:(G.map LG.i).Nodup) (hB:LGB P qf ords Kp (LGL G Kp) c 0 G):LoopsOK P qf ords Kp (LGL G Kp) c:=by
 have hl:(loopsOf c).length=G.length:=by have:=congrArg List.length hi;simpa using this
 refine LoopsOK.mk G.length hl λi hiG Q ρ h H=>?_
 obtain⟨j,g,h1,h2,h3⟩:=LGL_pick G H
 have hj:=(List.getElem?_eq_some_iff.1 h1).1
 have e:i=j:=by
  have a1:((loopsOf c).map loopId)[i]?=some (loopId (loopAt c i)):=by
   unfold loopAt
   rw[List.getElem?_map,List.getD_eq_getElem?_getD,List.getElem?_eq_getElem (by omega)];rfl
  have a2:(G.map LG.i)[j]?=some g.i:=by rw[List.getElem?_map,h1];rfl
  rw[hi,h2]at a1
  obtain⟨b1,c1⟩:=List.getElem?_eq_some_iff.1 a1
  obtain⟨b2,c2⟩:=List.getElem?_eq_some_iff.1 a2
  have hp:=List.pairwise_iff_getElem.1 hn
  rcases Nat.lt_trichotomy i j with h | h | h
  ·exact absurd (c1.trans c2.symm) (hp i j b1 b2 h)
  ·exact h
  ·exact absurd (c2.trans c1.symm) (hp j i b2 b1 h)
 subst e
 have:=hB.get i g h1
 rw[Nat.zero_add]at this
 exact loop_gen (B:=g.B Kp) this h3
theorem calP (hm:P.follows .mixedOrders=true) {f:FuncId} {fn:Func} {args:Array Value} {h:PH} {R:AEnd->PH->Prop} {X:Prop} (o:List (Nat×List (Nat×List Nat))) (G:List LG) (hf:P.funcs[f]?=some fn) (hc:chk P qf fn o (G.map LG.i)=true)
  (hB:LGB P qf (ordOf o) (λc h=>R (.pan c) h) (LGL G λc h=>R (.pan c) h) (bodyOf fn) 0 G) (he:denF P qf (ordOf o) (LGL G λc h=>R (.pan c) h) fn.results.toList (bodyOf fn) args h R=X) (H:X):ACalls P f args h R:=by
 unfold chk at hc
 cases hb:fn.body with
 | none=>rw[hb]at hc;cases hc
 | some c=>
  rw[hb]at hc
  simp only[Bool.and_eq_true,decide_eq_true_eq,Bool.not_eq_true']at hc
  obtain⟨h1,h2,h3,h4⟩:=hc
  have hcc:bodyOf fn=c:=by unfold bodyOf;rw[hb]
  rw[hcc]at hB he
  exact ACalls_of_den hm hf hb h2 h1 (LGL_ok h3 h4 hB) (of_den he H)
end
end Go.Pw
