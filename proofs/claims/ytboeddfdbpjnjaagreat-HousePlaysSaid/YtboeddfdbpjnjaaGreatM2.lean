/- Texts of this claim, one behind the other. -/
import Derived.Test.YtboeddfdbpjnjaaGreatM1
import Derived.Deep.AppendSrc
import Derived.Room.AppendAny
import Derived.Room.Make
import Derived.Laws.Rows
set_option linter.unusedSimpArgs false
set_option linter.unusedVariables false
namespace Go.Pw
open Go
def M8 (P:Program) (t:TypeId):Option (Option Nat):=
 match P.underlying t with
 | some (.struct _)=>(P.info? t).map λi=>some i.size
 | some (.array _ _)=>(P.info? t).map λi=>some i.size
 | some _=>some none
 | none=>none
def CB (P:Program) (t:TypeId):Option Nat:=(P.info? t).map (·.size)
def G9 (P:Program):List Field->Option (List (Nat×Nat))
 | []=>some []
 | f::l=>match CB P f.type,G9 P l with
  | some n,some r=>some ((f.offset,n)::r)
  | _,_=>none
def Er (P:Program) (t:TypeId):Option (Array Value):=(P.info? t).bind λi=>i.zero.map Value.cells
def Fp (ρ:Env) (a:Array (Nat×Operand)):List (Nat×Value):=a.toList.map λp=>(p.1,AO ρ p.2)
def Fk (ρ:Env) (a:Array Operand):Array Value:=(a.toList.map (AO ρ)).toArray
def Rs (P:Program) (o:Oper) (ρ:Env) (h:PH) (K:Value->Prop):Prop:=
 match o.op with
 | .move x=>K (AO ρ x)
 | .assign x=>K (AO ρ x)
 | .pick c a b=>AP (AO ρ c) (AO ρ a) (AO ρ b) K
 | .binOp op t x y _=>A6 P op t (AO ρ x) (AO ρ y) K
 | .unOp op _ x=>vUn P op (AO ρ x) K
 | .extract x i=>Aa (AO ρ x) i K
 | .field t x i=>match P.underlying t with
  | some (.struct fs)=>match fs.toList[i]? with
   | some f=>match M8 P f.type with
    | some sz=>rQ sz f.offset (AO ρ x) K
    | none=>False
   | none=>False
  | _=>False
 | .fieldAddr t x i=>match P.underlying t with
  | some (.struct fs)=>match fs.toList[i]? with
   | some f=>match CB P f.type with
    | some (_+1)=>vFA f.offset (AO ρ x) K
    | _=>False
   | none=>False
  | _=>False
 | .indexAddr t x ix=>match P.underlying t with
  | some (.array len e)=>match CB P e with
   | some n=>Cp len n (AO ρ x) (AO ρ ix) K
   | none=>False
  | some (.slice e)=>match CB P e with
   | some n=>AR n (AO ρ x) (AO ρ ix) K
   | none=>False
  | _=>False
 | .index t x ix=>match P.underlying t with
  | some .string=>M3 (AO ρ x) (AO ρ ix) K
  | some (.array len e)=>match CB P e,M8 P e with
   | some n,some sz=>jc sz len n (AO ρ x) (AO ρ ix) K
   | _,_=>False
  | _=>False
 | .nilCheck x=>AY (AO ρ x) K
 | .slice t x lo hi none=>match P.underlying t with
  | some .string=>Ym (lo.map (AO ρ)) (hi.map (AO ρ)) (AO ρ x) K
  | some (.slice e)=>match CB P e with
   | some n=>vSl n (lo.map (AO ρ)) (hi.map (AO ρ)) (AO ρ x) K
   | none=>False
  | some (.array len e)=>match CB P e with
   | some n=>Yn len n (lo.map (AO ρ)) (hi.map (AO ρ)) (AO ρ x) K
   | none=>False
  | _=>False
 | .slice t x lo hi (some mx)=>match P.underlying t with
  | some (.slice e)=>match CB P e with
   | some n=>pF n (lo.map (AO ρ)) (hi.map (AO ρ)) (AO ρ mx) (AO ρ x) K
   | none=>False
  | _=>False
 | .lookup t x ix ok=>match P.underlying t with
  | some (.map kt e)=>match P.underlying kt,P.info? e with
   | some d,some i=>match i.zero with
    | some z=>Vr d z ok (AO ρ x) (AO ρ ix) h K
    | none=>False
   | _,_=>False
  | _=>False
 | .load t x=>match M8 P t with
  | some sz=>A0 sz (AO ρ x) h K
  | none=>False
 | .build t ps=>match P.underlying t,Er P t with
  | some (.struct fs),some z=>match G9 P fs.toList with
   | some pl=>BA pl z (Fp ρ ps) K
   | none=>False
  | some (.array _ e),some z=>match CB P e with
   | some n=>dF n z (Fp ρ ps) K
   | none=>False
  | _,_=>False
 | .makeInterface t x=>match P.underlying t with
  | some (.interface _)=>False
  | some _=>KO t (AO ρ x) K
  | none=>False
 | .makeFunc f first cap=>Yo f (Fk ρ first) (Fk ρ cap) K
 | .typeAssert x xt t true=>Vt P xt t (AO ρ x) K
 | .convert src dst x=>match P.underlying src,P.underlying dst with
  | some (.int _),some (.int k)=>D2 k (AO ρ x) K
  | some (.int _),some (.float k)=>R2 k (AO ρ x) K
  | some (.float _),some (.int k)=>NJ k (AO ρ x) K
  | some (.slice e),some .string=>match P.underlying e with
   | some (.int .u8)=>El (AO ρ x) h K
   | _=>False
  | _,_=>False
 | .call {callee:=.builtin .len,args,argTypes}=>match args.toList,argTypes.toList with
  | [x],[t]=>match P.underlying t with
   | some .string=>Dx (AO ρ x) K
   | some (.slice _)=>Ap (AO ρ x) K
   | _=>False
  | _,_=>False
 | .call {callee:=.builtin .max,args,..}=>match args.toList with
  | [x,y]=>ER true (AO ρ x) (AO ρ y) K
  | _=>False
 | .call {callee:=.builtin .min,args,..}=>match args.toList with
  | [x,y]=>ER false (AO ρ x) (AO ρ y) K
  | _=>False
 | .call {callee:=.value (.func f),args,..}=>Nj P f (Fk ρ args) h K
 | _=>False
def D7 (P:Program) (qf:FuncId->Bool) (o:Oper):Cls:=
 match o.op with
 | .binOp op t _ _ _=>match SJ op with
  | some _=>(match P.underlying t with
   | some (.float _)=>.loud
   | _=>.pure)
  | none=>.pure
 | .move _ | .assign _ | .pick .. | .unOp .. | .extract .. | .field .. | .fieldAddr .. | .indexAddr .. | .index .. | .nilCheck _ | .slice .. | .build .. | .makeInterface .. | .makeFunc .. | .typeAssert ..=>.pure
 | .load .. | .lookup ..=>.read
 | .convert src dst _=>match P.underlying src,P.underlying dst with
  | some (.slice _),_=>.read
  | _,some (.slice _)=>.loud
  | _,_=>.pure
 | .alloc _ | .box ..=>.alloc
 | .buildSlice ..=>match qf 1000000 with
  | true=>.alloc
  | false=>.loud
 | .call {callee:=.builtin .len,..}=>.pure
 | .call {callee:=.builtin .max,..}=>.pure
 | .call {callee:=.builtin .min,..}=>.pure
 | .call {callee:=.value (.func f),..}=>match qf f with
  | true=>.read
  | false=>.loud
 | _=>.loud
def Tf (P:Program) (o:Oper) (ρ:Env) (h:PH) (K:Value->PH->Prop):Prop:=
 match o.op with
 | .alloc e=>match Er P e with
  | some z=>Ag z e h K
  | none=>False
 | .box e x=>Ag (AO ρ x).cells e h K
 | .buildSlice t len ps=>match P.underlying t with
  | some (.slice e)=>match CB P e,Er P e with
   | some n,some z=>len*n<=2^24/\Aj e n len z (Fp ρ ps) h K
   | _,_=>False
  | _=>False
 | _=>False
def nE (P:Program) (o:Oper) (ρ:Env) (h:PH) (K:Value->PH->Prop) (Kp:List PanicEntry->PH->Prop):Prop:=
 match o.op with
 | .store t a x=>match CB P t with
  | some n=>A9 n (AO ρ a) (AO ρ x) h (λb=>K undef b)
  | none=>False
 | .buildSlice t len ps=>match P.underlying t with
  | some (.slice e)=>match CB P e,Er P e with
   | some n,some z=>len*n<=2^24/\Aj e n len z (Fp ρ ps) h K
   | _,_=>False
  | _=>False
 | .makeSlice t l c=>match P.underlying t with
  | some (.slice e)=>match P.info? e with
   | some i=>match i.zero with
    | some z=>IY e i.size i.bytes z.cells (AO ρ l) (AO ρ c) h K
    | none=>False
   | none=>False
  | _=>False
 | .call {callee:=.builtin .append,args,argTypes}=>match args.toList,argTypes.toList with
  | [s,x],[t,tx]=>match P.underlying t with
   | some (.slice e)=>match P.info? e with
    | some i=>match i.zero with
     | some z=>0<i.size/\0<i.bytes/\z.cells.size=i.size/\(match P.underlying tx with
      | some .string=>Ab true e i.size i.bytes (AO ρ s) (AO ρ x) h K
      | some (.slice _)=>Ab false e i.size i.bytes (AO ρ s) (AO ρ x) h K
      | _=>False)
     | none=>False
    | none=>False
   | _=>False
  | _,_=>False
 | .call {callee:=.builtin .clear,args,argTypes}=>match args.toList,argTypes.toList with
  | [x],[t]=>match P.underlying t with
   | some (.slice e)=>match Er P e with
    | some z=>UQ z (AO ρ x) h (λb=>K (.tuple #[]) b)
    | none=>False
   | _=>False
  | _,_=>False
 | .makeMap _ none=>Vq h K
 | .insert t m k v=>match P.underlying t with
  | some (.map kt _)=>match P.underlying kt with
   | some d=>FD d (AO ρ m) (AO ρ k) (AO ρ v) h (λb=>K undef b)
   | none=>False
  | _=>False
 | .binOp op _ x y _=>NI op (AO ρ x) (AO ρ y) h K
 | .call {callee:=.value (.func f),args,..}=>match ll P f with
  | true=>Nk P f (Fk ρ args) h K
  | false=>AA P f (Fk ρ args) h K Kp
 | .call {callee:=.value x,args,..}=>Ha P (AO ρ x) (Fk ρ args) h K Kp
 | .panic x=>M2 (AO ρ x) h Kp
 | _=>False
section
variable {P:Program} {ρ:Env} {h:PH}
theorem OpY.run {o:Oper} {v:Value} (b:∀w,BF h w->(execOp (AO ρ) o).run P w = .ok (.value v) w):OpY P o ρ h v:=by
 intro w a;rw[b w a];exact⟨rfl,rfl⟩
theorem Dv (s:Sem Value) {v:Value} {w:World} (a:s.run P w = .ok v w):(do pure (.value (<-s)):Sem Next).run P w = .ok (.value v) w:=by
 rw[Sem.run_bind,a];rfl
def rY:TypeDesc->Bool
 | .struct _=>true
 | .array _ _=>true
 | _=>false
theorem QD {t:TypeId} {c:Option Nat} (a:M8 P t=some c) (w:World):(isAgg t).run P w = .ok c.isSome w/\(∀n,c=some n->(Go.sizeOf t).run P w = .ok n w):=by
 unfold M8 at a;cases e:P.underlying t with
 | none=>rw[e]at a;cases a
 | some d=>
  rw[e]at a
  have g:(isAgg t).run P w = .ok (rY d) w:=by
   unfold isAgg;rw[Sem.run_bind,run_underlying e];cases d <;> rfl
  have f:∀n,(P.info? t).map (λi=>some i.size)=some (some n)->(Go.sizeOf t).run P w = .ok n w:=λn b=>by
   cases hi:P.info? t with
   | none=>rw[hi]at b;cases b
   | some i=>
    rw[hi]at b;simp at b;simp[Go.sizeOf,typeInfo,hi,b]
  rw[g];clear g e
  cases d <;> simp only[Option.some.injEq]at a <;> first
   | (subst a;exact⟨rfl,λn b=>by cases b⟩)
   | (cases c with
     | none=>
      exfalso
      revert a;cases P.info? t <;> simp
     | some n=>exact⟨rfl,λm j=>by cases j;exact f n a⟩)
theorem Sk {t:TypeId} {b:Option Nat} (e:M8 P t=some b) {cs:Array Value} {off:Nat} {K:Value->Prop} (a:Eo b cs off K) (w:World) :
  ∃v,(part t cs off).run P w = .ok v w/\K v:=by
 obtain⟨c,f⟩:=QD e w;unfold part;cases b with
 | none=>
  obtain⟨v,d,a⟩:=a;refine⟨v,?_,a⟩;rw[Sem.run_bind,c];simp[Result.andThen,d]
 | some n=>
  refine⟨_,?_,a.2⟩;rw[Sem.run_bind,c];simp[Result.andThen,f n rfl]
theorem HW {d:Option Nat} {cs:Array Value} {off:Nat} {K:Value->Prop} (b:Eo d cs off K):∃v,(∀c:Value->Prop,c v->Eo d cs off c)/\K v:=by
 cases d with
 | none=>obtain⟨v,e,b⟩:=b;exact⟨v,λc a=>⟨v,e,a⟩,b⟩
 | some n=>exact⟨_,λc a=>⟨b.1,a⟩,b.2⟩
theorem GZ {w:World} {b off:Nat} {c:Array Value} {e:TypeId} {fr:Nat×Nat} (a:w.heap[b]?=some (.cells c e fr)) (j:Nat):w.cell? ⟨b,off+j,none⟩=c[off+j]?:=by
 unfold World.cell?;rw[a]
 rfl
theorem Ms {t:TypeId} {g:Option Nat} (m:M8 P t=some g) {w:World} {b off:Nat} {c:Array Value} {e:TypeId} {fr:Nat×Nat} (k:w.heap[b]?=some (.cells c e fr))
  {K:Value->Prop} (f:Eo g c off K):∃v,(loadVar t ⟨b,off,none⟩).run P w = .ok v w/\K v:=by
 obtain⟨l,p⟩:=QD m w;unfold loadVar;cases g with
 | none=>
  obtain⟨v,a,f⟩:=f;refine⟨v,?_,f⟩;have o:w.cell? ⟨b,off,none⟩=some v:=by have:=GZ (off:=off) k 0;simpa [a]using this
  rw[Sem.run_bind,l];simp[Result.andThen,load,Sem.run,o]
 | some n=>
  refine⟨_,?_,f.2⟩
  have i:=run_loadCells_list (P:=P) w ⟨b,off,none⟩ ((c.extract off (off+n)).toList) (λj v a=>by
   rw[Addr.add_lit];rw[GZ k];simp only[Array.getElem?_toList,Array.getElem?_extract]at a
   split at a
   ·exact a
   ·cases a)
  have d:(c.extract off (off+n)).toList.length=n:=by have:=f.1;simp;omega
  rw[d]at i;rw[Sem.run_bind,l];simp only[Result.andThen,Option.isSome_some,if_true,Sem.run_bind,p n rfl,i,Array.toArray_toList]
  rfl
theorem D4 {v:Option Value} {lo hi d:Nat} {K:Nat->Prop} (e:CK v lo hi d K):∃n,K n/\((v=none/\n=d)\/∃k i,v=some (.int k i)/\(lo:Int)<=i/\i<=(hi:Int)/\n=i.toNat):=by
 unfold CK at e;cases v with
 | none=>exact⟨d,e,.inl ⟨rfl,rfl⟩⟩
 | some v=>obtain⟨k,i,rfl,a,b,c⟩:=e;exact⟨_,c,.inr ⟨k,i,rfl,a,b,rfl⟩⟩
theorem En {isSlice:Bool} {len cap:Nat} {low high:Option Value} {K:Nat->Nat->Prop} (d:CK high 0 cap len λh=>CK low 0 h 0 λl=>K l h) (w:World) :
  ∃l h,(Instr.sliceBounds isSlice len cap low high none).run P w = .ok (l,h,cap) w/\K l h:=by
 obtain⟨h,d,o⟩:=D4 d;obtain⟨l,d,n⟩:=D4 d;refine⟨l,h,?_,d⟩
 have e:∀(k:IntKind) (i:Int) (y:Nat) (c:BoundsCode),0<=i->i<=(y:Int)->(Instr.sliceBound (.int k i) y c).run P w = .ok i.toNat w:=λk i y c a b=>by
  simp[Instr.sliceBound,asIntOf,a,b]
 unfold Instr.sliceBounds
 rcases o with⟨rfl,rfl⟩ | ⟨k,i,rfl,a,b,rfl⟩ <;> rcases n with⟨rfl,rfl⟩ | ⟨f,g,rfl,m,j,rfl⟩
 ·simp
 ·simp[e f g h _ (by simpa using m) j]
 ·simp[e k i cap _ (by simpa using a) b]
 ·simp[e k i cap _ (by simpa using a) b,e f g _ _ (by simpa using m) j]
theorem K5 (a:Array Operand):a.map (AO ρ)=Fk ρ a:=by
 unfold Fk;apply Array.ext';simp
theorem C6 {t:TypeId} {n:Nat} (a:CB P t=some n) (w:World):(Go.sizeOf t).run P w = .ok n w:=by
 unfold CB at a;cases hi:P.info? t with
 | none=>rw[hi]at a;cases a
 | some i=>rw[hi]at a;simp at a;simp[Go.sizeOf,typeInfo,hi,a]
theorem N4 (fs:Array Field) {pl:List (Nat×Nat)} (a:G9 P fs.toList=some pl) (w:World) :
  ((fs.mapM λf=>do pure (f.offset,<-Go.sizeOf f.type):Sem (Array (Nat×Nat)))).run P w = .ok pl.toArray w:=by
 have key:∀(l:List Field) (pl:List (Nat×Nat)),G9 P l=some pl->((l.mapM λf=>do pure (f.offset,<-Go.sizeOf f.type):Sem (List (Nat×Nat)))).run P w = .ok pl w:=by
  intro l
  induction l with
  | nil=>intro pl a;simp[G9]at a;subst a;simp
  | cons f l ih=>
   intro pl a;simp only[G9]at a;cases b:CB P f.type with
   | none=>rw[b]at a;cases a
   | some n=>
    cases d:G9 P l with
    | none=>rw[b,d]at a;cases a
    | some r=>
     rw[b,d]at a;simp only[Option.some.injEq]at a;subst a;have c:=C6 b w;rw[List.mapM_cons,Sem.run_bind,Sem.run_bind,c];simp only[Result.andThen,Sem.run_pure,Sem.run_bind,ih r d]
 obtain⟨l,rfl⟩:∃l:List Field,fs=l.toArray:=⟨fs.toList,by simp⟩;rw[List.mapM_toArray];simp only[map_eq_pure_bind,Sem.run_bind];rw[key _ _ a]
 rfl
theorem FU {t:TypeId} {z:Array Value} (a:Er P t=some z) (w:World):∃v,(zeroValue t).run P w = .ok v w/\v.cells=z:=by
 unfold Er at a;cases hi:P.info? t with
 | none=>rw[hi]at a;cases a
 | some i=>
  rw[hi]at a;cases b:i.zero with
  | none=>simp[b]at a
  | some v=>simp[b]at a;exact⟨v,by simp[zeroValue,typeInfo,hi,b],a⟩
end
end Go.Pw
namespace Go.Pw
section
variable {P:Program} {ρ:Env} {h:PH} {qf:FuncId->Bool}
theorem add_lit (b o n:Nat):(⟨b,o,none⟩:Addr).add n=⟨b,o+n,none⟩:=by
 unfold Addr.add;split <;> simp_all
theorem O0 {f:Field} {n:Nat} (b:CB P f.type=some (n+1)) (a:Addr) (w:World):(fieldPlace a f).run P w = .ok (a.add f.offset) w:=by
 unfold fieldPlace;rw[Sem.run_bind,C6 b w];simp[Result.andThen]
def jZ (P:Program) (o:Oper) (ρ:Env) (v:Value):Prop:=∀w,(execOp (AO ρ) o).run P w = .ok (.value v) w
theorem Qf {o:Oper} {K:Value->Prop} (S:D7 P qf o = .pure) (g:Rs P o ρ h K):∃v,jZ P o ρ v/\K v:=by
 obtain⟨dst,op,type,pos,after,guard⟩:=o;cases op <;> simp only[Rs,D7]at g S
 case move x=>exact⟨_,λw=>rfl,g⟩
 case assign x=>exact⟨_,λw=>rfl,g⟩
 case pick c a b=>
  obtain⟨t,M,j⟩:=g;refine⟨_,λw=>?_,j⟩;simp only[execOp,M,asBool];cases t <;> simp
 case binOp op t x y yt=>
  obtain⟨v,J,j⟩:=g;exact⟨v,λw=>Dv _ (J x y w),j⟩
 case unOp op t x=>
  obtain⟨v,J,j⟩:=g;exact⟨v,λw=>Dv _ (HQ w _ J),j⟩
 case extract x i=>
  obtain⟨vs,v,C,J,j⟩:=g;refine⟨v,λw=>Dv _ ?_,j⟩;simp only[Instr.extract,C,J];rfl
 case field t x i=>
  cases A:P.underlying t with
  | none=>rw[A]at g;exact g.elim
  | some d=>
   rw[A]at g;cases d <;> simp only at g
   case struct fs=>
    cases L:fs.toList[i]? with
    | none=>rw[L]at g;exact g.elim
    | some f=>
     rw[L]at g;simp only at g;cases B:M8 P f.type with
     | none=>rw[B]at g;exact g.elim
     | some sz=>
      rw[B]at g;obtain⟨cs,C,j⟩:=g;obtain⟨v,J,j⟩:=HW j;refine⟨v,λw=>Dv _ ?_,j⟩;obtain⟨v',T,h2⟩:=Sk B (J (λu=>u=v) rfl) w;subst h2;have hf':fs[i]?=some f:=by rw[<-L];simp
      simp only[Instr.field,Sem.run_bind,run_underlying A,Result.andThen,hf',C,asAgg,Sem.run_pure,T]
 case fieldAddr t x i=>
  cases A:P.underlying t with
  | none=>rw[A]at g;exact g.elim
  | some d=>
   rw[A]at g;cases d <;> simp only at g
   case struct fs=>
    cases L:fs.toList[i]? with
    | none=>rw[L]at g;exact g.elim
    | some f=>
     rw[L]at g;simp only at g;cases B:CB P f.type with
     | none=>rw[B]at g;exact g.elim
     | some n=>
      rw[B]at g;cases n with
      | zero=>exact g.elim
      | succ n=>
       obtain⟨b,o,C,j⟩:=g;refine⟨_,λw=>Dv _ ?_,j⟩;have hf':fs[i]?=some f:=by rw[<-L];simp
       simp only[Instr.fieldAt,Sem.run_bind,run_underlying A,Result.andThen,hf',C,Instr.sureAddr,Sem.run_pure,O0 B,add_lit]
 case indexAddr t x ix=>
  cases A:P.underlying t with
  | none=>rw[A]at g;exact g.elim
  | some d=>
   rw[A]at g;cases d <;> simp only at g
   case array len e=>
    cases B:CB P e with
    | none=>rw[B]at g;exact g.elim
    | some n=>
     rw[B]at g;obtain⟨b,o,k,i,C,hi,h0,E,j⟩:=g;refine⟨_,λw=>Dv _ ?_,j⟩;simp[Instr.indexAt,run_underlying A,C,hi,asIntOf,Instr.sureAddr,h0,E,C6 B,add_lit]
   case slice e=>
    cases B:CB P e with
    | none=>rw[B]at g;exact g.elim
    | some n=>
     rw[B]at g;obtain⟨b,o,len,cap,k,i,C,hi,h0,E,j⟩:=g;refine⟨_,λw=>Dv _ ?_,j⟩;simp[Instr.indexAt,run_underlying A,C,hi,asIntOf,Instr.sureAddr,h0,E,C6 B,add_lit]
 case index t x ix=>
  cases A:P.underlying t with
  | none=>rw[A]at g;exact g.elim
  | some d=>
   rw[A]at g;cases d <;> simp only at g
   case string=>
    obtain⟨s,k,i,c,C,hi,h0,hc',j⟩:=g;refine⟨_,λw=>Dv _ ?_,j⟩
    have hb:s[i.toNat]?=some c:=by
     rw[<-hc'];simp only[getElem?_def,ByteArray.size]
     rfl
    simp[Instr.index,run_underlying A,C,hi,asIntOf,h0,hb]
   case array len e=>
    cases B:CB P e with
    | none=>rw[B]at g;exact g.elim
    | some n=>
     cases Q:M8 P e with
     | none=>rw[B,Q]at g;exact g.elim
     | some sz=>
      rw[B,Q]at g;obtain⟨cs,k,i,C,hi,h0,E,j⟩:=g;obtain⟨v,J,j⟩:=HW j;refine⟨v,λw=>Dv _ ?_,j⟩;obtain⟨v',T,h2⟩:=Sk Q (J (λu=>u=v) rfl) w;subst h2;simp[Instr.index,run_underlying A,C,hi,asIntOf,h0,E,C6 B,T]
 case nilCheck x=>
  obtain⟨H,j⟩:=g;refine⟨_,λw=>?_,j⟩;simp only[execOp];generalize AO ρ x=v at H;cases v <;> simp only[Zu]at H <;> first | cases H | skip
  case pointer a=>cases a with
   | none=>cases H
   | some a=>rfl
  case func f a b=>cases f <;> first | rfl | cases H
 case slice t x lo hi mx=>
  cases mx with
  | some m=>
   simp only at g;cases A:P.underlying t with
   | none=>rw[A]at g;exact g.elim
   | some d=>
    rw[A]at g;cases d <;> simp only at g
    case slice e=>
     cases B:CB P e with
     | none=>rw[B]at g;exact g.elim
     | some n=>
      rw[B]at g;obtain⟨p,len,cap,k1,n1,k2,n2,l,C,hhi,hmx,b0,b1,b2,hlo,j⟩:=g;refine⟨_,λw=>Dv _ ?_,j⟩;obtain⟨N1,rfl⟩:∃N:Nat,n1=N:=⟨n1.toNat,by omega⟩;obtain⟨N2,rfl⟩:∃N:Nat,n2=N:=⟨n2.toNat,by omega⟩;have c1:N2<=N1:=by omega
      have c2:N1<=cap:=by omega
      rcases hlo with⟨E,rfl⟩ | ⟨k,i,E,a0,a1,rfl⟩
      ·simp[Instr.sliceAt,Instr.slice,run_underlying A,C,hhi,hmx,E,Instr.sliceBounds,Instr.sliceBound,asIntOf,c1,c2,C6 B,add_lit]
      ·obtain⟨N,rfl⟩:∃N:Nat,i=N:=⟨i.toNat,by omega⟩
       have c3:N<=N2:=by omega
       simp[Instr.sliceAt,Instr.slice,run_underlying A,C,hhi,hmx,E,Instr.sliceBounds,Instr.sliceBound,asIntOf,c1,c2,c3,C6 B,add_lit]
    all_goals exact g.elim
  | none=>
   simp only at g;cases A:P.underlying t with
   | none=>rw[A]at g;exact g.elim
   | some d=>
    rw[A]at g;cases d <;> simp only at g
    case string=>
     obtain⟨s,C,j⟩:=g;obtain⟨l,h',_,hk'⟩:=En (P:=P) (isSlice:=false) j (default:World);obtain⟨n,H,Z⟩:=D4 j;obtain⟨m,hm,E⟩:=D4 H;refine⟨_,λw=>Dv _ ?_,hm⟩
     obtain⟨l1,T,hr,e1⟩:=En (P:=P) (isSlice:=false) (len:=s.size) (cap:=s.size) (low:=lo.map (AO ρ)) (high:=hi.map (AO ρ)) (K:=λl h=>l=m/\h=n) (by
      rcases Z with⟨e,rfl⟩ | ⟨k,i,e,a,b,rfl⟩ <;> rcases E with⟨U,rfl⟩ | ⟨G,O,U,W,V,rfl⟩ <;> rw[e,U]
      ·exact⟨rfl,rfl⟩
      ·exact⟨G,O,rfl,W,V,rfl,rfl⟩
      ·exact⟨k,i,rfl,a,b,rfl,rfl⟩
      ·exact⟨k,i,rfl,a,b,G,O,rfl,W,V,rfl,rfl⟩) w
     obtain⟨rfl,rfl⟩:=e1;simp[Instr.sliceAt,Instr.slice,run_underlying A,C,hr]
    case slice e=>
     cases B:CB P e with
     | none=>rw[B]at g;exact g.elim
     | some n=>
      rw[B]at g;obtain⟨p,len,cap,C,j⟩:=g;obtain⟨q,H,Z⟩:=D4 j;obtain⟨m,hm,E⟩:=D4 H;refine⟨_,λw=>Dv _ ?_,hm⟩
      obtain⟨l1,T,hr,e1⟩:=En (P:=P) (isSlice:=true) (len:=len) (cap:=cap) (low:=lo.map (AO ρ)) (high:=hi.map (AO ρ)) (K:=λl h=>l=m/\h=q) (by
       rcases Z with⟨e,rfl⟩ | ⟨k,i,e,a,b,rfl⟩ <;> rcases E with⟨U,rfl⟩ | ⟨G,O,U,W,V,rfl⟩ <;> rw[e,U]
       ·exact⟨rfl,rfl⟩
       ·exact⟨G,O,rfl,W,V,rfl,rfl⟩
       ·exact⟨k,i,rfl,a,b,rfl,rfl⟩
       ·exact⟨k,i,rfl,a,b,G,O,rfl,W,V,rfl,rfl⟩) w
      obtain⟨rfl,rfl⟩:=e1;simp[Instr.sliceAt,Instr.slice,run_underlying A,C,hr,C6 B]
    case array len e=>
     cases B:CB P e with
     | none=>rw[B]at g;exact g.elim
     | some n=>
      rw[B]at g;obtain⟨b,o,C,j⟩:=g;obtain⟨q,H,Z⟩:=D4 j;obtain⟨m,hm,E⟩:=D4 H;refine⟨_,λw=>Dv _ ?_,hm⟩
      obtain⟨l1,T,hr,e1⟩:=En (P:=P) (isSlice:=false) (len:=len) (cap:=len) (low:=lo.map (AO ρ)) (high:=hi.map (AO ρ)) (K:=λl h=>l=m/\h=q) (by
       rcases Z with⟨e,rfl⟩ | ⟨k,i,e,a,b,rfl⟩ <;> rcases E with⟨U,rfl⟩ | ⟨G,O,U,W,V,rfl⟩ <;> rw[e,U]
       ·exact⟨rfl,rfl⟩
       ·exact⟨G,O,rfl,W,V,rfl,rfl⟩
       ·exact⟨k,i,rfl,a,b,rfl,rfl⟩
       ·exact⟨k,i,rfl,a,b,G,O,rfl,W,V,rfl,rfl⟩) w
      obtain⟨rfl,rfl⟩:=e1;simp[Instr.sliceAt,run_underlying A,C,hr,C6 B,Instr.sureAddr,add_lit]
 case build t ps=>
  have F:∀(w:World),∀(D:Nat->Option (Nat×Nat)) (z:Array Value),Instr.fill D z ((ps.map λ(i,x)=>(i,AO ρ x)).toList)=Instr.fill D z (Fp ρ ps):=λw D z=>by
   unfold Fp;simp
  cases A:P.underlying t with
  | none=>rw[A]at g;exact g.elim
  | some d=>
   cases Q:Er P t with
   | none=>rw[A,Q]at g;cases d <;> exact g.elim
   | some z=>
    rw[A,Q]at g;cases d <;> simp only at g
    case struct fs=>
     cases hp:G9 P fs.toList with
     | none=>rw[hp]at g;exact g.elim
     | some pl=>
      rw[hp]at g;obtain⟨cs,L,j⟩:=g;refine⟨_,λw=>Dv _ ?_,j⟩;obtain⟨zv,X,Y⟩:=FU Q w
      have hf':Instr.fill (λx=>pl.toArray[x]?) z ((ps.map λ(i,x)=>(i,AO ρ x)).toList)=some cs:=by
       rw[F w,<-L];congr 1;funext x;simp
      simp only[Instr.build,Sem.run_bind,X,Result.andThen,run_underlying A,N4 fs hp,Y,hf',Sem.run_pure]
    case array len e=>
     cases B:CB P e with
     | none=>rw[B]at g;exact g.elim
     | some n=>
      rw[B]at g;obtain⟨cs,L,j⟩:=g;refine⟨_,λw=>Dv _ ?_,j⟩;obtain⟨zv,X,Y⟩:=FU Q w
      have hf':Instr.fill (λi=>some (i*n,n)) z ((ps.map λ(i,x)=>(i,AO ρ x)).toList)=some cs:=by
       rw[F w,<-L]
      simp only[Instr.build,Sem.run_bind,X,Result.andThen,run_underlying A,C6 B,Y,hf',Sem.run_pure]
 case makeInterface t x=>
  cases A:P.underlying t with
  | none=>rw[A]at g;exact g.elim
  | some d=>
   rw[A]at g;cases d <;> simp only at g
   all_goals (refine⟨_,λw=>Dv _ ?_,g⟩;simp[Instr.makeInterface,run_underlying A])
 case makeFunc f first cap=>
  refine⟨_,λw=>Dv _ ?_,g⟩;simp only[Instr.makeFunc,K5];rfl
 case typeAssert x xt t ok=>
  cases ok with
  | false=>exact g.elim
  | true=>
   obtain⟨v,J,j⟩:=g;exact⟨v,λw=>Dv _ (HQ w _ J),j⟩
 case convert src dst' x=>
  cases B:P.underlying src with
  | none=>rw[B]at g;exact g.elim
  | some d=>
   rw[B]at g S;cases d
   case int k0=>
    cases M:P.underlying dst' with
    | none=>rw[M]at g;exact g.elim
    | some d2=>
     rw[M]at g;cases d2
     case int k=>
      obtain⟨G,n,C,j⟩:=g;refine⟨_,λw=>Dv _ ?_,j⟩;simp[convert,run_underlying B,run_underlying M,C,Conv.intToInt]
     case float k=>
      obtain⟨G,n,C,j⟩:=g;refine⟨_,λw=>Dv _ ?_,j⟩;simp[convert,run_underlying B,run_underlying M,C,Conv.intToFloat]
     all_goals exact g.elim
   case float k0=>
    cases M:P.underlying dst' with
    | none=>rw[M]at g;exact g.elim
    | some d2=>
     rw[M]at g;cases d2
     case int k=>
      obtain⟨G,bb,n,C,H,T,h2,j⟩:=g;refine⟨_,λw=>Dv _ ?_,j⟩;simp[convert,run_underlying B,run_underlying M,C,Conv.floatToInt,H,T,h2]
     all_goals exact g.elim
   case slice=>cases S
   all_goals exact g.elim
 case call c=>
  obtain⟨callee,args,I⟩:=c;cases callee with
  | value f=>
   cases f
   case func f=>cases hq:qf f <;> simp only[hq]at S <;> cases S
   all_goals cases S
  | invoke r m=>cases S
  | builtin b=>
   cases b
   case len=>
    obtain⟨al⟩:=args;obtain⟨tl⟩:=I;simp only at g
    split at g
    ·rename_i _ _ x t
     have hgo:∀d,P.underlying t=some d->((∃e,d = .slice e)/\(∃p len cap,AO ρ x = .slice p len cap/\K (.int .i64 len))\/(d = .string/\∃s,AO ρ x = .string s/\K (.int .i64 s.size))) ->
       ∃v,jZ P ⟨dst,.call ⟨.builtin .len,⟨[x]⟩,⟨[t]⟩⟩,type,pos,after,guard⟩ ρ v/\K v:=by
      intro d A Z
      rcases Z with⟨⟨e,rfl⟩,p,len,cap,C,j⟩ | ⟨rfl,s,C,j⟩
      ·refine⟨_,λw=>?_,j⟩
       simp[execOp,resolve,invoke,builtin,Builtin.len_,run_underlying A,C,goInt]
      ·refine⟨_,λw=>?_,j⟩
       simp[execOp,resolve,invoke,builtin,Builtin.len_,run_underlying A,C,goInt]
     cases A:P.underlying t with
     | none=>rw[A]at g;exact g.elim
     | some d=>
      rw[A]at g;cases d
      case string=>exact hgo _ A (.inr ⟨rfl,g⟩)
      case slice e=>exact hgo _ A (.inl ⟨⟨e,rfl⟩,g⟩)
      all_goals exact g.elim
    ·exact g.elim
   case max=>
    obtain⟨al⟩:=args;simp only at g
    split at g
    ·rename_i _ x y
     obtain⟨k,G,a,b,C,hy,j⟩:=g;refine⟨_,λw=>?_,j⟩;simp[execOp,resolve,invoke,builtin,Builtin.max_,Builtin.max2,C,hy]
    ·exact g.elim
   case min=>
    obtain⟨al⟩:=args;simp only at g
    split at g
    ·rename_i _ x y
     obtain⟨k,G,a,b,C,hy,j⟩:=g;refine⟨_,λw=>?_,j⟩;simp[execOp,resolve,invoke,builtin,Builtin.min_,Builtin.min2,C,hy]
    ·exact g.elim
   all_goals exact g.elim
 all_goals (first | exact g.elim | cases S)
theorem jZ.opY {o:Oper} {v:Value} (a:jZ P o ρ v):OpY P o ρ h v:=OpY.run λw _=>a w
theorem Pm {b off len:Nat} {c:Array Value} {e:TypeId} {fr:Nat×Nat} {w:World} {l:List UInt8} (o:w.heap[b]?=some (.cells c e fr)) (k:l.length=len) (i:(c.toList.drop off).take len=byteCells l) :
  (Conv.bytesToString (.slice (some ⟨b,off,none⟩) len len)).run P w = .ok (.string ⟨l.toArray⟩) w:=by
 have f:=run_loadCells_list (P:=P) w ⟨b,off,none⟩ (byteCells l) (λj v d=>by
  rw[Addr.add_lit,GZ o,<-Array.getElem?_toList];rw[<-i,List.getElem?_take]at d
  split at d
  ·rw[List.getElem?_drop]at d;exact d
  ·cases d)
 have p:(byteCells l).length=len:=by simp[byteCells,k]
 rw[p]at f
 have key:∀(g:Value->ByteArray->Sem (ForInStep ByteArray)),(∀n s,g (.int .u8 n) s=pure (ForInStep.yield (s.push (UInt8.ofNat n.toNat))))->∀(l:List UInt8) (a:ByteArray),(forIn (byteCells l) a g).run P w = .ok ⟨a.data++l.toArray⟩ w:=by
  intro g m l
  induction l with
  | nil=>intro a;simp[byteCells]
  | cons x l ih=>
   intro a;have:=ih (a.push (UInt8.ofNat ((x.toNat:Int)).toNat));simp only[byteCells,List.map_cons,List.forIn_cons]at this ⊢;simp only[m,Sem.run_bind,Sem.run_pure,Result.andThen];rw[this];simp[ByteArray.push]
 unfold Conv.bytesToString;simp only[Sem.run_bind,f,Result.andThen,Sem.run_pure];simp;rw[key _ (λn s=>rfl)];simp
theorem LB {f:FuncId} (a:UO P f) (args:Array Value) (w:World):(callFunc f args).run P w = .ok (.enter f args) w:=by
 obtain⟨c,a,b,d⟩:=a;have hn' : c.name ≠ "runtime.NumGoroutine" := by simpa using d
 have hb':¬c.body=none:=by intro h;rw[h]at b;cases b
 simp[callFunc,program,Sem.run,a];rw[if_neg hn',if_neg hb']
theorem Hh (s:Sem Value) {v:Value} {w a:World} (b:s.run P w = .ok v a):(do pure (.value (<-s)):Sem Next).run P w = .ok (.value v) a:=by
 rw[Sem.run_bind,b];rfl
theorem MW {o:Oper} {K:Value->Prop} (n:D7 P qf o = .read) (g:Rs P o ρ h K):∃v,OpY P o ρ h v/\K v:=by
 obtain⟨Y,op,F,pos,E,guard⟩:=o;cases op <;> simp only[Rs,D7]at g n
 case slice t x lo hi mx=>cases n
 case binOp op t x y yt=>split at n <;> (try split at n) <;> cases n
 case lookup t x ix ok=>
  cases N:P.underlying t with
  | none=>rw[N]at g;exact g.elim
  | some d=>
   rw[N]at g;cases d
   case map kt e=>
    simp only at g;cases j:P.underlying kt with
    | none=>rw[j]at g;exact g.elim
    | some dk=>
     cases hi:P.info? e with
     | none=>rw[j,hi]at g;exact g.elim
     | some i=>
      rw[j,hi]at g;simp only at g;cases M:i.zero with
      | none=>rw[M]at g;exact g.elim
      | some z=>
       rw[M]at g;obtain⟨b,es,D,r,hm,I,S,hf,Q⟩:=g;refine⟨_,OpY.run λw q=>Dv _ ?_,Q⟩
       have hg:(getObj b).run P w = .ok (.map es D) w:=by
        have:=q b _ I;simp[getObj,Sem.run,this]
       have U:∀ee Z,(Instr.checkKey ee (Z+1) kt (AO ρ ix)).run P w = .ok () w:=λee Z=>by
        rw[Instr.checkKey,Sem.run_bind,run_underlying j,Result.andThen_ok];cases dk <;> first | rfl | cases S
       have T:(Instr.findKey kt (AO ρ ix) es.toList).run P w = .ok r w:=by
        rw[Instr.findKey,Sem.run_bind,run_underlying j,Result.andThen_ok,hf];rfl
       have L:(zeroValue e).run P w = .ok z w:=by
        simp[zeroValue,typeInfo,hi,M]
       simp only[Instr.lookup,Sem.run_bind,run_underlying N,Result.andThen_ok,hm,hg,Sem.run_pure];rw[show (10000:Nat)=9999+1 from rfl,U,Result.andThen_ok,T,Result.andThen_ok];cases r with
       | none=>cases ok <;> simp[Sem.run_bind,L]
       | some iv=>obtain⟨_,v⟩:=iv;cases ok <;> simp
   all_goals exact g.elim
 case load t x=>
  cases s:M8 P t with
  | none=>rw[s]at g;exact g.elim
  | some sz=>
   rw[s]at g;obtain⟨b,off,c,e,fr,G,I,j⟩:=g;obtain⟨v,hv,j⟩:=HW j;refine⟨v,OpY.run λw q=>Dv _ ?_,j⟩;obtain⟨v',X,W⟩:=Ms s (q b _ I) (hv (λu=>u=v) rfl);subst W;simp only[Instr.loadAt,G,Instr.sureAddr,Sem.run_bind,Sem.run_pure,Result.andThen,X]
 case convert src dst' x=>
  cases s:P.underlying src with
  | none=>rw[s]at g;exact g.elim
  | some d=>
   rw[s]at g n;cases d
   case slice e=>
    cases B:P.underlying dst' with
    | none=>rw[B]at g;exact g.elim
    | some d2=>
     rw[B]at g;cases d2
     case string=>
      simp only at g;cases A:P.underlying e with
      | none=>rw[A]at g;exact g.elim
      | some d3=>
       rw[A]at g;cases d3
       case int k=>
        cases k
        case u8=>
         rcases g with⟨G,j⟩ | ⟨b,off,len,cap,c,e',fr,l,G,I,hl,O,j⟩
         ·refine⟨_,OpY.run λw q=>Dv _ ?_,j⟩
          simp[convert,run_underlying s,run_underlying B,run_underlying A,G,Conv.bytesToString]
         ·refine⟨_,OpY.run λw q=>Dv _ ?_,j⟩
          have X:=Pm (P:=P) (q b _ I) hl O;have W:∀J,Conv.bytesToString (.slice (some ⟨b,off,none⟩) len J)=Conv.bytesToString (.slice (some ⟨b,off,none⟩) len len):=λ_=>rfl;simp only[convert,Sem.run_bind,run_underlying s,run_underlying B,Result.andThen,run_underlying A,G];rw[W,X]
        all_goals exact g.elim
       all_goals exact g.elim
     all_goals exact g.elim
   all_goals first | exact g.elim | (cases B:P.underlying dst' with
    | none=>rw[B]at n;cases n
    | some d2=>rw[B]at n;cases d2 <;> cases n)
 case call c=>
  obtain⟨callee,args,p⟩:=c;cases callee with
  | value f=>
   cases f
   case func f=>
    obtain⟨v,hq,j⟩:=g;refine⟨v,λw q=>?_,j⟩;obtain⟨V,C⟩:=hq
    have H:(execOp (AO ρ) ⟨Y,.call ⟨.value (.func f),args,p⟩,F,pos,E,guard⟩).run P w = .ok (.enter f (Fk ρ args)) w:=by
     have:=LB V (Fk ρ args) w;simp only[execOp,resolve,Deferred.ofValue,AO,invoke,Sem.run_bind,Sem.run_pure,Result.andThen,K5]
     simpa using this
    rw[H];refine⟨rfl,(C w q).mono λe w'' A=>?_⟩;cases e <;> simp only at A ⊢
    ·obtain⟨h',a,b,c,d⟩:=A
     cases c;subst d;exact⟨rfl,a,b⟩
    ·obtain⟨h',a,b,c,d⟩:=A
     cases c
   all_goals cases n
  | invoke r m=>cases n
  | builtin b=>cases b <;> cases n
 all_goals (first | exact g.elim | cases n)
end
end Go.Pw
namespace Go.Pw
section
variable {P:Program} {ρ:Env} {h:PH} {qf:FuncId->Bool}
theorem Rh {w:World} {b o:Nat} {v:Value} {c:Array Value} {e:TypeId} {fr:Nat×Nat} (a:w.heap[b]?=some (.cells c e fr)) :
  (w.setCell ⟨b,o,none⟩ v).heap[b]?=some (.cells (c.setIfInBounds o v) e fr):=by
 simp[World.setCell,Array.getElem?_modify,a]
theorem NA {w:World} {b o x:Nat} {v:Value} (a:x≠b):(w.setCell ⟨b,o,none⟩ v).heap[x]?=w.heap[x]?:=by
 simp[World.setCell,Array.getElem?_modify,Ne.symm a]
theorem Ec (b:Nat) {e:TypeId} {fr:Nat×Nat}:∀(vs:List Value) (o:Nat) (w:World) (c:Array Value),w.heap[b]?=some (.cells c e fr) ->
  (w.setCells b o vs).heap[b]?=some (.cells (wr c o vs) e fr)/\(∀x,x≠b->(w.setCells b o vs).heap[x]?=w.heap[x]?)/\(w.setCells b o vs).heap.size=w.heap.size /\
  (w.setCells b o vs).os=w.os/\(w.setCells b o vs).tape=w.tape/\(w.setCells b o vs).output=w.output
 | [],o,w,c,hb=>⟨hb,λ_ _=>rfl,rfl,rfl,rfl,rfl⟩
 | v::r,o,w,c,hb=>by
  obtain⟨k,j,i,g,f,d⟩:=Ec b r (o+1) (w.setCell ⟨b,o,none⟩ v) _ (Rh (o:=o) (v:=v) hb);refine⟨k,λx a=>(j x a).trans (NA a),i.trans ?_,g,f,d⟩;simp[World.setCell]
theorem FA:∀(vs:List Value) (c:Array Value) (o:Nat),(wr c o vs).size=c.size
 | [],_,_=>rfl
 | v::vs,c,o=>by rw[wr,FA vs];simp
theorem EH:∀(vs:List Value) (c:Array Value) (o j:Nat),(wr c o vs)[j]?=if o<=j/\j<o+vs.length/\j<c.size then vs[j-o]? else c[j]?
 | [],c,o,j=>by rw[if_neg (by simp;omega)];rfl
 | v::vs,c,o,j=>by
  rw[wr,EH vs];simp only[Array.size_setIfInBounds,List.length_cons]
  by_cases b:o=j
  ·subst b
   rw[if_neg (by omega)]
   by_cases a:o<c.size
   ·rw[if_pos ⟨by omega,by omega,a⟩];simp[a]
   ·rw[if_neg (by omega)];simp[a]
  ·rw[Array.getElem?_setIfInBounds_ne b]
   by_cases a:o+1<=j/\j<o+1+vs.length/\j<c.size
   ·rw[if_pos a,if_pos (by omega)]
    have:j-o=(j-(o+1))+1:=by omega
    rw[this,List.getElem?_cons_succ]
   ·rw[if_neg a,if_neg (by omega)]
theorem Pu {c:Array Value} {k:Nat} {vs:List Value} (d:k+vs.length<=c.size):wr c k vs=(c.toList.take k++vs++c.toList.drop (k+vs.length)).toArray:=by
 apply Array.ext_getElem?;intro j;rw[EH];simp only[List.getElem?_toArray]
 by_cases a:k<=j/\j<k+vs.length/\j<c.size
 ·rw[if_pos a,List.getElem?_append_left (by simp;omega),List.getElem?_append_right (by simp;omega)]
  congr 1
  simp;omega
 ·rw[if_neg a]
  by_cases b:j<k
  ·rw[List.getElem?_append_left (by simp;omega),List.getElem?_append_left (by simp;omega),List.getElem?_take,if_pos b];simp
  ·have e:k+vs.length<=j:=by
    rcases Nat.lt_or_ge j (k+vs.length)with h | h
    ·exact absurd ⟨by omega,h,by omega⟩ a
    ·exact h
   rw[List.getElem?_append_right (by simp;omega),List.getElem?_drop];simp
   congr 1
   omega
theorem QZ {w:World} {b off n:Nat} {c:Array Value} {e:TypeId} {fr:Nat×Nat} (d:w.heap[b]?=some (.cells c e fr)) (a:YB fr off n) (j:Nat) (f:j<n):w.frozen? ⟨b,off+j,none⟩=false:=by
 unfold World.frozen?;rw[d];obtain⟨lo,hi⟩:=fr;unfold YB at a;simp at a ⊢;omega
theorem I9 {w:World} {b off:Nat} {c:Array Value} {e:TypeId} {fr:Nat×Nat} {vs:List Value} (d:w.heap[b]?=some (.cells c e fr)) (k:off+vs.length<=c.size) (g:vs.all Value.oneCell'=true) (i:YB fr off vs.length) :
  (storeCells ⟨b,off,none⟩ vs).run P w = .ok () (w.setCells b off vs):=by
 have:=run_storeCells_cells (P:=P) b off vs 0 w (λj a=>by
  rw[Nat.add_zero,GZ d];simp;omega) (λj a=>by rw[Nat.add_zero];exact QZ d i j a) (λv f=>List.all_eq_true.1 g v f)
 simpa using this
theorem BF.set {w c:World} {b:Nat} {o:Obj} (e:BF h w) (g:c.heap[b]?=some o) (f:∀x,x≠b->c.heap[x]?=w.heap[x]?):BF (ins h b o) c:=λx p a=>by
 by_cases d:x=b
 ·subst d;rw[AD]at a;injection a with a;subst a;exact g
 ·rw[Aq _ _ d]at a;rw[f x d];exact e x p a
theorem Ax.set {w a:World} {b:Nat} {o p:Obj} (f:h b=some o) (l:∀x,x≠b->a.heap[x]?=w.heap[x]?) (k:a.heap.size=w.heap.size) (j:a.os=w.os) (i:a.tape=w.tape) (g:a.output=w.output):Ax h (ins h b p) w a:=
 ⟨j,i,g,Nat.le_of_eq k.symm,λx m d=>by
  have c:x≠b:=λe=>by subst e;rw[f]at d;cases d
  exact⟨by rw[Aq _ _ c];exact d,l x c⟩⟩
theorem Oh (a:Array Obj) (o:Obj):(a.push o)[a.size]?=some o:=by simp
theorem LS (a:Array Obj) (o:Obj) {x:Nat} (b:x≠a.size):(a.push o)[x]?=a[x]?:=by
 rw[Array.getElem?_push];rw[if_neg b]
theorem BF.push {w c:World} {o:Obj} (d:BF h w) (e:c.heap=w.heap.push o):BF (ins h w.heap.size o) c:=λx p a=>by
 rw[e]
 by_cases b:x=w.heap.size
 ·subst b;rw[AD]at a;injection a with a;subst a;exact Oh _ _
 ·rw[Aq _ _ b]at a;rw[LS _ _ b];exact d x p a
theorem Ax.push {w a:World} {o:Obj} (c:a.heap=w.heap.push o) (g:a.os=w.os) (f:a.tape=w.tape) (e:a.output=w.output):Ax h (ins h w.heap.size o) w a:=
 ⟨g,f,e,by rw[c];simp,λx i d=>by
  have b:x≠w.heap.size:=by omega
  exact⟨by rw[Aq _ _ b];exact d,by rw[c,LS _ _ b]⟩⟩
theorem Ji (w:World) {X Y:Array Value} (e:TypeId) (a:X.toList=Y.toList):(w.drew.alloc (.cells X e)).heap=w.heap.push (.cells Y e):=by
 have:X=Y:=Array.ext' a;subst this
 rfl
theorem OA (f:Nat->Value):(Array.range 0).map f=#[]:=by apply Array.ext';simp
theorem RV (z:Array Value) (n m:Nat) (a:z.size=n):(Builtin.zeroCells z m).toList.length=m*n:=by
 rw[Array.length_toList,size_zeroCells,a]
theorem Lw {t tx S e:TypeId} {i:TypeInfo} {z:Value} {d:TypeDesc} (ht:P.underlying t=some (.slice e)) (hi:P.info? e=some i) (hz:i.zero=some z)
  (htx:P.underlying tx=some d) (hd:∀k,d≠.int k) (hs0:0<i.size) (hb0:0<i.bytes) (hzs:z.cells.size=i.size) {str:Bool} (M:(str=true/\d = .string)\/(str=false/\∃T,d = .slice T))
  {s x:Value} {K:Value->PH->Prop} (hv:Ab str e i.size i.bytes s x h K) {w:World} (L:BF h w) :
  (∃A q,(Builtin.append_ #[t,tx] S #[s,x]).run P w = .ok A q/\∃h',BF h' q/\Ax h h' w q/\K A h') \/
  False:=by
 -- the source
 have src:∃n news,(Src P i.size tx x n news w)/\Builtin.lenOf x=Sem.pure n /\
   (∀B base,(∀a,base=some a->Room.holdsV w a (B*i.size)=true/\w.frozen? (a.add (B/2*i.size))=false/\∀b off l c,x = .slice (some ⟨b,off,none⟩) l c->b≠a.block)->0<n->(Builtin.mayShare i.size B n base x).runT P w #[]=(.ok false w,#[])) /\
   ((s = .slice none 0 0/\(n=0->K (.slice none 0 0) h) /\
    (0<n->n*i.bytes<=roomBytes/\∀b cap f,h b=none->n<=cap->news.length+f.length=cap*i.size->K (.slice (some ⟨b,0,none⟩) n cap) (ins h b (.cells (news++f).toArray e)))) \/
   (∃g len cap c,s = .slice (some ⟨g,0,none⟩) len cap/\h g=some (.cells c e (0,0))/\c.size=cap*i.size/\len<=cap/\(len+n)*i.bytes<=roomBytes/\(∀b off l c,x = .slice (some ⟨b,off,none⟩) l c->b≠g) /\
    ∀b r f,(b=g\/h b=none)->len+n<=r->(c.toList.take (len*i.size)++news).length+f.length=r*i.size ->
     K (.slice (some ⟨b,0,none⟩) (len+n) r) (ins (Eh h g) b (.cells (c.toList.take (len*i.size)++news++f).toArray e))) \/
   Yr e i.size i.bytes n news s h K):=by
  rcases hv with⟨N,sv,rfl,h1,E⟩ | ⟨N,c,rfl,E⟩ | ⟨N,b,off,len,cap,c,T,fr,rfl,hb,hl,Z,E⟩
  ·have O:d = .string:=by rcases M with⟨_,h⟩ | ⟨h,_⟩;exact h;rw[N]at h;cases h
   subst O;refine⟨sv.size,Go.byteCells sv,by rw[h1];exact Src.ofString w htx sv,rfl,λB base ha _=>?_,E⟩;exact runT_mayShare_string w i.size B sv.size base sv λa hba=>⟨(ha a hba).1,(ha a hba).2.1⟩
  ·have O:∃T,d = .slice T:=by rcases M with⟨h,_⟩ | ⟨_,h⟩;rw[N]at h;cases h;exact h
   obtain⟨T,rfl⟩:=O;exact⟨0,[],Src.ofNil w htx c,rfl,λ_ _ _ h0=>absurd h0 (by omega),E⟩
  ·have O:∃T,d = .slice T:=by rcases M with⟨h,_⟩ | ⟨_,h⟩;rw[N]at h;cases h;exact h
   obtain⟨e'',rfl⟩:=O;have hbw:=L b _ hb
   have hcell:∀j u,((c.toList.drop off).take (len*i.size))[j]?=some u->w.cell? ((⟨b,off,none⟩:Addr).add j)=some u:=λj u G=>by
    rw[add_lit,GZ hbw,<-Array.getElem?_toList];rw[List.getElem?_take]at G
    split at G
    ·rw[List.getElem?_drop]at G;exact G
    ·cases G
   refine⟨len,_,Src.ofSlice w htx ⟨b,off,none⟩ len cap _ (by simp;omega) hcell Z,rfl,λB base ha h0=>?_,E⟩
   have U:Room.holdsV w ⟨b,off,none⟩ (len*i.size)=true:=by
    simp[Room.holdsV,World.shape?,hbw];omega
   cases base with
   | none=>
    simp[-Sem.runT_eq,Builtin.mayShare,Room.Sem.bind_def,Room.Sem.runT_bind,Room.runT_holdsCells',Room.Sem.runT_pure',U]
   | some a=>
    obtain⟨a1,a2,a3⟩:=ha a rfl;have hne:=a3 b off len cap rfl;simp[-Sem.runT_eq,Builtin.mayShare,Room.Sem.bind_def,frozen,Sem.bind,Sem.runT,Room.Sem.runT_bind,Room.runT_holdsCells',Room.Sem.runT_pure',a1,U,a2,Ne.symm hne]
 obtain⟨n,news,m,hlen,V,E⟩:=src
 rcases E with⟨rfl,hk0,E⟩ | ⟨g,len,cap,c,rfl,hg,hcs,hle,hcap,hap,E⟩ | ⟨g,off,len,cap,c,T,fr,rfl,hin⟩
 rotate_left 2
 ·-- in place,or away from a row of another one's
  left
  rcases hin with⟨v,hg,C,hfr,E⟩ | ⟨v,hB,hcn,hg,hlsz,Z,E⟩
  ·have y:=L g _ hg
   have J:=run_append_room_src (P:=P) w t tx S e i ht hi g off len cap x n news m v (λj hj=>by
    rw[GZ y];simp;omega) (λj hj=>QZ y hfr j hj)
   obtain⟨s1,s2,s3,s4,s5,s6⟩:=Ec g news (off+len*i.size) w c y;exact⟨_,_,J,_,L.set s1 s2,Ax.set hg s2 s3 s4 s5 s6,E⟩
  ·have y:=L g _ hg
   have D:(Builtin.firstCells i.size len (.slice (some ⟨g,off,none⟩) len cap)).run P w.drew = .ok ((c.toList.drop off).take (len*i.size)).toArray w.drew:=
    run_firstCells_some w.drew i.size len ⟨g,off,none⟩ len cap _ (by simp;omega) (λj u G=>by
     rw[add_lit];have:w.drew.heap[g]?=some (.cells c T (0,0)):=y;rw[GZ this,<-Array.getElem?_toList];rw[List.getElem?_take]at G
     split at G
     ·rw[List.getElem?_drop]at G;exact G
     ·cases G)
   have hB':(len+n)*i.bytes<=140737488355328:=by simpa [roomBytes]using hB
   have hnb:(len+n)<=(len+n)*i.bytes:=Nat.le_mul_of_pos_right _ hb0;have C:Builtin.nextslicecap (len+n) cap*i.bytes<=281474976710656:=growslice_fits (by omega) hB';have J:=run_append_grow_src (P:=P) w t tx S e i z ht hi hz (some ⟨g,off,none⟩) len cap _ D x n news m (by omega) (by omega) C;have X:=grownCap_ge w (len+n) cap e;refine⟨_,_,J,_,BF.push L (Ji w e (by simp)),Ax.push (Ji w e (by simp)) rfl rfl rfl,E w.heap.size (grownCap w (len+n) cap e) (Builtin.zeroCells z.cells (grownCap w (len+n) cap e-(len+n))).toList (L.none (Nat.le_refl _)) X ?_⟩;rw[RV _ _ _ hzs,List.length_append,m.newsLen];have:((c.toList.drop off).take (len*i.size)).length=len*i.size:=by simp;omega
   rw[this,<-Nat.add_mul,<-Nat.add_mul];congr 1;omega
 ·-- onto nil
  have D:(Builtin.firstCells i.size 0 (.slice none 0 0)).run P w.drew = .ok ([]:List Value).toArray w.drew:=run_firstCells_none w.drew i.size 0 0 0
  by_cases hn0:n=0
  ·subst hn0
   left
   refine⟨.slice none 0 0,w,?_,h,L,Ax.refl h w,hk0 rfl⟩;have hnl:news = []:=List.eq_nil_of_length_eq_zero (by have:=m.newsLen;simpa using this)
   rcases m.kind with⟨T,hkd⟩ | hkd <;> simp[Builtin.append_,run_underlying ht,run_underlying hkd,Go.sizeOf,typeInfo,hi,m.len,m.cells]
  ·obtain⟨hB0,E⟩:=E (by omega)
   have I:∀(F:Value->World->Prop),((0+n)*i.bytes<=140737488355328->∃A q,(Builtin.append_ #[t,tx] S #[.slice none 0 0,x]).run P w = .ok A q/\F A q)->∃A q,(Builtin.append_ #[t,tx] S #[.slice none 0 0,x]).run P w = .ok A q/\F A q:=λ_ W=>W (by simpa [roomBytes]using hB0)
   rcases I
    (λA q=>∃b cap f,A = .slice (some ⟨b,0,none⟩) n cap/\h b=none/\n<=cap/\news.length+f.length=cap*i.size/\BF (ins h b (.cells (news++f).toArray e)) q/\Ax h (ins h b (.cells (news++f).toArray e)) w q)
    (λhB=>by
     have hnb:n<=n*i.bytes:=Nat.le_mul_of_pos_right _ hb0;simp only[Ad]at hB;have J:=run_append_grow_src (P:=P) w t tx S e i z ht hi hz none 0 0 [] D x n news m (by omega) (by omega) (by rw[nextslicecap_zero (by omega)];simp only[Ad];omega);refine⟨_,_,J,w.heap.size,grownCap w (0+n) 0 e,(Builtin.zeroCells z.cells (grownCap w (0+n) 0 e-(0+n))).toList,by simp,L.none (Nat.le_refl _),by simpa using grownCap_ge w (0+n) 0 e,?_,?_,?_⟩
     ·have X:=grownCap_ge w (0+n) 0 e
      rw[RV _ _ _ hzs,m.newsLen];rw[<-Nat.add_mul];congr 1;omega
     ·exact BF.push L (Ji w e (by simp))
     ·exact Ax.push (Ji w e (by simp)) rfl rfl rfl)with⟨A,q,J,b,cap,f,rfl,hb,hnc,H,W,Y⟩
   left
   exact⟨_,q,J,_,W,Y,E b cap f hb hnc H⟩
 ·-- onto a row of one's own
  have y:=L g _ hg;have hlsz:len*i.size<=c.size:=by rw[hcs];exact Nat.mul_le_mul_right _ hle
  have D:(Builtin.firstCells i.size len (.slice (some ⟨g,0,none⟩) len cap)).run P w.drew = .ok (c.toList.take (len*i.size)).toArray w.drew:=
   run_firstCells_some w.drew i.size len ⟨g,0,none⟩ len cap _ (by simp;omega) (λj u G=>by
    rw[add_lit];have:w.drew.heap[g]?=some (.cells c e (0,0)):=y;rw[GZ this,<-Array.getElem?_toList];rw[List.getElem?_take]at G
    split at G
    ·simpa using G
    ·cases G)
  have hsh:0<n->(Builtin.mayShare i.size len n (some ⟨g,0,none⟩) x).runT P w #[]=(.ok false w,#[]):=V len (some ⟨g,0,none⟩) (λa ha=>by
   cases ha;refine⟨by simp[Room.holdsV,World.shape?,y,hlsz],?_,λb off l c' U=>hap b off l c' U⟩;rw[add_lit];unfold World.frozen?;simp[y])
  have I:∀(F:Value->World->Prop),((len+n)*i.bytes<=140737488355328->∃A q,(Builtin.append_ #[t,tx] S #[.slice (some ⟨g,0,none⟩) len cap,x]).run P w = .ok A q/\F A q)->∃A q,(Builtin.append_ #[t,tx] S #[.slice (some ⟨g,0,none⟩) len cap,x]).run P w = .ok A q/\F A q:=λ_ W=>W (by simpa [roomBytes]using hcap)
  rcases I
    (λA q=>∃b r f,A = .slice (some ⟨b,0,none⟩) (len+n) r/\(b=g\/h b=none)/\len+n<=r/\(c.toList.take (len*i.size)++news).length+f.length=r*i.size /\
     BF (ins (Eh h g) b (.cells (c.toList.take (len*i.size)++news++f).toArray e)) q/\Ax h (ins (Eh h g) b (.cells (c.toList.take (len*i.size)++news++f).toArray e)) w q)
    (λhB=>by
     have drop:∀(q:World) (b:Nat) (o:Obj),BF (ins h b o) q->BF (ins (Eh h g) b o) q:=λq b o W x p hp=>by
      refine W x p ?_
      by_cases U:x=b
      ·subst U;rw[AD]at hp ⊢;exact hp
      ·rw[Aq _ _ U]at hp ⊢
       unfold Eh at hp;cases hq:Nat.beq x g <;> rw[hq]at hp
       ·exact hp
       ·cases hp
     have Q:∀(q:World) (b:Nat) (o:Obj),Ax h (ins h b o) w q->Ax h (ins (Eh h g) b o) w q:=λq b o Y=>
      ⟨Y.os,Y.tape,Y.output,Y.size,λx U hn=>by
       obtain⟨a1,a2⟩:=Y.keep x U hn;refine⟨?_,a2⟩
       by_cases hxb:x=b
       ·subst hxb;rw[AD]at a1;cases a1
       ·rw[Aq _ _ hxb]
        unfold Eh;cases Nat.beq x g
        ·exact hn
        ·rfl⟩
     by_cases v:len+n<=cap
     ·have C:len*i.size+news.length<=c.size:=by rw[m.newsLen,hcs,<-Nat.add_mul];exact Nat.mul_le_mul_right _ v
      have J:=run_append_room_src (P:=P) w t tx S e i ht hi g 0 len cap x n news m v (λj hj=>by
        rw[show 0+len*i.size+j=(0+len*i.size)+j from rfl,GZ y];simp;omega) (λj hj=>by unfold World.frozen?;simp[y])
      simp only[Ad]at J;obtain⟨s1,s2,s3,s4,s5,s6⟩:=Ec g news (len*i.size) w c y;rw[Pu C]at s1;refine⟨_,_,J,g,cap,c.toList.drop (len*i.size+news.length),rfl,.inl rfl,v,?_,drop _ _ _ (L.set s1 s2),Q _ _ _ (Ax.set hg s2 s3 s4 s5 s6)⟩;simp;omega
     ·have hnb:(len+n)<=(len+n)*i.bytes:=Nat.le_mul_of_pos_right _ hb0
      have C:Builtin.nextslicecap (len+n) cap*i.bytes<=281474976710656:=growslice_fits (by omega) hB;have J:=run_append_grow_src (P:=P) w t tx S e i z ht hi hz (some ⟨g,0,none⟩) len cap _ D x n news m (by omega) (by omega) C;have X:=grownCap_ge w (len+n) cap e;refine⟨_,_,J,w.heap.size,grownCap w (len+n) cap e,(Builtin.zeroCells z.cells (grownCap w (len+n) cap e-(len+n))).toList,rfl,.inr (L.none (Nat.le_refl _)),X,?_,drop _ _ _ (BF.push L ?_),Q _ _ _ (Ax.push ?_ rfl rfl rfl)⟩
      ·rw[RV _ _ _ hzs,List.length_append,m.newsLen]
       have:(c.toList.take (len*i.size)).length=len*i.size:=by simp;omega
       rw[this,<-Nat.add_mul,<-Nat.add_mul];congr 1;omega
      ·exact Ji w e (by simp)
      ·exact Ji w e (by simp))with⟨A,q,J,b,r,f,rfl,hb,hnc,H,W,Y⟩
  left
  exact⟨_,q,J,_,W,Y,E b r f hb hnc H⟩
theorem TG {t e:TypeId} {i:TypeInfo} {z:Value} (x:P.underlying t=some (.slice e)) (hi:P.info? e=some i) (A:i.zero=some z) {l c:Value} {K:Value->PH->Prop}
  (B:IY e i.size i.bytes z.cells l c h K) {w:World} (v:BF h w) :
  (∃p f,(Instr.makeSlice t l c).run P w = .ok p f/\∃g,BF g f/\Ax h g w f/\K p g) \/
  False:=by
 obtain⟨k,y,n,m,rfl,rfl,h0,C,E,F,D⟩:=B;have j:IntKind.i64.wrap n=n:=by rw[IntKind.wrap_i64];omega
 have o:IntKind.i64.wrap m=m:=by rw[IntKind.wrap_i64];omega
 have u:¬m<0:=by omega
 have hb':(i.bytes:Int)*m<=281474976710656:=by simpa using E
 have s:¬(281474976710656<(i.bytes:Int)*m):=by omega
 have r:¬n<0:=by omega
 have q:¬m<n:=by omega
 have b:(Instr.makeSlice t (.int k n) (.int y m)).run P w = .ok (.slice (some ⟨w.heap.size,0,none⟩) n.toNat m.toNat) (w.alloc (.cells (rep z.cells (m.toNat*i.size)) e)):=by
  by_cases d:m.toNat*i.size=0
  ·by_cases a:m.toNat*i.bytes>roomBytes <;>
    simp[Instr.makeSlice,run_underlying x,typeInfo,hi,asInt,asIntOf,j,o,u,s,r,q,Go.sizeOf,askRoom,a,mark,d,newRow,newObj,rep,Sem.run,OA]
  ·by_cases a:m.toNat*i.bytes>roomBytes <;>
    simp[Instr.makeSlice,run_underlying x,typeInfo,hi,asInt,asIntOf,j,o,u,s,r,q,Go.sizeOf,askRoom,a,mark,d,newRow,newObj,rep,Sem.run,zeroValue,A]
 left
 refine⟨_,_,b,_,BF.push v ?_,Ax.push ?_ rfl rfl rfl,D w.heap.size (v.none (Nat.le_refl _))⟩
 ·rfl
 ·rfl
theorem Ts {g:FuncId} {args:Array Value} {K:Value->PH->Prop} {Kp:List PanicEntry->PH->Prop} (i:A7 P g args h (AK.elim K Kp)) {w:World} (f:BF h w) :
  Calls P g args w λe a=>match e with
   | .returned v=>∃b,BF b a/\Ax h b w a/\K v b
   | .panicked c=>∃b,BF b a/\Ax h b w a/\Kp c b
   | .outgrown=>False:=
 (i.2 w f).mono λe a d=>by
  cases e <;> simp only at d ⊢ <;> exact d
theorem Ov {o:Oper} {K:Value->PH->Prop} {Kp:List PanicEntry->PH->Prop} (j:nE P o ρ h K Kp):OpL P o ρ h K Kp:=by
 obtain⟨D,op,q,pos,u,guard⟩:=o;intro w E;cases op <;> simp only[nE]at j
 case store t a x=>
  cases Q:CB P t with
  | none=>rw[Q]at j;exact j.elim
  | some n=>
   rw[Q]at j;obtain⟨b,off,c,e,fr,ha,T,hn,hl,ho,U,H⟩:=j
   left
   have L:=E b _ T;have J:(AO ρ x).cells.toList.length=n:=by simpa using hn
   have hst:=I9 (P:=P) (vs:=(AO ρ x).cells.toList) L (by rw[J];exact hl) ho (by rw[J];exact U);obtain⟨s1,s2,s3,s4,s5,s6⟩:=Ec b (AO ρ x).cells.toList off w c L
   have A:(execOp (AO ρ) ⟨D,.store t a x,q,pos,u,guard⟩).run P w = .ok .skip (w.setCells b off (AO ρ x).cells.toList):=by
    simp only[execOp,Instr.storeAt,ha,Instr.sureAddr,storeVar,Sem.run_bind,Sem.run_pure,Result.andThen,C6 Q,hn,ne_eq,Bx,if_false,hst]
   rw[A];exact⟨_,E.set s1 s2,Ax.set T s2 s3 s4 s5 s6,H⟩
 case buildSlice t len ps=>
  cases F:P.underlying t with
  | none=>rw[F]at j;exact j.elim
  | some d=>
   rw[F]at j;cases d
   case slice e=>
    simp only at j;cases Q:CB P e with
    | none=>rw[Q]at j;exact j.elim
    | some n=>
     cases M:Er P e with
     | none=>rw[Q,M]at j;exact j.elim
     | some z=>
      rw[Q,M]at j;obtain⟨hmax,cs,U,H⟩:=j
      left
      obtain⟨zv,hzr,hzc⟩:=FU M w
      have W:∀(N:Nat->Option (Nat×Nat)) (zz:Array Value),Instr.fill N zz ((ps.map λ(i,x)=>(i,AO ρ x)).toList)=Instr.fill N zz (Fp ρ ps):=λN zz=>by
       unfold Fp;simp
      have hmax':¬(len*n>2^24):=by omega
      have A:(Instr.buildSlice t len (ps.map λ(i,x)=>(i,AO ρ x))).run P w = .ok (.slice (some ⟨w.heap.size,0,none⟩) len len) (w.alloc (.cells cs e)):=by
       have hf':Instr.fill (λi=>some (i*n,n)) (rep z (len*n)) ((ps.map λ(i,x)=>(i,AO ρ x)).toList)=some cs:=by rw[W,U]
       unfold rep at hf'
       by_cases h0:len*n=0
       ·rw[h0,OA]at hf'
        have hmax0:¬(0>2^24):=by omega
        simp[Instr.buildSlice,run_underlying F,Result.andThen,C6 Q,h0,OA];simp only[Array.toList_map]at hf';rw[hf'];simp[newRow,newObj,Sem.run]
       ·simp only[Instr.buildSlice,Sem.run_bind,run_underlying F,Result.andThen,C6 Q,hmax',if_false,h0,hzr,Sem.run_pure,hzc,hf']
        simp[newRow,newObj,Sem.run]
      have G:(execOp (AO ρ) ⟨D,.buildSlice t len ps,q,pos,u,guard⟩).run P w = .ok (.value (.slice (some ⟨w.heap.size,0,none⟩) len len)) (w.alloc (.cells cs e)):=Hh _ A;rw[G];refine⟨_,BF.push E ?_,Ax.push ?_ rfl rfl rfl,H w.heap.size (E.none (Nat.le_refl _))⟩
      ·rfl
      ·rfl
   all_goals exact j.elim
 case makeMap t r=>
  cases r with
  | some r=>exact j.elim
  | none=>
   left
   have I:(Instr.makeMap t none).run P w = .ok (.map (some w.heap.size)) {w with heap:=w.heap.push (.map #[] 0)}:=by
    simp[Instr.makeMap,newObj,Sem.run]
   have A:(execOp (AO ρ) ⟨D,.makeMap t none,q,pos,u,guard⟩).run P w = .ok (.value (.map (some w.heap.size))) {w with heap:=w.heap.push (.map #[] 0)}:=Hh _ I;rw[A];exact⟨_,BF.push E rfl,Ax.push rfl rfl rfl rfl,j w.heap.size (E.none (Nat.le_refl _))⟩
 case insert t m k v=>
  cases F:P.underlying t with
  | none=>rw[F]at j;exact j.elim
  | some d=>
   rw[F]at j;cases d
   case map kt e=>
    simp only at j;cases X:P.underlying kt with
    | none=>rw[X]at j;exact j.elim
    | some dk=>
     rw[X]at j;obtain⟨b,es,C,hm,T,hkd,U,H⟩:=j
     left
     have L:=E b _ T;have hlt:=E.lt T;have hg:(getObj b).run P w = .ok (.map es C) w:=by simp[getObj,Sem.run,L]
     have hck:∀ee nn,(Instr.checkKey ee (nn+1) kt (AO ρ k)).run P w = .ok () w:=λee nn=>by
      rw[Instr.checkKey,Sem.run_bind,run_underlying X,Result.andThen_ok];cases dk <;> first | rfl | cases hkd
     have hfk:(Instr.findKey kt (AO ρ k) es.toList).run P w = .ok none w:=by
      rw[Instr.findKey,Sem.run_bind,run_underlying X,Result.andThen_ok,U];rfl
     have I:(Instr.mapUpdate t (AO ρ m) (AO ρ k) (AO ρ v)).run P w = .ok () {w with heap:=w.heap.setIfInBounds b (.map (es.push {key:=AO ρ k,val:=AO ρ v,born:=C}) (C+1))}:=by
      simp only[Instr.mapUpdate,Sem.run_bind,run_underlying F,Result.andThen_ok,hm,hg];rw[show (10000:Nat)=9999+1 from rfl,hck,Result.andThen_ok,hfk,Result.andThen_ok];simp[setObj,Sem.run,L]
     have A:(execOp (AO ρ) ⟨D,.insert t m k v,q,pos,u,guard⟩).run P w = .ok .skip {w with heap:=w.heap.setIfInBounds b (.map (es.push {key:=AO ρ k,val:=AO ρ v,born:=C}) (C+1))}:=by
      show (do (Instr.mapUpdate t (AO ρ m) (AO ρ k) (AO ρ v));pure Next.skip:Sem Next).run P w=_;rw[Sem.run_bind,I];rfl
     rw[A]
     have h2:∀x,x≠b->({w with heap:=w.heap.setIfInBounds b (.map (es.push {key:=AO ρ k,val:=AO ρ v,born:=C}) (C+1))}:World).heap[x]?=w.heap[x]?:=λx G=>by
      show (w.heap.setIfInBounds b _)[x]?=_;rw[Array.getElem?_setIfInBounds_ne (Ne.symm G)]
     refine⟨_,E.set (o:=.map (es.push {key:=AO ρ k,val:=AO ρ v,born:=C}) (C+1)) ?_ h2,Ax.set T h2 (by simp) rfl rfl rfl,H⟩;show (w.heap.setIfInBounds b _)[b]?=_;rw[Array.getElem?_setIfInBounds_self_of_lt hlt]
   all_goals exact j.elim
 case binOp op t x y yt=>
  obtain⟨k,a,b,f,G,hy,U,h1,h2⟩:=j
  left
  have A:∃r n,(execOp (AO ρ) ⟨D,.binOp op t x y yt,q,pos,u,guard⟩).run P w = .ok (.value (.float k r)) {w with drawn:=n}/\K (.float k r) h:=by
   cases S:f k a b with
   | some r=>
    refine⟨r,w.drawn,?_,h1 r S⟩
    have Q:(do eqGuard op t x y (AO ρ x) (AO ρ y);binOp op t (AO ρ x) (AO ρ y):Sem Value).run P w = .ok (.float k r) w:=by
     rw[G,hy];cases op <;> simp only[SJ,Option.some.injEq,reduceCtorEq]at U <;> subst U <;> simp only at S <;> simp[eqGuard,binOp,Op.floatArith,S]
    exact Dv _ Q
   | none=>
    have Q:(do eqGuard op t x y (AO ρ x) (AO ρ y);binOp op t (AO ρ x) (AO ρ y):Sem Value).run P w=(do pure (.float k (<-choose (.nanBits k a b))):Sem Value).run P w:=by
     rw[G,hy];cases op <;> simp only[SJ,Option.some.injEq,reduceCtorEq]at U <;> subst U <;> simp only at S <;> simp[eqGuard,binOp,Op.floatArith,S]
    have hch:∃r n,(do pure (.float k (<-choose (.nanBits k a b))):Sem Value).run P w = .ok (.float k ((Question.nanBits k a b).cut r)) {w with drawn:=n}:=
     ⟨w.tape w.drawn (.nanBits k a b),w.drawn+1,by
      have hq:(Question.nanBits k a b).forced=false:=rfl;simp[choose,Sem.run,hq]⟩
    obtain⟨r,n,I⟩:=hch;refine⟨_,n,Hh _ (Q.trans I),h2 S r⟩
  obtain⟨r,n,I,H⟩:=A;rw[I];exact⟨h,E,⟨rfl,rfl,rfl,Nat.le_refl _,λb _ T=>⟨T,rfl⟩⟩,H⟩
 case makeSlice t l c=>
  cases F:P.underlying t with
  | none=>rw[F]at j;exact j.elim
  | some d=>
   rw[F]at j;cases d
   case slice e=>
    simp only at j;cases hi:P.info? e with
    | none=>rw[hi]at j;exact j.elim
    | some i=>
     rw[hi]at j;simp only at j;cases M:i.zero with
     | none=>rw[M]at j;exact j.elim
     | some z=>
      rw[M]at j
      rcases TG F hi M j E with⟨v',Z,I,hh⟩ | ⟨h1,h2⟩
      ·left
       have G:(execOp (AO ρ) ⟨D,.makeSlice t l c,q,pos,u,guard⟩).run P w = .ok (.value v') Z:=Hh _ I;rw[G];exact hh
   all_goals exact j.elim
 case panic x=>
  obtain⟨t,v,G,H⟩:=j
  left
  have A:(execOp (AO ρ) ⟨D,.panic x,q,pos,u,guard⟩).run P w = .halt (.panic (.iface t v)) w:=by
   simp only[execOp,G,Instr.panic,goPanic,Sem.run_bind]
   rfl
  rw[A];exact⟨h,E,Ax.refl h w,H⟩
 case call c=>
  obtain⟨callee,args,B⟩:=c;cases callee with
  | invoke r m=>exact j.elim
  | value f=>
   have O:∀x:Operand,Ha P (AO ρ x) (Fk ρ args) h K Kp->OpL P ⟨D,.call ⟨.value x,args,B⟩,q,pos,u,guard⟩ ρ h K Kp:=by
    intro x j w E;obtain⟨g,first,cap,G,H⟩:=j
    left
    have A:(execOp (AO ρ) ⟨D,.call ⟨.value x,args,B⟩,q,pos,u,guard⟩).run P w = .ok (.enter g (first++Fk ρ args++cap)) w:=by
     have:=LB H.1 (first++Fk ρ args++cap) w;simp only[execOp,resolve,G,Deferred.ofValue,invoke,Sem.run_bind,Sem.run_pure,Result.andThen,K5];exact this
    rw[A];exact⟨rfl,Ts H E⟩
   cases f with
   | func f=>
    simp only at j;cases G:ll P f with
    | false=>
     rw[G]at j;refine O (.func f) ⟨f,#[],#[],rfl,?_⟩ w E
     simpa [AA]using j
    | true=>
     rw[G]at j
     left
     obtain⟨v,n,I,H⟩:=j w E
     have A:(execOp (AO ρ) ⟨D,.call ⟨.value (.func f),args,B⟩,q,pos,u,guard⟩).run P w = .ok (.value v) {w with drawn:=n}:=by
      simp only[execOp,resolve,Deferred.ofValue,AO,invoke,Sem.run_bind,Sem.run_pure,Result.andThen,K5]
      simpa using I
     rw[A];exact⟨h,E,⟨rfl,rfl,rfl,Nat.le_refl _,λb _ T=>⟨T,rfl⟩⟩,H⟩
   | tmp t=>exact O _ j w E
   | const v=>exact O _ j w E
   | global g=>exact O _ j w E
  | builtin b=>
   cases b
   case clear=>
    obtain⟨al⟩:=args;obtain⟨tl⟩:=B;simp only at j
    split at j
    ·rename_i _ _ x t
     cases F:P.underlying t with
     | none=>rw[F]at j;exact j.elim
     | some d=>
      rw[F]at j;cases d
      case slice e=>
       simp only at j;cases M:Er P e with
       | none=>rw[M]at j;exact j.elim
       | some z=>
        rw[M]at j
        left
        obtain⟨zv,hzr,hzc⟩:=FU M w
        have Y:execOp (AO ρ) ⟨D,.call ⟨.builtin .clear,⟨[x]⟩,⟨[t]⟩⟩,q,pos,u,guard⟩=(Builtin.clear_ #[t] q #[AO ρ x]).bind (λv=>Sem.pure (Next.value v)):=by
         unfold execOp;simp only[resolve,invoke,builtin,List.map_toArray,List.map_cons,List.map_nil]
         rfl
        rcases j with⟨p,cap,G,H⟩ | ⟨b,off,n,cap,c,e',fr,G,h0,T,hl,U,ho,H⟩
        ·have I:(Builtin.clear_ #[t] q #[AO ρ x]).run P w = .ok (.tuple #[]) w:=by
          rw[G];cases p <;> simp[Builtin.clear_,run_underlying F]
         rw[Y];rw[show (Sem.run P ((Builtin.clear_ #[t] q #[AO ρ x]).bind (λv=>Sem.pure (Next.value v))) w) = .ok (.value (.tuple #[])) w from Hh _ I];exact⟨h,E,Ax.refl _ _,H⟩
        ·have L:=E b _ T
         have hzz:(Builtin.zeroCells zv.cells n)=rep z (n*z.size):=by rw[hzc];rfl
         have J:(rep z (n*z.size)).toList.length=n*z.size:=by simp[rep]
         have hone:(rep z (n*z.size)).toList.all Value.oneCell'=true:=by
          rw[List.all_eq_true];intro v hv;simp only[rep,Array.toList_map,List.mem_map]at hv;obtain⟨i,hi,rfl⟩:=hv;have hi':i<n*z.size:=by simpa using hi
          have hzp:0<z.size:=by
           rcases Nat.eq_zero_or_pos z.size with h | h
           ·rw[h]at hi';omega
           ·exact h
          have:=Nat.mod_lt i hzp;rw[getElem!_pos z (i%z.size) this];exact ho _ (by simp)
         have hst:=I9 (P:=P) (vs:=(rep z (n*z.size)).toList) L (by rw[J];exact hl) hone (by rw[J];exact U);obtain⟨s1,s2,s3,s4,s5,s6⟩:=Ec b (rep z (n*z.size)).toList off w c L
         have I:(Builtin.clear_ #[t] q #[AO ρ x]).run P w = .ok (.tuple #[]) (w.setCells b off (rep z (n*z.size)).toList):=by
          rw[G];obtain⟨n',rfl⟩:∃n',n=n'+1:=⟨n-1,by omega⟩;simp only[Builtin.clear_];simp[run_underlying F,hzr,hzz,hst,Result.andThen]
         rw[Y];rw[show (Sem.run P ((Builtin.clear_ #[t] q #[AO ρ x]).bind (λv=>Sem.pure (Next.value v))) w) = .ok (.value (.tuple #[])) _ from Hh _ I];exact⟨_,E.set s1 s2,Ax.set T s2 s3 s4 s5 s6,H⟩
      all_goals exact j.elim
    ·exact j.elim
   case append=>
    obtain⟨al⟩:=args;obtain⟨tl⟩:=B;simp only at j
    split at j
    ·rename_i _ _ s x t tx
     cases F:P.underlying t with
     | none=>rw[F]at j;exact j.elim
     | some d=>
      rw[F]at j;cases d
      case slice e=>
       simp only at j;cases hi:P.info? e with
       | none=>rw[hi]at j;exact j.elim
       | some i=>
        rw[hi]at j;simp only at j;cases M:i.zero with
        | none=>rw[M]at j;exact j.elim
        | some z=>
         rw[M]at j;obtain⟨hs0,hb0,hzs,j⟩:=j
         have fin:(∃v' Z,(Builtin.append_ #[t,tx] q #[AO ρ s,AO ρ x]).run P w = .ok v' Z/\∃h',BF h' Z/\Ax h h' w Z/\K v' h') \/
           False:=by
          cases V:P.underlying tx with
          | none=>rw[V]at j;exact j.elim
          | some d2=>
           rw[V]at j;cases d2
           case string=>exact Lw F hi M V (λk h=>by cases h) hs0 hb0 hzs (.inl ⟨rfl,rfl⟩) j E
           case slice e2=>exact Lw F hi M V (λk h=>by cases h) hs0 hb0 hzs (.inr ⟨rfl,e2,rfl⟩) j E
           all_goals exact j.elim
         have Y:execOp (AO ρ) ⟨D,.call ⟨.builtin .append,⟨[s,x]⟩,⟨[t,tx]⟩⟩,q,pos,u,guard⟩=(Builtin.append_ #[t,tx] q #[AO ρ s,AO ρ x]).bind (λv=>Sem.pure (Next.value v)):=by
          unfold execOp;simp only[resolve,invoke,builtin,List.map_toArray,List.map_cons,List.map_nil]
          rfl
         rcases fin with⟨v',Z,I,hh⟩ | ⟨h1,h2⟩
         ·left
          have G:(execOp (AO ρ) ⟨D,.call ⟨.builtin .append,⟨[s,x]⟩,⟨[t,tx]⟩⟩,q,pos,u,guard⟩).run P w = .ok (.value v') Z:=by
           rw[Y];exact Hh _ I
          rw[G];exact hh
      all_goals exact j.elim
    ·exact j.elim
   all_goals exact j.elim
 all_goals exact j.elim
end
section
variable {P:Program} {qf:FuncId->Bool} {ρ:Env} {h:PH}
theorem In {o:Oper} {K:Value->PH->Prop} (y:D7 P qf o = .alloc) (a:Tf P o ρ h K):∃obj mk,OpA P o ρ obj mk/\∀b,h b=none->K (mk b) (ins h b obj):=by
 obtain⟨D,op,u,pos,s,guard⟩:=o;cases op <;> simp only[Tf,D7]at a y
 case alloc e=>
  cases k:Er P e with
  | none=>rw[k]at a;exact a.elim
  | some z=>
   rw[k]at a;refine⟨.cells z e,λb=>.pointer (some ⟨b,0,none⟩),λw=>Hh _ ?_,a⟩;obtain⟨A,g,j⟩:=FU k w;simp[Instr.alloc,g,newVar,newRow,newObj,Sem.run,j]
 case box e x=>
  refine⟨.cells (AO ρ x).cells e,λb=>.pointer (some ⟨b,0,none⟩),λw=>Hh _ ?_,a⟩;simp[Instr.box,newVar,newRow,newObj,Sem.run]
 case buildSlice t len ps=>
  cases p:P.underlying t with
  | none=>rw[p]at a;exact a.elim
  | some d=>
   rw[p]at a;cases d
   case slice e=>
    simp only at a;cases l:CB P e with
    | none=>rw[l]at a;exact a.elim
    | some n=>
     cases k:Er P e with
     | none=>rw[l,k]at a;exact a.elim
     | some z=>
      rw[l,k]at a;obtain⟨v,cs,C,B⟩:=a;refine⟨.cells cs e,λb=>.slice (some ⟨b,0,none⟩) len len,λw=>?_,B⟩;obtain⟨A,g,j⟩:=FU k w
      have f:∀(c:Nat->Option (Nat×Nat)) (q:Array Value),Instr.fill c q ((ps.map λ(i,x)=>(i,AO ρ x)).toList)=Instr.fill c q (Fp ρ ps):=λc q=>by
       unfold Fp;simp
      have hmax':¬(len*n>2^24):=by omega
      have m:(Instr.buildSlice t len (ps.map λ(i,x)=>(i,AO ρ x))).run P w = .ok (.slice (some ⟨w.heap.size,0,none⟩) len len) (w.alloc (.cells cs e)):=by
       have hf':Instr.fill (λi=>some (i*n,n)) (rep z (len*n)) ((ps.map λ(i,x)=>(i,AO ρ x)).toList)=some cs:=by rw[f,C]
       unfold rep at hf'
       by_cases h0:len*n=0
       ·rw[h0,OA]at hf'
        have r:¬(0>2^24):=by omega
        simp[Instr.buildSlice,run_underlying p,Result.andThen,C6 l,h0,OA];simp only[Array.toList_map]at hf';rw[hf'];simp[newRow,newObj,Sem.run]
       ·simp only[Instr.buildSlice,Sem.run_bind,run_underlying p,Result.andThen,C6 l,hmax',if_false,h0,g,Sem.run_pure,j,hf']
        simp[newRow,newObj,Sem.run]
      exact Hh _ m
   all_goals exact a.elim
 all_goals (first | exact a.elim | cases y)
theorem My {o:Oper} (a:D7 P qf o = .alloc) (k:∀e,o.op = .alloc e->(Er P e).isSome=true) (p:∀t n g,o.op≠.buildSlice t n g) (ρ:Env):∃obj mk,OpA P o ρ obj mk:=by
 have:Tf P o ρ (λ_=>none) (λ_ _=>True):=by
  obtain⟨q,op,j,pos,i,guard⟩:=o;cases op <;> simp only[Tf,D7]at a ⊢
  case alloc e=>
   have:=k e rfl;cases h:Er P e with
   | none=>rw[h]at this;cases this
   | some z=>exact λ_ _=>trivial
  case box e x=>exact λ_ _=>trivial
  case buildSlice t n g=>exact absurd rfl (p t n g)
  case binOp op t x y yt=>split at a <;> (try split at a) <;> cases a
  case convert src dst' x=>split at a <;> cases a
  case call c=>
   obtain⟨callee,args,d⟩:=c;cases callee with
   | value f=>cases f with
    | func f=>cases l:qf f <;> simp only[l]at a <;> cases a
    | _=>cases a
   | invoke r m=>cases a
   | builtin b=>cases b <;> cases a
  all_goals cases a
 obtain⟨obj,mk,h,_⟩:=In a this;exact⟨obj,mk,h⟩
end
end Go.Pw
namespace Go.Pw
section
variable (P:Program) (qf:FuncId->Bool)
def Ou (o:Oper) (ρ:Env) (h:PH) (K:Value->PH->Prop) (Kp:List PanicEntry->PH->Prop):Prop:=
 match D7 P qf o with
 | .pure=>Rs P o ρ h (λv=>K v h)
 | .read=>Rs P o ρ h (λv=>K v h)
 | .alloc=>Tf P o ρ h K
 | .loud=>nE P o ρ h K Kp
def Eb (l:List Oper) (ρ:Env) (j:Nat):Option Bool:=
 match (l[j]?).bind (·.dst)with
 | some t=>B5 (ρ t)
 | none=>none
def isB (o:Oper):Bool:=match o.op with | .buildSlice ..=>true | _=>false
def N5 (l:List Oper) (ρ:Env) (h:PH):List Nat->Prop->Prop
 | [],X=>X
 | q::qs,X=>match l[q]? with
  | some o=>match isB o with
   | true=>N5 l ρ h qs X
   | false=>(match o.guard with
    | none=>Rs P o ρ h (λv=>match o.dst with | some d=>ρ d=v | none=>True)
    | some (j,w)=>gd (Eb l ρ j) w (Rs P o ρ h (λv=>match o.dst with | some d=>ρ d=v | none=>True)))/\N5 l ρ h qs X
  | none=>N5 l ρ h qs X
def RL (l:List Oper) (ρ:Env):List Nat->Prop->Prop
 | [],X=>X
 | q::qs,X=>match l[q]? with
  | some o=>match isB o with
   | true=>(match o.guard with
    | none=>Tf P o ρ (λ_=>none) (λ_ _=>True)
    | some (j,w)=>gd (Eb l ρ j) w (Tf P o ρ (λ_=>none) (λ_ _=>True)))/\RL l ρ qs X
   | false=>RL l ρ qs X
  | none=>RL l ρ qs X
def Ow (l:List Oper) (Q:Env->PH->Prop) (Kp:List PanicEntry->PH->Prop):List (Nat×List Nat)->Env->PH->Prop
 | [],ρ,h=>Q ρ h
 | (i,qs)::rest,ρ,h=>match l[i]? with
  | none=>False
  | some o=>RL P l ρ qs (match o.guard with
   | none=>Ou P qf o ρ h (λv a=>N5 P l ρ a qs (Ow l Q Kp rest (upd ρ o.dst v) a)) Kp
   | some (j,w)=>gq (Eb l ρ j) w (λK=>Ou P qf o ρ h K Kp) (λv a=>N5 P l ρ a qs (Ow l Q Kp rest (upd ρ o.dst v) a)) h)
def W3:Nat->Nat->List (Nat×List Nat)
 | 0,_=>[]
 | n+1,i=>(i,[])::W3 n (i+1)
def ct (B:(Exit->Env->PH->Prop)->Env->PH->Prop) (Q:Exit->Env->PH->Prop) (ρ:Env) (h:PH):Prop:=
 ∃(I:Nat->Env->PH->Prop) (n:Nat),I n ρ h/\∀n ρ h,I n ρ h->B (λe ρ' h'=>match e with
  | .normal=>∃m,m<n/\I m ρ' h'
  | e=>Q e ρ' h') ρ h
abbrev Loops:=Code->(Exit->Env->PH->Prop)->Env->PH->Prop
def den (ords:Nat->List (Nat×List Nat)) (Kp:List PanicEntry->PH->Prop) (L:Loops):Code->(Exit->Env->PH->Prop)->Env->PH->Prop
 | .skip,Q,ρ,h=>Q .normal ρ h
 | .region id ops draw,Q,ρ,h=>Ow P qf ops.toList (Q .normal) Kp (match draw with | true=>ords id | false=>W3 ops.toList.length 0) ρ h
 | .seq a b,Q,ρ,h=>den ords Kp L a (λe ρ h=>match e with | .normal=>den ords Kp L b Q ρ h | e=>Q e ρ h) ρ h
 | .cond c a b,Q,ρ,h=>dIf (AO ρ c) (den ords Kp L a Q ρ h) (den ords Kp L b Q ρ h)
 | .block id c,Q,ρ,h=>den ords Kp L c (λe ρ h=>match e with
  | .exit i=>match Nat.beq i id with | true=>Q .normal ρ h | false=>Q (.exit i) ρ h
  | e=>Q e ρ h) ρ h
 | .loop c,Q,ρ,h=>L c Q ρ h
 | .ret,Q,ρ,h=>Q .ret ρ h
 | .exit id,Q,ρ,h=>Q (.exit id) ρ h
 | _,_,_,_=>False
def DY:Code->List Code
 | .seq a b=>DY a++DY b
 | .cond _ a b=>DY a++DY b
 | .block _ c=>DY c
 | .loop c=>c::DY c
 | _=>[]
def Do (ords:Nat->List (Nat×List Nat)) (Kp:List PanicEntry->PH->Prop) (L:Loops) (c:Code):Prop:=
 ∀b∈DY c,∀Q ρ h,L b Q ρ h->∃a:Exit->Env->PH->Prop,(∀e ρ h,a e ρ h->Q e ρ h)/\ct (den P qf ords Kp L b) a ρ h
def Vi (ops:Array Oper) (a:Array Nat) (listed:Array Bool) (i:Nat):Bool:=
 (List.range ops.size).all λk=>k==i||listed.getD k true||(match ops[k]? with | some o=>D7 P qf o == .alloc||(a.getD k 0).testBit i | none=>true)
def mN (ops:Array Oper) (b:Array Nat) (listed:Array Bool) (i:Nat) (a:List Nat):Bool:=
 (List.range ops.size).all λq=>!listed.getD q false||(b.getD i 0).testBit q||(match ops[q]? with | some o=>D7 P qf o != .read | none=>true)||a.contains q
def aU (ops:Array Oper) (a:Array Nat) (listed:Array Bool) (i:Nat) (b:List Nat):Bool:=
 (List.range ops.size).all λk=>k==i||listed.getD k true||(a.getD k 0).testBit i||(match ops[k]? with
  | none=>true
  | some ok=>D7 P qf ok != .alloc||((!isB ok||b.contains k)&&(List.range ops.size).all λl=>l==i||l==k||listed.getD l true||(a.getD l 0).testBit i||(match ops[l]? with
   | none=>true
   | some ol=>D7 P qf ol != .alloc||(match ok.dst with | none=>true | some d=>!(ol.looksAt ops).contains d))))
def Mb (ops:Array Oper) (a:Array Nat):List (Nat×List Nat)->Array Bool->Bool
 | [],listed=>(List.range ops.size).all λk=>listed.getD k true
 | (i,qs)::rest,listed=>(match ops[i]? with
  | none=>false
  | some o=>(Region.ready .any ops listed).contains i&&Region.free .any ops listed i&&(match D7 P qf o with
   | .pure=>true
   | .read=>true
   | .alloc=>Vi P qf ops a listed i&&aU P qf ops a listed i qs
   | .loud=>(Vi P qf ops a listed i&&aU P qf ops a listed i qs)&&mN P qf ops a listed i qs))&&Mb ops a rest (listed.setIfInBounds i true)
def lc (ops:Array Oper) (a:Array Nat):Bool:=
 (List.range ops.size).all λq=>match ops[q]? with
  | none=>true
  | some oq=>D7 P qf oq != .read||(oq.dst.isSome&&(List.range ops.size).all λk=>match ops[k]? with
   | none=>true
   | some ok=>match ok.dst with
    | none=>true
    | some d=>(!(oq.looksAt ops).contains d||(a.getD q 0).testBit k)&&(k==q||oq.dst != some d))
def UW (ops:Array Oper):Bool:=ops.toList.all λo=>match o.op with | .alloc e=>(Er P e).isSome | _=>true
def qm (ops:Array Oper) (a:List (Nat×List Nat)):Bool:=
 Region.noSelect ops&&lc P qf ops (EJ ops)&&UW P ops&&Mb P qf ops (EJ ops) a (Array.replicate ops.size false)&&decide (a.length=ops.size)
def Cr (n:Nat) (ords:Nat->List (Nat×List Nat)):Code->Bool
 | .region id ops draw=>(ops.toList.all λo=>match o.dst with | some d=>decide (d<n) | none=>true)&&(match draw with | true=>qm P qf ops (ords id) | false=>true)
 | .seq a b=>Cr n ords a&&Cr n ords b
 | .cond _ a b=>Cr n ords a&&Cr n ords b
 | .block _ c=>Cr n ords c
 | .loop c=>Cr n ords c
 | .skip=>true
 | .ret=>true
 | .exit _=>true
 | _=>false
def Ko:List Value->Value
 | [v]=>v
 | l=>.tuple l.toArray
def O7 (b:List ResultVar) (ρ:Env) (h:PH) (K:List Value->Prop):Prop:=
 match b with
 | []=>K []
 | .tmp t::b=>O7 b ρ h (λvs=>K (ρ t::vs))
 | .cell a t::b=>match M8 P t with
  | some sz=>A0 sz (ρ a) h (λv=>O7 b ρ h (λvs=>K (v::vs)))
  | none=>False
def NC (args:Array Value):Env:=λt=>args.toList.getD t undef
def gB (ords:Nat->List (Nat×List Nat)) (L:Loops) (a:List ResultVar) (c:Code) (args:Array Value) (h:PH) (R:AK->PH->Prop):Prop:=
 den P qf ords (λc h=>R (.pan c) h) L c (λe ρ h=>match e with
  | .normal=>O7 P a ρ h (λvs=>R (.ret (Ko vs)) h)
  | .ret=>O7 P a ρ h (λvs=>R (.ret (Ko vs)) h)
  | _=>False) (NC args) h
end
section
variable {P:Program} {qf:FuncId->Bool} {n:Nat} {ords:Nat->List (Nat×List Nat)}
theorem OpY.opL {o:Oper} {ρ:Env} {h:PH} {v:Value} {K:Value->PH->Prop} {Kp:List PanicEntry->PH->Prop} (j:OpY P o ρ h v) (d:K v h):OpL P o ρ h K Kp:=by
 intro w c
 left
 have:=j w c;generalize (execOp (AO ρ) o).run P w=r at this;cases r with
 | halt x w'=>exact this.elim
 | ok nx w'=>
  cases nx <;> simp only at this ⊢
  case value u=>obtain⟨rfl,rfl⟩:=this;exact⟨h,c,Ax.refl _ _,d⟩
  case enter f args=>
   refine⟨this.1,this.2.mono λe i g=>?_⟩;cases e <;> simp only at g ⊢
   obtain⟨rfl,a,b⟩:=g;exact⟨h,a,b,d⟩
theorem OpA.opL {o:Oper} {ρ:Env} {h:PH} {obj:Obj} {mk:Nat->Value} {K:Value->PH->Prop} {Kp:List PanicEntry->PH->Prop} (d:OpA P o ρ obj mk) (c:∀b,h b=none->K (mk b) (ins h b obj)):OpL P o ρ h K Kp:=by
 intro w a
 left
 rw[d w];exact⟨_,BF.push a rfl,Ax.push rfl rfl rfl rfl,c _ (a.none (Nat.le_refl _))⟩
theorem YH {o:Oper} {ρ:Env} {h:PH} {K:Value->PH->Prop} {Kp:List PanicEntry->PH->Prop} (a:Ou P qf o ρ h K Kp):OpL P o ρ h K Kp:=by
 unfold Ou at a;cases c:D7 P qf o <;> rw[c]at a <;> simp only at a
 ·obtain⟨v,d,b⟩:=Qf c a;exact d.opY.opL b
 ·obtain⟨v,d,b⟩:=MW c a;exact d.opL b
 ·exact Ov a
 ·obtain⟨obj,mk,e,b⟩:=In c a;exact e.opL b
def AQ (n:Nat) (G:Act->Prop) (h0:PH) (w0:World) (Q:Exit->Env->PH->Prop) (Kp:List PanicEntry->PH->Prop):Exit->Act->World->Prop:=λe a w=>
 match e with
 | .outgrown=>False
 | .panic c=>G a/\∃h,BF h w/\Ax h0 h w0 w/\Kp c h
 | e=>n<=a.tmps.size/\G a/\∃h,BF h w/\Ax h0 h w0 w/\Q e (C5 a) h
theorem Pv {G:Act->Prop} {o:Oper} {a:Act} {h h0:PH} {w w0:World} {K:Value->PH->Prop} {Q:Exit->Env->PH->Prop} {Kp:List PanicEntry->PH->Prop} {next:Act->World->Prop}
  (H:OpL P o (C5 a) h K Kp) (p:G a) (q:BF h w) (m:Ax h0 h w0 w)
  (k:∀v g i,BF g i->Ax h g w i->K v g->next (a.put o.dst v) i):o.wp P a w next (AQ n G h0 w0 Q Kp)\/(o.asks P a w/\LetsOut (AQ n G h0 w0 Q Kp)):=by
 rcases H w q with H | H
 ·left
  unfold Oper.wp;rw[Kc];generalize (execOp (AO (C5 a)) o).run P w=r at H;cases r with
  | halt x i=>
   cases x <;> simp only at H ⊢
   case panic v=>obtain⟨g,b,c,d⟩:=H;exact⟨p,g,b,m.trans c,d⟩
   all_goals exact H.elim
  | ok nx i=>
   cases nx <;> simp only at H ⊢
   case value v=>obtain⟨g,b,c,d⟩:=H;exact k v g i b c d
   case skip=>obtain⟨g,b,c,d⟩:=H;exact k _ g i b c d
   case enter f args=>
    obtain⟨rfl,s⟩:=H;refine s.mono λe j l=>?_;cases e <;> simp only at l ⊢
    ·obtain⟨g,b,c,d⟩:=l;exact k _ g j b c d
    ·obtain⟨g,b,c,d⟩:=l;exact⟨p,g,b,m.trans c,d⟩
   all_goals exact H.elim
 ·exact H.elim
theorem Fv (ops:Array Oper) (ρ:Env):Eb ops.toList ρ=BS ops ρ:=by
 funext j
 unfold Eb BS B5;simp only[Array.getElem?_toList]
 rfl
theorem Mo {o:Oper} {y:Nat->Option Bool} (a:o.guard=none):Region.wanted o y=true:=by unfold Region.wanted;rw[a]
theorem Fw {o:Oper} {y:Nat->Option Bool} {j:Nat} {w:Bool} (a:o.guard=some (j,w)):Region.wanted o y=(y j==some w):=by unfold Region.wanted;rw[a]
theorem Ef {l:List Oper} {ρ:Env} {h:PH} {X:Prop}:∀(a:List Nat),N5 P l ρ h a X->X
 | [],hx=>hx
 | q::a,hx=>by
  simp only[N5]at hx
  split at hx
  ·split at hx
   ·exact Ef a hx
   ·exact Ef a hx.2
  ·exact Ef a hx
theorem JD {l:List Oper} {ρ:Env} {X:Prop}:∀(a:List Nat),RL P l ρ a X->X
 | [],hx=>hx
 | q::a,hx=>by
  simp only[RL]at hx
  split at hx
  ·split at hx
   ·exact JD a hx.2
   ·exact JD a hx
  ·exact JD a hx
theorem HZ {G:Act->Prop} {ops:Array Oper} {Q:Exit->Env->PH->Prop} {Kp:List PanicEntry->PH->Prop} {h0:PH} {w0:World} (f:∀o∈ops.toList,∀d,o.dst=some d->d<n) (x:∀o∈ops.toList,∀a v,G a->G (a.put o.dst v)) :
  ∀(e:List (Nat×List Nat)) (a:Act) (h:PH) (w:World),n<=a.tmps.size->G a->BF h w->Ax h0 h w0 w->Ow P qf ops.toList (Q .normal) Kp e (C5 a) h ->
   wpOps P ops (AQ n G h0 w0 Q Kp) (e.map (·.1)) a w
 | [],a,h,w,hs,l,hw,hf,H=>⟨hs,l,h,hw,hf,H⟩
 | (i,qs)::rest,a,h,w,hs,l,hw,hf,H=>by
  simp only[Ow,Array.getElem?_toList]at H;simp only[List.map_cons,wpOps];cases u:ops[i]? with
  | none=>rw[u]at H;exact H.elim
  | some o=>
   rw[u]at H;simp only at H ⊢;have H:=JD qs H;have k:o∈ops.toList:=by simpa using Array.mem_of_getElem? u
   have g:∀v,C5 (a.put o.dst v)=upd (C5 a) o.dst v:=λv=>IU v λd l=>Nat.lt_of_lt_of_le (f o k d l) hs;have m:∀v,n<=(a.put o.dst v).tmps.size:=λv=>by cases o.dst <;> simpa [Act.put]using hs
   have q:∀v,G (a.put o.dst v):=λv=>x o k a v l
   have z:Ou P qf o (C5 a) h (λv t=>N5 P ops.toList (C5 a) t qs (Ow P qf ops.toList (Q .normal) Kp rest (upd (C5 a) o.dst v) t)) Kp ->
     o.wp P a w (wpOps P ops (AQ n G h0 w0 Q Kp) (rest.map (·.1))) (AQ n G h0 w0 Q Kp)\/(o.asks P a w/\LetsOut (AQ n G h0 w0 Q Kp)):=λp=>
    Pv (YH p) l hw hf λv t A b c d=>HZ f x rest _ t A (m v) (q v) b (hf.trans c) (by rw[g];exact Ef qs d)
   cases s:o.guard with
   | none=>
    rw[s]at H;rw[Mo s,if_pos rfl];exact z H
   | some jw=>
    obtain⟨j,y⟩:=jw;rw[s]at H;rw[Fw s,KD,<-Fv];obtain⟨C,B⟩:=H
    by_cases r:Eb ops.toList (C5 a) j=some y
    ·rw[r];simp only[beq_self_eq_true,if_true];exact z (C r)
    ·have:(Eb ops.toList (C5 a) j==some y)=false:=by simpa using r
     rw[this];simp only[Ba,if_false];exact HZ f x rest _ h w (m _) (q _) hw hf (by rw[g];exact Ef qs (B r))
theorem QA:∀(m i:Nat),(W3 m i).map (·.1)=List.range' i m
 | 0,_=>rfl
 | m+1,i=>by simp[W3,List.range'_succ,QA m (i+1)]
theorem Fl {G:Act->Prop} {ops:Array Oper} {Q:Exit->Env->PH->Prop} {Kp:List PanicEntry->PH->Prop} {h0:PH} {w0:World} (f:∀o∈ops.toList,∀d,o.dst=some d->d<n) (r:∀o∈ops.toList,∀a v,G a->G (a.put o.dst v)) :
  ∀(e:Nat) (listed:Array Bool) (a:Act) (h:PH) (w:World),n<=a.tmps.size->G a->BF h w->Ax h0 h w0 w->Kj P ops (D7 P qf) (Q .normal) Kp e listed (C5 a) h ->
   wpAny P .any ops (AQ n G h0 w0 Q Kp) e listed a w
 | 0,listed,a,h,w,hs,l,hw,hf,H=>⟨H.1,hs,l,h,hw,hf,H.2⟩
 | e+1,listed,a,h,w,hs,l,hw,hf,H=>by
  refine⟨λh0=>⟨hs,l,h,hw,hf,H.1 h0⟩,λi hi=>?_⟩;have H:=H.2 i hi;unfold Gi at H;unfold wpOp;cases t:ops[i]? with
  | none=>rw[t]at H;exact Fl f r e _ a h w hs l hw hf H
  | some o=>
   rw[t]at H;simp only at H ⊢;have k:o∈ops.toList:=by simpa using Array.mem_of_getElem? t
   have j:∀v,C5 (a.put o.dst v)=upd (C5 a) o.dst v:=λv=>IU v λd l=>Nat.lt_of_lt_of_le (f o k d l) hs;have m:∀v,n<=(a.put o.dst v).tmps.size:=λv=>by cases o.dst <;> simpa [Act.put]using hs
   have q:∀v,G (a.put o.dst v):=λv=>r o k a v l;rw[KD]
   by_cases g:Region.wanted o (BS ops (C5 a))=true
   ·rw[if_pos g]at H
    rw[if_pos g]
    have B:OpL P o (C5 a) h (λv s=>Kj P ops (D7 P qf) (Q .normal) Kp e (listed.setIfInBounds i true) (upd (C5 a) o.dst v) s) Kp:=by
     cases A:D7 P qf o <;> rw[A]at H <;> simp only at H
     ·obtain⟨v,b,c⟩:=H;exact (b.sub (λx p z=>by cases z)).opL c
     ·obtain⟨v,b,c⟩:=H;exact b.opL c
     ·exact H.mono (λv s u=>u.2) (λ_ _ u=>u)
     ·obtain⟨obj,mk,b,c⟩:=H;exact b.opL c
    exact Pv B l hw hf λv s y b c d=>Fl f r e _ _ s y (m v) (q v) b (hf.trans c) (by rw[j];exact d)
   ·rw[if_neg g]at H
    rw[if_neg g];exact Fl f r e _ _ h w (m _) (q _) hw hf (by rw[j];exact H)
theorem ZV {ops:Array Oper} (r:Region.noSelect ops=true) (p:lc P qf ops (EJ ops)=true) (s:UW P ops=true):KL P ops (D7 P qf):=by
 have look:∀(q k:Nat) (a c:Oper) (d:Tmp),ops[q]?=some a->ops[k]?=some c->D7 P qf a = .read->c.dst=some d ->
   (d∈a.looksAt ops->((EJ ops).getD q 0).testBit k=true)/\(k≠q->a.dst≠some d)/\a.dst.isSome=true:=by
  intro q k a c d b i g l;have j:=List.all_eq_true.1 p q (List.mem_range.2 (Array.getElem?_eq_some_iff.1 b).1);simp only[b,g,bne_self_eq_false,Bool.false_or,Bool.and_eq_true]at j;have o:=List.all_eq_true.1 j.2 k (List.mem_range.2 (Array.getElem?_eq_some_iff.1 i).1);simp only[i,l,Bool.and_eq_true,Bool.or_eq_true,Bool.not_eq_true',bne_iff_ne,beq_iff_eq]at o;refine⟨λf=>?_,λe=>o.2.resolve_left e,j.1⟩
  rcases o.1 with h | h
  ·simp[f]at h
  ·exact h
 refine⟨Region.noSelect_spec r,λq k a c d b i g l f=>(look q k a c d b i g l).1 f,λq k a c d b i g e l m=>?_,λq a b g=>?_⟩
 ·exact (look q k a c d b i g m).2.1 e l
 ·have j:=List.all_eq_true.1 p q (List.mem_range.2 (Array.getElem?_eq_some_iff.1 b).1)
  simp only[b,g,bne_self_eq_false,Bool.false_or,Bool.and_eq_true]at j;exact Option.isSome_iff_exists.1 j.1
theorem VQ {ops:Array Oper} {listed:Array Bool} {i:Nat}:cnt ops listed<=cnt ops (listed.setIfInBounds i true)+1:=by
 unfold cnt
 have key:∀(l:List Nat),l.Nodup->(l.filter λk=>!listed.getD k true).length<=(l.filter λk=>!(listed.setIfInBounds i true).getD k true).length+(if i∈l then 1 else 0):=by
  intro l
  induction l with
  | nil=>intro _;simp
  | cons k l a=>
   intro b;have hnd':=List.nodup_cons.1 b;have a:=a hnd'.2
   by_cases c:i=k
   ·subst c
    rw[if_neg hnd'.1]at a;simp only[List.filter_cons,List.mem_cons,true_or,if_true]
    split <;> split <;> (try simp only[List.length_cons]) <;> omega
   ·rw[List.filter_cons,List.filter_cons,getD_set_ne true c]
    have d:(if i∈k::l then 1 else 0)=(if i∈l then 1 else 0):=by simp[c]
    rw[d]
    split <;> (try simp only[List.length_cons]) <;> omega
 have:=key (List.range ops.size) List.nodup_range
 split at this <;> omega
theorem Sy {l:List Oper} {ρ:Env} {h:PH} {X:Prop} {q:Nat} {o:Oper} (t:l[q]?=some o) (c:D7 P qf o = .read):∀(f:List Nat),N5 P l ρ h f X->q∈f ->
  (Region.wanted o (Eb l ρ)=true)->∃v,OpY P o ρ h v/\∀d,o.dst=some d->ρ d=v
 | [],_,hm,_=>by cases hm
 | p::f,hr,hm,hw=>by
  by_cases u:q=p
  ·subst u
   simp only[N5]at hr;rw[t]at hr;simp only at hr
   have i:isB o=false:=by
    obtain⟨x,op,s,pos,r,guard⟩:=o;cases op <;> first | rfl | (simp only[D7]at c;split at c <;> cases c)
   rw[i]at hr;have g:=hr.1
   have e:Rs P o ρ h (λv=>match o.dst with | some d=>ρ d=v | none=>True)->∃v,OpY P o ρ h v/\∀d,o.dst=some d->ρ d=v:=λm=>by
    obtain⟨v,a,b⟩:=MW c m;exact⟨v,a,λd m=>by rw[m]at b;exact b⟩
   cases k:o.guard with
   | none=>rw[k]at g;exact e g
   | some jw=>
    obtain⟨j,w⟩:=jw;rw[k]at g;rw[Fw k]at hw;exact e (g (by simpa using hw))
  ·refine Sy (X:=X) t c f ?_ (by simpa [u]using hm) hw
   simp only[N5]at hr
   split at hr
   ·split at hr
    ·exact hr
    ·exact hr.2
   ·exact hr
theorem T3 {l:List Oper} {ρ:Env} {X:Prop} {q:Nat} {o:Oper} (i:l[q]?=some o) (f:isB o=true):∀(b:List Nat),RL P l ρ b X->q∈b ->
  (Region.wanted o (Eb l ρ)=true)->∃obj mk,OpA P o ρ obj mk
 | [],_,hm,_=>by cases hm
 | p::b,hr,hm,hw=>by
  by_cases k:q=p
  ·subst k
   simp only[RL]at hr;rw[i]at hr;simp only at hr;rw[f]at hr;have c:=hr.1
   have a:Tf P o ρ (λ_=>none) (λ_ _=>True)->∃obj mk,OpA P o ρ obj mk:=λm=>by
    have e:D7 P (λ_=>true) o = .alloc:=by
     obtain⟨s,op,h,pos,g,guard⟩:=o;cases op <;> first | rfl | cases f
    obtain⟨obj,mk,r,_⟩:=In e m;exact⟨obj,mk,r⟩
   cases d:o.guard with
   | none=>rw[d]at c;exact a c
   | some jw=>
    obtain⟨j,w⟩:=jw;rw[d]at c;rw[Fw d]at hw;exact a (c (by simpa using hw))
  ·refine T3 (X:=X) i f b ?_ (by simpa [k]using hm) hw
   simp only[RL]at hr
   split at hr
   ·split at hr
    ·exact hr.2
    ·exact hr
   ·exact hr
theorem Qk {ops:Array Oper} {b:Array Nat}:∀(a:List (Nat×List Nat)) (listed:Array Bool),Mb P qf ops b a listed=true->cnt ops listed<=a.length
 | [],listed,hB=>by
  unfold cnt;simp only[List.length_nil,Nat.le_zero_eq,List.length_eq_zero_iff,List.filter_eq_nil_iff];intro i hi;rw[List.all_eq_true.1 hB i hi];simp
 | (i,qs)::rest,listed,hB=>by
  simp only[Mb,Bool.and_eq_true]at hB;have:=Qk rest _ hB.2;exact Nat.le_trans (VQ (i:=i)) (by simp only[List.length_cons];omega)
theorem Ql {ops:Array Oper} {Q:Env->PH->Prop} {Kp:List PanicEntry->PH->Prop} (R:KL P ops (D7 P qf)) (J:UW P ops=true) :
  ∀(r:List (Nat×List Nat)) (listed:Array Bool) (ρ:Env) (h:PH),Mb P qf ops (EJ ops) r listed=true->FN ops listed->Ow P qf ops.toList Q Kp r ρ h ->
   Kj P ops (D7 P qf) Q Kp r.length listed ρ h
 | [],listed,ρ,h,hB,z,H=>by
  have hall:∀k,k<ops.size->listed.getD k true=true:=λk c=>List.all_eq_true.1 hB k (List.mem_range.2 c);refine⟨?_,H⟩;cases hr:Region.ready .any ops listed with
  | nil=>rfl
  | cons i l=>
   have hi:i∈Region.ready .any ops listed:=by rw[hr];simp
   obtain⟨h1,o,I,_⟩:=mem_ready.1 hi;rw[hall i (Array.getElem?_eq_some_iff.1 I).1]at h1;cases h1
 | (i,qs)::rest,listed,ρ,h,hB,z,H=>by
  have T:=Qk _ _ hB;simp only[List.length_cons]at T;simp only[Mb,Bool.and_eq_true]at hB;obtain⟨V,hB2⟩:=hB;simp only[Ow,Array.getElem?_toList]at H;cases I:ops[i]? with
  | none=>rw[I]at H;exact H.elim
  | some o=>
   rw[I]at H V;simp only[Bool.and_eq_true]at H V;obtain⟨⟨hr,O⟩,hcl⟩:=V;have hr':i∈Region.ready .any ops listed:=by simpa using hr
   have U:Apt ops listed i o:=Region.free_spec I O;have ih:∀ρ h,Ow P qf ops.toList Q Kp rest ρ h->Kj P ops (D7 P qf) Q Kp rest.length (listed.setIfInBounds i true) ρ h:=λρ h=>Ql R J rest (listed.setIfInBounds i true) ρ h hB2 (z.set hr')
   have A:Vi P qf ops (EJ ops) listed i=true->N0 ops (D7 P qf) listed i:=λhal k a c s x=>by
    have:=List.all_eq_true.1 hal k (List.mem_range.2 (Array.getElem?_eq_some_iff.1 c).1);simp only[c,x,Bool.or_false,Bool.or_eq_true,beq_iff_eq,s,false_or]at this;exact this
   have F:aU P qf ops (EJ ops) listed i qs=true->(∀k a,ops[k]?=some a->isB a=true->k∈qs->Region.wanted a (BS ops ρ)=true->∃obj mk,OpA P a ρ obj mk)->Yd P ops (D7 P qf) listed i ρ:=λhid u=>by
    have one:∀k a,ops[k]?=some a->k≠i->listed.getD k true=false->D7 P qf a = .alloc->((EJ ops).getD k 0).testBit i=false->(isB a=false\/k∈qs) /\
      ∀l W,ops[l]?=some W->l≠i->k≠l->listed.getD l true=false->D7 P qf W = .alloc->((EJ ops).getD l 0).testBit i=false->∀d,a.dst=some d->d ∉ W.looksAt ops:=by
     intro k a c s x z L;have a1:=List.all_eq_true.1 hid k (List.mem_range.2 (Array.getElem?_eq_some_iff.1 c).1);simp only[c,x,L,z,bne_self_eq_false,Bool.or_false,Bool.false_or,Bool.or_eq_true,beq_iff_eq,s,false_or,Bool.and_eq_true]at a1;refine⟨?_,λl W Y M N w y K d hd B=>?_⟩
     ·rcases a1.1 with h | h
      ·exact .inl (by simpa using h)
      ·exact .inr (by simpa using h)
     ·have a2:=List.all_eq_true.1 a1.2 l (List.mem_range.2 (Array.getElem?_eq_some_iff.1 Y).1)
      simp only[Y,w,K,y,hd,bne_self_eq_false,Bool.or_false,Bool.false_or,Bool.or_eq_true,beq_iff_eq,M,Ne.symm N,false_or]at a2;simp[B]at a2
    refine⟨λk a c s x z L G=>?_,λk l a W d c Y s M N Z w hck y hmk K hd=>(one k a c s Z hck hmk).2 l W Y M N w y K d hd⟩
    rcases (one k a c s x z L).1 with D | D
    ·have g:=List.all_eq_true.1 J a (by simpa using Array.mem_of_getElem? c)
     exact My z (λe S=>by rw[S]at g;exact g) (λt n ps S=>by unfold isB at D;rw[S]at D;cases D) ρ
    ·cases C:isB a with
     | true=>exact u k a c C D G
     | false=>
      have g:=List.all_eq_true.1 J a (by simpa using Array.mem_of_getElem? c);exact My z (λe S=>by rw[S]at g;exact g) (λt n ps S=>by unfold isB at C;rw[S]at C;cases C) ρ
   have p:∀v,YE P ops (D7 P qf) o ρ h v->Ow P qf ops.toList Q Kp rest (upd ρ o.dst v) h->Kj P ops (D7 P qf) Q Kp (rest.length+1) listed ρ h:=λv X hh=>
    TV R I rest.length listed ρ h v z U hr' X (ih _ _ hh)
   have u:∀k a,ops[k]?=some a->isB a=true->k∈qs->Region.wanted a (BS ops ρ)=true->∃obj mk,OpA P a ρ obj mk:=λk a c D L G=>T3 (by simpa using c) D qs H L (by rw[Fv];exact G)
   have E:Region.wanted o (BS ops ρ)=true->Ou P qf o ρ h (λv h'=>N5 P ops.toList ρ h' qs (Ow P qf ops.toList Q Kp rest (upd ρ o.dst v) h')) Kp ->
     Kj P ops (D7 P qf) Q Kp (rest.length+1) listed ρ h:=λG f=>by
    unfold Ou at f;cases m:D7 P qf o <;> rw[m]at f hcl <;> simp only at f hcl
    ·obtain⟨v,hs,c⟩:=Qf m f
     exact p v (.inl ⟨G,.inl ⟨m,hs.opY⟩⟩) (Ef qs c)
    ·obtain⟨v,hs,c⟩:=MW m f
     exact p v (.inl ⟨G,.inr ⟨m,hs⟩⟩) (Ef qs c)
    ·rw[Bool.and_eq_true,Bool.and_eq_true]at hcl
     refine VM R I m rest.length listed ρ h z U (A hcl.1.1) (F hcl.1.2 u) hr' T G ((Ov f).mono (λv h' c=>⟨λq oq hq Y hrd L hwq=>?_,ih _ _ (Ef qs c)⟩) (λ_ _ hh=>hh));have B:=List.all_eq_true.1 hcl.2 q (List.mem_range.2 (Array.getElem?_eq_some_iff.1 hq).1);simp only[Y,L,hq,hrd,Bool.not_true,Bool.false_or,bne_self_eq_false]at B;exact Sy (by simpa using hq) hrd qs c (by simpa using B) (by rw[Fv];exact hwq)
    ·obtain⟨obj,mk,ha,c⟩:=In m f
     rw[Bool.and_eq_true]at hcl;exact TW R I m rest.length listed ρ h obj mk z U (A hcl.1) (F hcl.2 u) hr' T G ha λb D=>ih _ _ (Ef qs (c b D))
   have H:=JD qs H;cases hg:o.guard with
   | none=>
    rw[hg]at H;exact E (Mo hg) H
   | some jw=>
    obtain⟨j,wt⟩:=jw;rw[hg]at H;obtain⟨h1,h2⟩:=H
    by_cases X:Eb ops.toList ρ j=some wt
    ·exact E (by rw[Fw hg,<-Fv,X];simp) (h1 X)
    ·exact p undef (.inr ⟨by rw[Fw hg,<-Fv];simpa using X,rfl⟩) (Ef qs (h2 X))
theorem jb {G:Act->Prop} {h0:PH} {w0:World} {Q f:Exit->Env->PH->Prop} {Kp:List PanicEntry->PH->Prop} (g:∀e ρ h,Q e ρ h->f e ρ h):∀e a w,AQ n G h0 w0 Q Kp e a w->AQ n G h0 w0 f Kp e a w:=λe a w H=>by
 cases e <;> simp only[AQ]at H ⊢ <;> first | exact H | (obtain⟨a,b,h,c,d,e⟩:=H;exact⟨a,b,h,c,d,g _ _ _ e⟩)
theorem X6 {c:Code} {Q:Exit->Act->World->Prop} (I:Nat->Act->World->Prop) (j:∀m a w,I m a w->c.wp P (Exit.then (λr q=>∃k,k<m/\I k r q) Q) a w) :
  ∀m a w,I m a w->(Code.loop c).wp P Q a w:=by
 intro m a w t b k cs
 have key:∀n a w,I n a w->∃e r q,Q e r q/\Arrives P (lone (b.at a (.code c :: .inLoop c::k)) cs w) b k cs e r q:=by
  intro n
  induction n using Nat.strongRecOn with
  | _ n ih=>
   intro a w z;obtain⟨e,g,f,i,d⟩:=j n a w z b (.inLoop c::k) cs;cases e with
   | normal=>
    obtain⟨m,y,p⟩:=i;obtain⟨u,v,s,o,h⟩:=ih m y g f p;exact⟨u,v,s,o,.of_steps (Steps.trans d (.one step_inLoop)) h⟩
   | exit id=>exact⟨_,g,f,i,.pass (x:=.inLoop c) rfl (λ_ _=>.inl (by simp)) d⟩
   | goto l=>exact⟨_,g,f,i,.pass (x:=.inLoop c) rfl (λ_ _=>.inl (by simp)) d⟩
   | ret=>exact⟨_,g,f,i,.pass (x:=.inLoop c) rfl (λ_ _=>.inl (by simp)) d⟩
   | panic ch=>exact⟨_,g,f,i,.pass (x:=.inLoop c) rfl (λ_ _=>.inl (by simp)) d⟩
   | outgrown=>exact⟨_,g,f,i,.pass (x:=.inLoop c) rfl (λ_ _=>.inl (by simp)) d⟩
 obtain⟨e,r,q,i,d⟩:=key m a w t;exact⟨e,r,q,i,.of_steps (.one step_loop) d⟩
def gOK (G:Act->Prop):Code->Prop
 | .region _ ops _=>∀o∈ops.toList,∀a v,G a->G (a.put o.dst v)
 | .seq x y=>gOK G x/\gOK G y
 | .cond _ x y=>gOK G x/\gOK G y
 | .block _ c=>gOK G c
 | .loop c=>gOK G c
 | _=>True
theorem E8 (v:P.follows .mixedOrders=true) {G:Act->Prop} {Kp:List PanicEntry->PH->Prop} {L:Loops} {h0:PH} {w0:World}:∀(c:Code),Do P qf ords Kp L c->Cr P qf n ords c=true->gOK G c->∀(Q:Exit->Env->PH->Prop) (a:Act) (h:PH) (w:World),
  n<=a.tmps.size->G a->BF h w->Ax h0 h w0 w->den P qf ords Kp L c Q (C5 a) h->c.wp P (AQ n G h0 w0 Q Kp) a w
 | .skip,_,_,_,Q,a,h,w,hs,g,l,f,H=>wp_skip ⟨hs,g,h,l,f,H⟩
 | .ret,_,_,_,Q,a,h,w,hs,g,l,f,H=>wp_ret ⟨hs,g,h,l,f,H⟩
 | .exit id,_,_,_,Q,a,h,w,hs,g,l,f,H=>wp_exit ⟨hs,g,h,l,f,H⟩
 | .seq x y,p,hc,hg,Q,a,h,w,hs,g,l,f,H=>by
  simp only[Cr,Bool.and_eq_true]at hc;refine wp_seq (wp_mono (E8 v x (λb s=>p b (List.mem_append_left _ s)) hc.1 hg.1 _ a h w hs g l f H) λe N D q=>?_);cases e <;> simp only[AQ,Exit.then]at q ⊢ <;> first | exact q | skip
  obtain⟨b1,b2,z,B,A,u⟩:=q;exact E8 v y (λb s=>p b (List.mem_append_right _ s)) hc.2 hg.2 Q N z D b1 b2 B A u
 | .cond c x y,p,hc,hg,Q,a,h,w,hs,g,l,f,H=>by
  simp only[Cr,Bool.and_eq_true]at hc;obtain⟨t,T,Y,X⟩:=H;refine wp_cond_split (t:=t) (by rw[Kc];exact T) (λe=>E8 v x (λb s=>p b (List.mem_append_left _ s)) hc.1 hg.1 Q a h w hs g l f (Y e)) (λe=>E8 v y (λb s=>p b (List.mem_append_right _ s)) hc.2 hg.2 Q a h w hs g l f (X e))
 | .block id c,p,hc,hg,Q,a,h,w,hs,g,l,f,H=>by
  simp only[Cr]at hc;refine wp_block (wp_mono (E8 v c p hc hg _ a h w hs g l f H) λe N D q=>?_);cases e <;> simp only[AQ,Exit.inBlock]at q ⊢ <;> first | exact q | skip
  rename_i i;obtain⟨b1,b2,z,B,A,u⟩:=q
  by_cases hi:i=id
  ·subst hi
   have:Nat.beq i i=true:=by simp
   rw[this]at u;rw[if_pos rfl];exact⟨b1,b2,z,B,A,u⟩
  ·rw[ey hi]at u
   rw[if_neg hi];exact⟨b1,b2,z,B,A,u⟩
 | .loop c,p,hc,hg,Q,a,h,w,hs,g,l,f,H=>by
  simp only[Cr]at hc;obtain⟨Q0,K,I,m,W,U⟩:=p c (by simp[DY]) Q _ h H;refine wp_mono ?_ (jb K);refine X6 (λm a w=>n<=a.tmps.size/\G a/\∃h,BF h w/\Ax h0 h w0 w/\I m (C5 a) h) (λm a w V=>?_) m a w ⟨hs,g,h,l,f,W⟩;obtain⟨b1,b2,z,B,A,u⟩:=V;refine wp_mono (E8 v c (λb s=>p b (by simp[DY,s])) hc hg _ a z w b1 b2 B A (U m _ _ u)) λe N D q=>?_;cases e <;> simp only[AQ,Exit.then]at q ⊢ <;> first | exact q | skip
  obtain⟨c1,c2,M,c3,c4,k,c5,Z⟩:=q;exact⟨k,c5,c1,c2,M,c3,c4,Z⟩
 | .region id ops false,p,hc,hg,Q,a,h,w,hs,g,l,f,H=>by
  simp only[Cr,Bool.and_eq_true]at hc
  have r:∀o∈ops.toList,∀d,o.dst=some d->d<n:=λo E d g=>by
   have:=List.all_eq_true.1 hc.1 o E;rw[g]at this
   simpa using this
  have:=HZ (w0:=w0) r hg _ a h w hs g l f H;rw[QA,<-List.range_eq_range']at this;exact wp_region (by simpa using this)
 | .region id ops true,p,hc,hg,Q,a,h,w,hs,g,l,f,H=>by
  simp only[Cr,qm,Bool.and_eq_true]at hc;obtain⟨J,⟨⟨⟨S,O⟩,r3⟩,r4⟩,r5⟩:=hc
  have r:∀o∈ops.toList,∀d,o.dst=some d->d<n:=λo E d g=>by
   have:=List.all_eq_true.1 J o E;rw[g]at this
   simpa using this
  have R:=ZV S O r3;have hw':BF h {w with drawn:=w.drawn+1}:=l;have hf':Ax h0 h w0 {w with drawn:=w.drawn+1}:=⟨f.os,f.tape,f.output,f.size,f.keep⟩
  have F:FN ops (Array.replicate ops.size false):=⟨by simp,λj oj _ p=>by
   rcases Nat.lt_or_ge j ops.size with h | h
   ·simp[h]at p
   ·simp[h]at p⟩
  have C:=Ql R r3 (ords id) _ (C5 a) h r4 F H;refine wp_region_any v ?_;have:=Fl (w0:=w0) r hg (ords id).length _ a h _ hs g hw' hf' C;rw[of_decide_eq_true r5]at this;exact this
 | .scope _,_,hc,_,_,_,_,_,_,_,_,_,_=>by simp[Cr]at hc
 | .label _,_,hc,_,_,_,_,_,_,_,_,_,_=>by simp[Cr]at hc
 | .goto _,_,hc,_,_,_,_,_,_,_,_,_,_=>by simp[Cr]at hc
 | .rangeFunc ..,_,hc,_,_,_,_,_,_,_,_,_,_=>by simp[Cr]at hc
 | .refuse _,_,hc,_,_,_,_,_,_,_,_,_,_=>by simp[Cr]at hc
theorem O5 {a:Act} {h:PH} {w:World} (i:BF h w) (g:ResultVar->Sem Value) (o:∀t,g (.tmp t)=pure (a.tmps.getD t undef)) (m:∀x t,g (.cell x t)=(do loadVar t (<-asAddr (a.tmps.getD x undef)))) :
  ∀(f:List ResultVar) (K:List Value->Prop),O7 P f (C5 a) h K->∃vs,(f.mapM g).run P w = .ok vs w/\K vs
 | [],K,d=>⟨[],by simp,d⟩
 | .tmp t::f,K,d=>by
  obtain⟨vs,l,k⟩:=O5 i g o m f _ d;refine⟨C5 a t::vs,?_,k⟩;rw[List.mapM_cons,o];simp only[Sem.run_bind,Sem.run_pure,Result.andThen,l]
  rfl
 | .cell x t::f,K,d=>by
  simp only[O7]at d;cases j:M8 P t with
  | none=>rw[j]at d;exact d.elim
  | some sz=>
   rw[j]at d;obtain⟨b,off,c,e,fr,s,A,d⟩:=d;obtain⟨v,y,d⟩:=HW d;obtain⟨p,r,q⟩:=Ms j (i b _ A) (y (λu=>u=v) rfl);subst q;obtain⟨vs,l,k⟩:=O5 i g o m f _ d;refine⟨p::vs,?_,k⟩;have hx':a.tmps.getD x undef = .pointer (some ⟨b,off,none⟩):=s
   have z:(g (.cell x t)).run P w = .ok p w:=by
    rw[m,hx',Sem.run_bind];simp only[asAddr,Sem.run_pure,Result.andThen];exact r
   rw[List.mapM_cons];simp only[Sem.run_bind,Sem.run_pure,Result.andThen,l,z]
theorem HP {b:Func} {a:Act} {h:PH} {w:World} (f:BF h w) {K:Value->Prop} (d:O7 P b.results.toList (C5 a) h λvs=>K (Ko vs)):∃v,(results b a.tmps).run P w = .ok v w/\K v:=by
 obtain⟨l,c⟩:∃l:List ResultVar,b.results=l.toArray:=⟨b.results.toList,by simp⟩;rw[c]at d;unfold results;rw[c,List.mapM_toArray];simp only[map_eq_pure_bind,Sem.run_bind,Sem.run_pure,Result.andThen];generalize e:(λx:ResultVar=>(match x with | .tmp t=>pure (a.tmps.getD t undef) | .cell x t=>do loadVar t (<-asAddr (a.tmps.getD x undef)):Sem Value))=g;have m:∀t,g (.tmp t)=pure (a.tmps.getD t undef):=λt=>by subst e;rfl
 have k:∀x t,g (.cell x t)=(do loadVar t (<-asAddr (a.tmps.getD x undef))):=λx t=>by subst e;rfl
 obtain⟨vs,j,i⟩:=O5 f g m k l _ d;refine⟨_,?_,i⟩;rw[j];simp only[Sem.run_pure]
 congr 1
 match vs with
 | []=>rfl
 | [v]=>rfl
 | v::u::r=>simp[Ko]
theorem E1:∀c:Code,gOK (λa=>a.defers = []) c
 | .region _ ops _=>λo _ a v b=>by cases o.dst <;> exact b
 | .seq x y=>⟨E1 x,E1 y⟩
 | .cond _ x y=>⟨E1 x,E1 y⟩
 | .block _ c=>E1 c
 | .loop c=>E1 c
 | .skip | .ret | .exit _ | .scope _ | .label _ | .goto _ | .rangeFunc .. | .refuse _=>trivial
theorem Pt (y:P.follows .mixedOrders=true) {L:Loops} {f:FuncId} {d:Func} {c:Code} {args:Array Value} {h:PH} {R:AK->PH->Prop} (r:P.funcs[f]?=some d) (s:d.body=some c)
  (x : (d.name == "runtime.NumGoroutine") = false) (m : Cr P qf d.ntmps ords c = true) (z : Do P qf ords (fun c h => R (.pan c) h) L c) (H : gB P qf ords L d.results.toList c args h R) : A7 P f args h R := by
 refine⟨⟨d,r,by simp[s],x⟩,λw u=>calls_of_wp r s ?_⟩
 have i:C5 {tmps:=args++Array.replicate (d.ntmps-args.size) undef,defers:=[]} = NC args:=by
  funext t
  unfold C5 NC;rw[Array.getD_eq_getD_getElem?,List.getD_eq_getElem?_getD]
  rcases Nat.lt_or_ge t args.size with ht | ht
  ·rw[Array.getElem?_append_left ht];simp
  ·rw[Array.getElem?_append_right ht,List.getElem?_eq_none (by simpa using ht)]
   rcases Nat.lt_or_ge (t-args.size) (d.ntmps-args.size)with b | b
   ·simp[b]
   ·rw[D1 (by simpa using b)]
 refine wp_mono (E8 (w0:=w) (G:=λa=>a.defers = []) y c z m (E1 c) _ _ h w (by simp;omega) rfl u (Ax.refl h w) (by rw[i];exact H)) λe a A g=>?_;cases e <;> simp only[AQ,bodyPost]at g ⊢
 ·obtain⟨b1,b2,b,j,q,p⟩:=g
  obtain⟨v,l,k⟩:=HP j (K:=λv=>R (.ret v) b) p;exact⟨b2,v,l,b,j,q,k⟩
 ·obtain⟨_,_,_,_,_,o⟩:=g;exact o
 ·obtain⟨_,_,_,_,_,o⟩:=g;exact o
 ·obtain⟨b1,b2,b,j,q,p⟩:=g
  obtain⟨v,l,k⟩:=HP j (K:=λv=>R (.ret v) b) p;exact⟨b2,v,l,b,j,q,k⟩
 ·exact g
end
end Go.Pw
namespace Go.Pw
def lf {F S:Type} (B:F->(F->S->PH->Prop)->S->PH->Prop) (f:F) (s:S) (h:PH):Prop:=
 ∃(I:Nat->S->PH->Prop) (n:Nat),I n s h/\∀n s h,I n s h->B f (λc a b=>c=f/\∃m,m<n/\I m a b) s h
theorem AL {F S:Type} {B:F->(F->S->PH->Prop)->S->PH->Prop} {f:F} {s:S} {h:PH} (I:Nat->S->PH->Prop) (n:Nat) (h0:I n s h)
  (b:∀n s h,I n s h->B f (λd a c=>d=f/\∃m,m<n/\I m a c) s h):lf B f s h:=⟨I,n,h0,b⟩
def exq {X:Type} (ξ:Env->X) (v:X) (G:Env->PH->Prop) (h:PH):Prop:=∀ρ,ξ ρ=v->G ρ h
def lq {F S X:Type} (b:F->S->PH->Prop) (a:Exit->X->PH->Prop) (φ:Env->F) (π:Env->S) (ξ:Env->X):Exit->Env->PH->Prop:=λe ρ h=>match e with
 | .normal=>b (φ ρ) (π ρ) h
 | e=>a e (ξ ρ) h
section
variable {P:Program} {qf:FuncId->Bool} {ords:Nat->List (Nat×List Nat)} {Kp:List PanicEntry->PH->Prop} {L:Loops}
def Hk (c:Code) (i:Nat):Code:=(DY c).getD i .skip
theorem Do.mk {c:Code} (k:Nat) (g:(DY c).length=k) (H:∀i,i<k->∀Q ρ h,L (Hk c i) Q ρ h->∃a:Exit->Env->PH->Prop,(∀e ρ h,a e ρ h->Q e ρ h)/\ct (den P qf ords Kp L (Hk c i)) a ρ h) :
  Do P qf ords Kp L c:=by
 intro b f;obtain⟨i,hi,d⟩:=List.getElem_of_mem f;have:Hk c i=b:=by unfold Hk;rw[List.getD_eq_getElem?_getD,Bu hi,<-d];rfl
 rw[<-this];exact H i (by omega)
theorem TH {F S X:Type} {φ:Env->F} {π:Env->S} {ξ:Env->X} {b:Code} {B:(Exit->X->PH->Prop)->F->(F->S->PH->Prop)->S->PH->Prop}
  (k:∀KN XX ρ h,den P qf ords Kp L b (lq KN XX φ π ξ) ρ h=B XX (φ ρ) KN (π ρ) h) {Q:Exit->Env->PH->Prop} {ρ:Env} {h:PH}
  (H:lf (B (λe v h=>exq ξ v (Q e) h)) (φ ρ) (π ρ) h):∃i:Exit->Env->PH->Prop,(∀e ρ h,i e ρ h->Q e ρ h)/\ct (den P qf ords Kp L b) i ρ h:=by
 obtain⟨I,n,h0,j⟩:=H;refine⟨λe ρ h=>match e with | .normal=>False | e=>exq ξ (ξ ρ) (Q e) h,λe ρ h he=>?_,λn ρ' h'=>φ ρ'=φ ρ/\I n (π ρ') h',n,⟨rfl,h0⟩,λn ρ' h' hI=>?_⟩
 ·cases e <;> simp only at he <;> first | exact he ρ rfl | exact he.elim
 ·have d:=j n _ _ hI.2
  rw[<-hI.1]at d
  have g:den P qf ords Kp L b (lq (λf s h=>f=φ ρ'/\∃m,m<n/\I m s h) (λe v h=>exq ξ v (Q e) h) φ π ξ) ρ' h':=by
   rw[k];exact d
  have l:(λe ρ1 d=>match e with | .normal=>∃m,m<n/\φ ρ1=φ ρ/\I m (π ρ1) d | e=>(match e with | .normal=>False | e=>exq ξ (ξ ρ1) (Q e) d:Prop)) =
    lq (λf s h=>f=φ ρ'/\∃m,m<n/\I m s h) (λe v h=>exq ξ v (Q e) h) φ π ξ:=by
   funext e ρ1 d
   cases e <;> first | rfl | skip
   simp only[lq];rw[hI.1];exact propext ⟨λ⟨m,a,b,c⟩=>⟨b,m,a,c⟩,λ⟨b,m,a,c⟩=>⟨m,a,b,c⟩⟩
  rw[<-l]at g;exact g
end
def II:List (Nat×List (Nat×List Nat))->Nat->List (Nat×List Nat)
 | [],_=>[]
 | (k,o)::r,id=>cond (Nat.beq k id) o (II r id)
def md:List Nat->Nat->Bool
 | [],_=>false
 | k::r,id=>cond (Nat.beq k id) true (md r id)
def Ip (f:Func):Code:=match f.body with | some c=>c | none=>.skip
def Gn:Code->Option Nat
 | .region id _ _=>some id
 | .seq a b=>match Gn a with | some n=>some n | none=>Gn b
 | .cond _ a b=>match Gn a with | some n=>some n | none=>Gn b
 | .block _ c=>Gn c
 | .loop c=>Gn c
 | _=>none
def JG (c:Code):Nat:=match Gn c with | some n=>n | none=>0
def sel (b:Bool) (A B:Prop):Prop:=match b with | true=>A | false=>B
def Fs:Loops:=λ_ _ _ _=>False
theorem OL {P:Program} {qf:FuncId->Bool} {ords:Nat->List (Nat×List Nat)} {Kp:List PanicEntry->PH->Prop} {c:Code} (a:(DY c).length=0):Do P qf ords Kp Fs c:=
 Do.mk 0 a λi hi=>absurd hi (by omega)
theorem Uz {A B:Prop} (e:A=B) (h:B):A:=e▸h
end Go.Pw
namespace Go.Pw
abbrev V2:=Value×Value
abbrev V3:=Value×V2
abbrev V4:=Value×V3
abbrev V5:=Value×V4
abbrev V6:=Value×V5
abbrev V7:=Value×V6
abbrev V8:=Value×V7
abbrev V9:=Value×V8
abbrev V10:=Value×V9
abbrev KP:=List PanicEntry->PH->Prop
abbrev RT:=AK->PH->Prop
structure LG where
 {F:Type}
 {S:Type}
 {X:Type}
 φ:Env->F
 π:Env->S
 ξ:Env->X
 i:Nat
 B:KP->(Exit->X->PH->Prop)->F->(F->S->PH->Prop)->S->PH->Prop
def LGL:List LG->KP->Loops
 | [],_=>Fs
 | g::l,Kp=>λc Q ρ h=>sel (Nat.beq (JG c) g.i) (lf (g.B Kp (λe v h=>exq g.ξ v (Q e) h)) (g.φ ρ) (g.π ρ) h) (LGL l Kp c Q ρ h)
def chk (P:Program) (qf:FuncId->Bool) (b:Func) (o:List (Nat×List (Nat×List Nat))) (a:List Nat):Bool:=match b.body with
 | some c => Cr P qf b.ntmps (II o) c && (!(b.name == "runtime.NumGoroutine") && (decide ((DY c).map JG = a) && decide a.Nodup))
 | none=>false
def ez (n:Nat):List (Nat×List Nat):=(List.range n).map λi=>(i,[])
def ej (l:List (Nat×Nat×List Nat)):List (Nat×List Nat):=l.flatMap λr=>(List.range r.2.1).map λi=>(r.1+i,r.2.2)
section
variable {P:Program} {qf:FuncId->Bool} {ords:Nat->List (Nat×List Nat)} {Kp:KP} {L:Loops} {c:Code}
inductive LGB (P:Program) (qf:FuncId->Bool) (ords:Nat->List (Nat×List Nat)) (Kp:KP) (L:Loops) (c:Code):Nat->List LG->Prop
 | nil {i:Nat}:LGB P qf ords Kp L c i []
 | cons {i:Nat} {g:LG} {l:List LG}:(∀KN XX ρ h,den P qf ords Kp L (Hk c i) (lq KN XX g.φ g.π g.ξ) ρ h=g.B Kp XX (g.φ ρ) KN (g.π ρ) h)->LGB P qf ords Kp L c (i+1) l->LGB P qf ords Kp L c i (g::l)
theorem LGB.get {l:List LG}:∀{i:Nat},LGB P qf ords Kp L c i l->∀(j:Nat) (g:LG),l[j]?=some g->∀KN XX ρ h,den P qf ords Kp L (Hk c (i+j)) (lq KN XX g.φ g.π g.ξ) ρ h=g.B Kp XX (g.φ ρ) KN (g.π ρ) h:=by
 induction l with
 | nil=>intro i _ j g h;simp at h
 | cons a l ih=>
  intro i H j g h;cases H with
  | cons h1 h2=>
   cases j with
   | zero=>simp at h;subst h;exact h1
   | succ j=>
    simp at h;have:=ih h2 j g h;rw[show i+(j+1)=i+1+j by omega];exact this
theorem UM {Q:Exit->Env->PH->Prop} {ρ:Env} {h:PH}:∀(G:List LG),LGL G Kp c Q ρ h->∃(j:Nat) (g:LG),G[j]?=some g/\JG c=g.i/\lf (g.B Kp (λe v h=>exq g.ξ v (Q e) h)) (g.φ ρ) (g.π ρ) h
 | [],H=>H.elim
 | g::l,H=>by
  unfold LGL at H;cases a:Nat.beq (JG c) g.i with
  | true=>
   rw[a]at H;exact⟨0,g,rfl,Nat.eq_of_beq_eq_true a,H⟩
  | false=>
   rw[a]at H;obtain⟨j,g',f,d,b⟩:=UM l H;exact⟨j+1,g',by simpa using f,d,b⟩
theorem pD {G:List LG} (hi:(DY c).map JG=G.map LG.i) (l:(G.map LG.i).Nodup) (n:LGB P qf ords Kp (LGL G Kp) c 0 G):Do P qf ords Kp (LGL G Kp) c:=by
 have m:(DY c).length=G.length:=by have:=congrArg List.length hi;simpa using this
 refine Do.mk G.length m λi hiG Q ρ h H=>?_;obtain⟨j,g,a,p,o⟩:=UM G H;have r:=(Bc.1 a).1
 have e:i=j:=by
  have k:((DY c).map JG)[i]?=some (JG (Hk c i)):=by
   unfold Hk;rw[List.getElem?_map,List.getD_eq_getElem?_getD,Bu (by omega)];rfl
  have q:(G.map LG.i)[j]?=some g.i:=by rw[List.getElem?_map,a];rfl
  rw[hi,p]at k;obtain⟨b1,f⟩:=Bc.1 k;obtain⟨b2,d⟩:=Bc.1 q;have b:=List.pairwise_iff_getElem.1 l
  rcases Nat.lt_trichotomy i j with h | h | h
  ·exact absurd (f.trans d.symm) (b i j b1 b2 h)
  ·exact h
  ·exact absurd (d.trans f.symm) (b j i b2 b1 h)
 subst e;have:=n.get i g a;rw[Ad]at this;exact TH (B:=g.B Kp) this o
theorem p5 (j:P.follows .mixedOrders=true) {f:FuncId} {a:Func} {args:Array Value} {h:PH} {R:AK->PH->Prop} {X:Prop} (o:List (Nat×List (Nat×List Nat))) (G:List LG) (k:P.funcs[f]?=some a) (b:chk P qf a o (G.map LG.i)=true)
  (i:LGB P qf (II o) (λc h=>R (.pan c) h) (LGL G λc h=>R (.pan c) h) (Ip a) 0 G) (g:gB P qf (II o) (LGL G λc h=>R (.pan c) h) a.results.toList (Ip a) args h R=X) (H:X):A7 P f args h R:=by
 unfold chk at b;cases d:a.body with
 | none=>rw[d]at b;cases b
 | some c=>
  rw[d]at b;simp only[Bool.and_eq_true,CF,Bool.not_eq_true']at b;obtain⟨p,n,m,l⟩:=b;have e:Ip a=c:=by unfold Ip;rw[d]
  rw[e]at i g;exact Pt j k d n p (pD m l i) (Uz g H)
end
end Go.Pw
