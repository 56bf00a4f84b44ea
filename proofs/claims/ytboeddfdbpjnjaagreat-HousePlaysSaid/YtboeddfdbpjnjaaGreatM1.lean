/- Texts of this claim, one behind the other. -/
import Derived.Test.YtboeddfdbpjnjaaGreatM0
import Derived.Laws.Sem
set_option linter.unusedSimpArgs false
set_option linter.unusedVariables false
namespace Go.Pw
open Go
inductive AK where
 | ret (v:Value)
 | pan (c:List PanicEntry)
def UO (P : Program) (f : FuncId) : Prop := ∃ fn, P.funcs[f]? = some fn ∧ fn.body.isSome = true ∧ (fn.name == "runtime.NumGoroutine") = false
def A7 (P:Program) (f:FuncId) (args:Array Value) (h:PH) (R:AK->PH->Prop):Prop:=
 UO P f/\∀w,BF h w->Calls P f args w λe b=>match e with
  | .returned v=>∃a,BF a b/\Ax h a w b/\R (.ret v) a
  | .panicked c=>∃a,BF a b/\Ax h a w b/\R (.pan c) a
  | .outgrown=>False
theorem A7.mono {P:Program} {f:FuncId} {args:Array Value} {h:PH} {R R':AK->PH->Prop} (H:A7 P f args h R) (i:∀e d,R e d->R' e d):A7 P f args h R':=
 ⟨H.1,λw j=>(H.2 w j).mono λe k g=>by
  cases e <;> simp only at g ⊢
  ·obtain⟨d,a,b,c⟩:=g;exact⟨d,a,b,i _ _ c⟩
  ·obtain⟨d,a,b,c⟩:=g;exact⟨d,a,b,i _ _ c⟩⟩
def GP (h g:PH):PH:=λb=>match h b with | some o=>some o | none=>g b
theorem A7.frame {P:Program} {f:FuncId} {args:Array Value} {h:PH} {R:AK->PH->Prop} (H:A7 P f args h R) (g:PH) (A:∀b,h b≠none->g b=none) :
  A7 P f args (GP h g) λe s=>∃i,s=GP i g/\(∀b,g b≠none->i b=none)/\R e i:=by
 have B:Sub h (GP h g):=λb o d=>by simp[GP,d]
 have key:∀{w l:World} {i:PH},BF (GP h g) w->BF i l->Ax h i w l->BF (GP i g) l/\Ax (GP h g) (GP i g) w l/\(∀b,g b≠none->i b=none):=by
  intro w l i m t n
  have v:∀b,g b≠none->i b=none/\l.heap[b]?=w.heap[b]?:=λb d=>by
   have k:h b=none:=by
    cases j:h b with
    | none=>rfl
    | some o=>exact absurd (A b (by rw[j];simp)) d
   have:(GP h g) b=g b:=by simp[GP,k]
   cases r:g b with
   | none=>exact absurd r d
   | some o=>exact n.keep b (m.lt (o:=o) (by rw[this,r])) k
  refine⟨λb o d=>?_,⟨n.os,n.tape,n.output,n.size,λb d q=>?_⟩,λb d=>(v b d).1⟩
  ·unfold GP at d
   cases j:i b with
   | some p=>rw[j]at d;exact t b o (by rw[j];exact d)
   | none=>
    rw[j]at d;have C:=v b (by simp[d]);rw[C.2];refine m b o ?_
    have k:h b=none:=by
     cases j:h b with
     | none=>rfl
     | some o=>exact absurd (A b (by rw[j];simp)) (by simp[d])
    simp[GP,k,d]
  ·unfold GP at q
   cases j:h b with
   | some p=>rw[j]at q;cases q
   | none=>
    rw[j]at q;obtain⟨x,y⟩:=n.keep b d j;exact⟨by simp[GP,x];exact q,y⟩
 refine⟨H.1,λw m=>(H.2 w (m.sub B)).mono λe l u=>?_⟩;cases e <;> simp only at u ⊢
 ·obtain⟨s,a,b,c⟩:=u
  obtain⟨x,y,z⟩:=key m a b;exact⟨_,x,y,s,rfl,z,c⟩
 ·obtain⟨s,a,b,c⟩:=u
  obtain⟨x,y,z⟩:=key m a b;exact⟨_,x,y,s,rfl,z,c⟩
def AK.elim (K:Value->PH->Prop) (Kp:List PanicEntry->PH->Prop):AK->PH->Prop
 | .ret v=>K v
 | .pan c=>Kp c
def Az {α:Type} (P:Program):Sem α->Option α
 | .pure a=>some a
 | .program k=>Az P (k P)
 | _=>none
theorem HQ {α:Type} {P:Program} {v:α} (w:World):∀(s:Sem α),Az P s=some v->s.run P w = .ok v w
 | .pure a,h=>by simp only[Az,Option.some.injEq]at h;subst h;rfl
 | .program k,h=>by simp only[Az]at h;exact HQ w (k P) h
 | .load ..,h=>by simp[Az]at h
 | .store ..,h=>by simp[Az]at h
 | .new ..,h=>by simp[Az]at h
 | .shape ..,h=>by simp[Az]at h
 | .freeze ..,h=>by simp[Az]at h
 | .frozen ..,h=>by simp[Az]at h
 | .getObj ..,h=>by simp[Az]at h
 | .setObj ..,h=>by simp[Az]at h
 | .choose ..,h=>by simp[Az]at h
 | .sys ..,h=>by simp[Az]at h
 | .mark ..,h=>by simp[Az]at h
 | .halt _,h=>by simp[Az]at h
theorem LI {α β:Type} {P:Program} {v:α} {f:α->Sem β}:∀(s:Sem α),Az P s=some v->Az P (s >>= f)=Az P (f v)
 | .pure a,h=>by simp only[Az,Option.some.injEq]at h;subst h;rfl
 | .program k,h=>by
  simp only[Az]at h;show Az P (Sem.bind (.program k) f)=_;simp only[Sem.bind,Az];exact LI (k P) h
 | .load ..,h=>by simp[Az]at h
 | .store ..,h=>by simp[Az]at h
 | .new ..,h=>by simp[Az]at h
 | .shape ..,h=>by simp[Az]at h
 | .freeze ..,h=>by simp[Az]at h
 | .frozen ..,h=>by simp[Az]at h
 | .getObj ..,h=>by simp[Az]at h
 | .setObj ..,h=>by simp[Az]at h
 | .choose ..,h=>by simp[Az]at h
 | .sys ..,h=>by simp[Az]at h
 | .mark ..,h=>by simp[Az]at h
 | .halt _,h=>by simp[Az]at h
def B5:Value->Option Bool
 | .bool b=>some b
 | _=>none
def AP (c a b:Value) (K:Value->Prop):Prop:=∃t,c = .bool t/\K (cond t a b)
def A6 (P:Program) (op:BinOp) (t:TypeId) (a b:Value) (K:Value->Prop):Prop:=
 ∃v,(∀x y w,(do eqGuard op t x y a b;binOp op t a b:Sem Value).run P w = .ok v w)/\K v
def vUn (P:Program) (op:UnOp) (a:Value) (K:Value->Prop):Prop:=∃v,Az P (Op.unary op a)=some v/\K v
def Aa (a:Value) (i:Nat) (K:Value->Prop):Prop:=∃vs v,a = .tuple vs/\vs[i]?=some v/\K v
def Eo (a:Option Nat) (cs:Array Value) (off:Nat) (K:Value->Prop):Prop:=
 match a with
 | none=>∃v,cs[off]?=some v/\K v
 | some n=>off+n<=cs.size/\K (.agg (cs.extract off (off+n)))
def rQ (b:Option Nat) (off:Nat) (a:Value) (K:Value->Prop):Prop:=∃cs,a = .agg cs/\Eo b cs off K
def vFA (off:Nat) (a:Value) (K:Value->Prop):Prop:=∃b o,a = .pointer (some ⟨b,o,none⟩)/\K (.pointer (some ⟨b,o+off,none⟩))
def Cp (len esz:Nat) (a i:Value) (K:Value->Prop):Prop:=
 ∃b o k n,a = .pointer (some ⟨b,o,none⟩)/\i = .int k n/\0<=n/\n<(len:Int)/\K (.pointer (some ⟨b,o+n.toNat*esz,none⟩))
def AR (esz:Nat) (a i:Value) (K:Value->Prop):Prop:=
 ∃b o len cap k n,a = .slice (some ⟨b,o,none⟩) len cap/\i = .int k n/\0<=n/\n<(len:Int)/\K (.pointer (some ⟨b,o+n.toNat*esz,none⟩))
def M3 (a i:Value) (K:Value->Prop):Prop:=∃s k n c,a = .string s/\i = .int k n/\0<=n/\s.data[n.toNat]?=some c/\K (.int .u8 c.toNat)
def jc (b:Option Nat) (len esz:Nat) (a i:Value) (K:Value->Prop):Prop:=
 ∃cs k n,a = .agg cs/\i = .int k n/\0<=n/\n<(len:Int)/\Eo b cs (n.toNat*esz) K
def Zu:Value->Bool
 | .pointer (some _) | .func (.func _) _ _=>true
 | _=>false
def AY (a:Value) (K:Value->Prop):Prop:=Zu a=true/\K a
def A0 (d:Option Nat) (a:Value) (h:PH) (K:Value->Prop):Prop:=
 ∃b off c e fr,a = .pointer (some ⟨b,off,none⟩)/\h b=some (.cells c e fr)/\Eo d c off K
def wr:Array Value->Nat->List Value->Array Value
 | c,_,[]=>c
 | c,o,v::vs=>wr (c.setIfInBounds o v) (o+1) vs
def YB (fr:Nat×Nat) (off n:Nat):Prop:=fr.2<=off\/off+n<=fr.1
def A9 (n:Nat) (a v:Value) (h:PH) (K:PH->Prop):Prop:=
 ∃b off c e fr,a = .pointer (some ⟨b,off,none⟩)/\h b=some (.cells c e fr)/\v.cells.size=n/\off+n<=c.size/\v.cells.toList.all Value.oneCell'=true/\YB fr off n /\
  K (ins h b (.cells (wr c off v.cells.toList) e fr))
def CK (v:Option Value) (lo hi a:Nat) (K:Nat->Prop):Prop:=
 match v with
 | none=>K a
 | some v=>∃k n,v = .int k n/\(lo:Int)<=n/\n<=(hi:Int)/\K n.toNat
def Ym (lo hi:Option Value) (a:Value) (K:Value->Prop):Prop:=
 ∃s,a = .string s/\CK hi 0 s.size s.size λh=>CK lo 0 h 0 λl=>K (.string (s.extract l h))
def vSl (esz:Nat) (lo hi:Option Value) (a:Value) (K:Value->Prop):Prop:=
 ∃p len cap,a = .slice p len cap/\CK hi 0 cap len λh=>CK lo 0 h 0 λl=>K (.slice (if cap=l then p else p.map (·.add (l*esz))) (h-l) (cap-l))
def Yn (n esz:Nat) (lo hi:Option Value) (a:Value) (K:Value->Prop):Prop:=
 ∃b o,a = .pointer (some ⟨b,o,none⟩)/\CK hi 0 n n λh=>CK lo 0 h 0 λl=>K (.slice (some (if n=l then ⟨b,o,none⟩else ⟨b,o+l*esz,none⟩)) (h-l) (n-l))
def Ag (a:Array Value) (e:TypeId) (h:PH) (K:Value->PH->Prop):Prop:=
 ∀b,h b=none->K (.pointer (some ⟨b,0,none⟩)) (ins h b (.cells a e))
def BA (a:List (Nat×Nat)) (zero:Array Value) (parts:List (Nat×Value)) (K:Value->Prop):Prop:=
 ∃cs,Instr.fill (λi=>a[i]?) zero parts=some cs/\K (.agg cs)
def dF (esz:Nat) (zero:Array Value) (parts:List (Nat×Value)) (K:Value->Prop):Prop:=
 ∃cs,Instr.fill (λi=>some (i*esz,esz)) zero parts=some cs/\K (.agg cs)
def rep (zero:Array Value) (n:Nat):Array Value:=(Array.range n).map (zero[· % zero.size]!)
def Aj (e:TypeId) (esz len:Nat) (zero:Array Value) (parts:List (Nat×Value)) (h:PH) (K:Value->PH->Prop):Prop:=
 ∃cs,Instr.fill (λi=>some (i*esz,esz)) (rep zero (len*esz)) parts=some cs/\∀b,h b=none->K (.slice (some ⟨b,0,none⟩) len len) (ins h b (.cells cs e))
def IY (e:TypeId) (esz bytes:Nat) (zero:Array Value) (l c:Value) (h:PH) (K:Value->PH->Prop):Prop:=
 ∃k a n m,l = .int k n/\c = .int a m/\0<=n/\n<=m/\(bytes:Int)*m<=2^48/\m<2^62 /\
  (∀b,h b=none->K (.slice (some ⟨b,0,none⟩) n.toNat m.toNat) (ins h b (.cells (rep zero (m.toNat*esz)) e)))
def Ap (a:Value) (K:Value->Prop):Prop:=∃p len cap,a = .slice p len cap/\K (.int .i64 len)
def Dx (a:Value) (K:Value->Prop):Prop:=∃s,a = .string s/\K (.int .i64 s.size)
def ER (c:Bool) (a b:Value) (K:Value->Prop):Prop:=∃k d x y,a = .int k x/\b = .int d y/\K (.int k (if (if c then y>x else y<x)then y else x))
def D2 (k:IntKind) (a:Value) (K:Value->Prop):Prop:=∃b n,a = .int b n/\K (.int k (k.wrap n))
def byteCells (l:List UInt8):List Value:=l.map λc=>.int .u8 c.toNat
def El (a:Value) (h:PH) (K:Value->Prop):Prop:=
 (a = .slice none 0 0/\K (.string .empty)) \/
 ∃b off len cap c e fr l,a = .slice (some ⟨b,off,none⟩) len cap/\h b=some (.cells c e fr)/\l.length=len/\(c.toList.drop off).take len=byteCells l/\K (.string ⟨l.toArray⟩)
def KO (t:TypeId) (a:Value) (K:Value->Prop):Prop:=K (.iface t a)
def Vt (P:Program) (b t:TypeId) (a:Value) (K:Value->Prop):Prop:=∃v,Az P (Instr.typeAssert a b t true)=some v/\K v
def Yo (f:Fn) (first cap:Array Value) (K:Value->Prop):Prop:=K (.func f first cap)
def AA (P:Program) (f:FuncId) (args:Array Value) (h:PH) (K:Value->PH->Prop) (Kp:List PanicEntry->PH->Prop):Prop:=A7 P f args h (AK.elim K Kp)
def rL (P:Program) (f:FuncId) (args:Array Value) (h:PH) (v:Value):Prop:=A7 P f args h λe a=>e = .ret v/\a=h
def Nj (P:Program) (f:FuncId) (args:Array Value) (h:PH) (K:Value->Prop):Prop:=∃v,rL P f args h v/\K v
def Ha (P:Program) (f:Value) (args:Array Value) (h:PH) (K:Value->PH->Prop) (Kp:List PanicEntry->PH->Prop):Prop:=
 ∃g first cap,f = .func (.func g) first cap/\A7 P g (first++args++cap) h (AK.elim K Kp)
def M2 (a:Value) (h:PH) (Kp:List PanicEntry->PH->Prop):Prop:=∃t v,a = .iface t v/\Kp [{v:=.iface t v,recovered:=false}] h
def I3 (a:Bool) (esz:Nat) (x:Value) (h:PH) (K:Nat->List Value->Prop):Prop:=
 (a=true/\∃s,x = .string s/\esz=1/\K s.size (byteCells s.data.toList))\/(a=false/\∃c,x = .slice none 0 c/\K 0 []) \/
 a=false/\∃b off len cap c e fr,x = .slice (some ⟨b,off,none⟩) len cap/\h b=some (.cells c e fr)/\off+len*esz<=c.size/\(∀v∈(c.toList.drop off).take (len*esz),v.oneCell'=true)/\K len ((c.toList.drop off).take (len*esz))
def Eh (h:PH) (b:Nat):PH:=λx=>cond (Nat.beq x b) none (h x)
def Yr (e:TypeId) (esz bytes:Nat) (n:Nat) (news:List Value) (s:Value) (h:PH) (K:Value->PH->Prop):Prop:=
 ∃b off len cap c f fr,s = .slice (some ⟨b,off,none⟩) len cap /\
  ((len+n<=cap/\h b=some (.cells c f fr)/\off+len*esz+news.length<=c.size/\YB fr (off+len*esz) news.length /\
    K (.slice (some ⟨b,off,none⟩) (len+n) cap) (ins h b (.cells (wr c (off+len*esz) news) f fr))) \/
   (cap<len+n/\(len+n)*bytes<=roomBytes/\cap<=len+n/\h b=some (.cells c f (0,0))/\off+len*esz<=c.size/\(∀v∈(c.toList.drop off).take (len*esz),v.oneCell'=true) /\
    ∀g a d,h g=none->len+n<=a->((c.toList.drop off).take (len*esz)++news).length+d.length=a*esz ->
     K (.slice (some ⟨g,0,none⟩) (len+n) a) (ins h g (.cells ((c.toList.drop off).take (len*esz)++news++d).toArray e))))
def Ab (f:Bool) (e:TypeId) (esz bytes:Nat) (s x:Value) (h:PH) (K:Value->PH->Prop):Prop:=
 I3 f esz x h λn news=>
  (s = .slice none 0 0/\(n=0->K (.slice none 0 0) h) /\
   (0<n->n*bytes<=roomBytes/\∀b cap a,h b=none->n<=cap->news.length+a.length=cap*esz->K (.slice (some ⟨b,0,none⟩) n cap) (ins h b (.cells (news++a).toArray e)))) \/
  (∃g len cap c,s = .slice (some ⟨g,0,none⟩) len cap/\h g=some (.cells c e (0,0))/\c.size=cap*esz/\len<=cap/\(len+n)*bytes<=roomBytes/\(∀b off l c,x = .slice (some ⟨b,off,none⟩) l c->b≠g) /\
   ∀b d a,(b=g\/h b=none)->len+n<=d->(c.toList.take (len*esz)++news).length+a.length=d*esz ->
    K (.slice (some ⟨b,0,none⟩) (len+n) d) (ins (Eh h g) b (.cells (c.toList.take (len*esz)++news++a).toArray e))) \/
  Yr e esz bytes n news s h K
def gq (g:Option Bool) (a:Bool) (op:(Value->PH->Prop)->Prop) (K:Value->PH->Prop) (h:PH):Prop:=(g=some a->op K)/\(g≠some a->K undef h)
def gd (g:Option Bool) (a:Bool) (A:Prop):Prop:=g=some a->A
def dIf (v:Value) (A B:Prop):Prop:=∃t,v = .bool t/\(t=true->A)/\(t=false->B)
def pF (esz:Nat) (lo hi:Option Value) (d a:Value) (K:Value->Prop):Prop:=
 ∃p len cap f c e b l,a = .slice p len cap/\hi=some (.int e b)/\d = .int f c/\0<=b/\b<=c/\c<=(cap:Int)/\((lo=none/\l=0)\/∃k n,lo=some (.int k n)/\0<=n/\n<=b/\l=n.toNat) /\
  K (.slice (if c.toNat=l then p else p.map (·.add (l*esz))) (b.toNat-l) (c.toNat-l))
def UQ (zero:Array Value) (a:Value) (h:PH) (K:PH->Prop):Prop:=
 (∃p cap,a = .slice p 0 cap/\K h) \/
 ∃b off n cap c e fr,a = .slice (some ⟨b,off,none⟩) n cap/\0<n/\h b=some (.cells c e fr)/\off+n*zero.size<=c.size/\YB fr off (n*zero.size)/\(∀v∈zero.toList,v.oneCell'=true) /\
  K (ins h b (.cells (wr c off (rep zero (n*zero.size)).toList) e fr))
def Vq (h:PH) (K:Value->PH->Prop):Prop:=∀b,h b=none->K (.map (some b)) (ins h b (.map #[] 0))
def qw:TypeDesc->Bool
 | .int _=>true
 | .string=>true
 | _=>false
def FD (d:TypeDesc) (m k v:Value) (h:PH) (K:PH->Prop):Prop:=
 ∃b c a,m = .map (some b)/\h b=some (.map c a)/\qw d=true/\Instr.findNow d k c.toList 0=some none/\K (ins h b (.map (c.push {key:=k,val:=v,born:=a}) (a+1)))
def Vr (c:TypeDesc) (zero:Value) (e:Bool) (m k:Value) (h:PH) (K:Value->Prop):Prop:=
 ∃b d a r,m = .map (some b)/\h b=some (.map d a)/\qw c=true/\Instr.findNow c k d.toList 0=some r /\
  K (match r,e with | some (_,v),true=>.tuple #[v,.bool true] | some (_,v),false=>v | none,true=>.tuple #[zero,.bool false] | none,false=>zero)
def R2 (k:FloatKind) (a:Value) (K:Value->Prop):Prop:=∃b n,a = .int b n/\K (.float k (k.nearest n))
def NJ (c:IntKind) (a:Value) (K:Value->Prop):Prop:=∃k b n,a = .float k b/\(k.decode b).toInt .zero=some n/\c.min<=n/\n<=c.max/\K (.int c n)
def SJ:BinOp->Option (FloatKind->Nat->Nat->Option Nat)
 | .add=>some λk x y=>k.format.add x y
 | .sub=>some λk x y=>k.format.sub x y
 | .mul=>some λk x y=>k.format.mul x y
 | .quo=>some λk x y=>k.format.div x y
 | _=>none
def NI (op:BinOp) (a b:Value) (h:PH) (K:Value->PH->Prop):Prop:=
 ∃k x y f,a = .float k x/\b = .float k y/\SJ op=some f/\(∀r,f k x y=some r->K (.float k r) h)/\(f k x y=none->∀r,K (.float k ((Question.nanBits k x y).cut r)) h)
def Nk (P:Program) (f:FuncId) (args:Array Value) (h:PH) (K:Value->PH->Prop):Prop:=
 ∀w,BF h w->∃v n,(callFunc f args).run P w = .ok (.value v) {w with drawn:=n}/\K v h
def ll (P:Program) (f:FuncId):Bool:=match P.funcs[f]? with
 | some fn=>fn.body.isNone
 | none=>false
end Go.Pw
