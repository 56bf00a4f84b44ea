/- Texts of this claim, one behind the other. -/
import Derived.Test.YtboeddfdbpjnjaaGreatM4
import Derived.Test.YtboeddfdbpjnjaaGreatM12
set_option maxRecDepth 100000
set_option linter.unusedSimpArgs false
set_option linter.unusedVariables false
namespace Go.Pw
open Go Go.Proofs
noncomputable def c58:Code:=Ip Tryz.f58
def o58:List (Nat×List (Nat×List Nat)):=[]
theorem s58:Tryz.f58.body=some c58:=by kernel_rfl
def d32 (k j i g:Value) (R:RT) (v:Value) (h:PH):Prop:=
 A6 Tryz.prog .neq 20 v (.nilIface) λt5=>
 dIf t5 (BA [(0,1),(1,1),(2,1),(3,1),(4,1),(5,1)] #[.int .i64 0,.int .i64 0,.int .i64 0,.int .i64 0,.int .i64 0,.float .f64 0] [] λt6=>
 AA Tryz.prog 59 #[v] h (λt8 f=>
 A9 6 k t6 f λe=>
 A9 1 j t8 e λa=>
 A0 (some 6) i a λl=>
 A0 none g a λd=>
 R (.ret (.tuple #[l,d])) a)
 (λ_ _=>False))
 (A0 (some 6) i h λc=>
 A0 none g h λb=>
 R (.ret (.tuple #[c,b])) h)
noncomputable def c32:Code:=Ip Tryz.f32
def o32:List (Nat×List (Nat×List Nat)):=[]
def Qt (Kp:KP) (a:V4->PH->Prop) (f:V4) (b:V4->V2->PH->Prop) (s:V2) (h:PH):Prop:=
 A6 Tryz.prog .lss 3 s.2 (.int .i64 8) λt27=>
 dIf t27 (M3 f.2.2.2 s.2 λt32=>
 D2 .u64 t32 λt33=>
 A6 Tryz.prog .mul 3 (.int .i64 8) s.2 λt35=>
 A6 Tryz.prog .shl 102 t33 t35 λt36=>
 A6 Tryz.prog .or 102 s.1 t36 λt37=>
 A6 Tryz.prog .add 3 s.2 (.int .i64 1) λt38=>
 b f (t37,t38) h)
 (a (f.1,f.2.1,f.2.2.1,s.1) h)
def mJ (C:Value) (h:PH) (R:RT):Prop:=
 Ag #[.int .i64 0,.int .i64 0,.int .i64 0,.int .i64 0,.int .i64 0,.float .f64 0] 25 h λt2 B=>
 Ag #[.int .i64 0] 30 B λt3 i=>
 Dx C λt9=>
 A6 Tryz.prog .gtr 3 t9 (.int .i64 256) λt10=>
 dIf t10 (BA [(0,1),(1,1),(2,1),(3,1),(4,1),(5,1)] #[.int .i64 0,.int .i64 0,.int .i64 0,.int .i64 0,.int .i64 0,.float .f64 0] [] λt11=>
 A9 6 t2 t11 i λA=>
 A9 1 t3 (.int .i64 4) A λb=>
 A0 (some 6) t2 b λD=>
 A0 none t3 b λd=>
 R (.ret (.tuple #[D,d])) b)
 (BA [(0,1),(1,1)] #[.string ⟨#[]⟩,.int .i64 0] [(0,C),(1,(.int .i64 0))] λt14=>
 Ag #[.string ⟨#[]⟩,.int .i64 0] 135 i λt4 z=>
 A9 2 t4 t14 z λy=>
 AA Tryz.prog 60 #[t4] y (λt15 x=>
 AA Tryz.prog 60 #[t4] x (λt16 w=>
 AA Tryz.prog 60 #[t4] w (λt17 u=>
 AA Tryz.prog 60 #[t4] u (λt18 t=>
 AA Tryz.prog 60 #[t4] t (λt19 s=>
 vFA 0 t2 λt20=>
 A9 1 t20 t15 s λq=>
 vFA 1 t2 λt21=>
 A9 1 t21 t16 q λp=>
 vFA 2 t2 λt22=>
 A9 1 t22 t17 p λo=>
 vFA 3 t2 λt23=>
 A9 1 t23 t18 o λn=>
 vFA 4 t2 λt24=>
 A9 1 t24 t19 n λm=>
 AA Tryz.prog 61 #[t4,(.int .i64 8)] m (λt25 l=>
 lf (Qt (λc h=>∃v,c = [{v:=v,recovered:=false}]/\d32 t2 t3 t2 t3 R v h) (λv h=>exq (λρ=>(ρ 2,ρ 3,ρ 4,ρ 6)) v (λr k=>
 AA Tryz.prog 62 #[(r 4)] k (λt39 j=>
 Nk Tryz.prog 42 #[(r 6)] j λt41 g=>
 vFA 5 (r 2) λt42=>
 A9 1 t42 t41 g λa=>
 A0 (some 6) (r 2) a λt43=>
 A9 6 (r 2) t43 a λf=>
 A9 1 (r 3) (.int .i64 0) f λe=>
 d32 t2 t3 t2 t3 R .nilIface e)
 (λc h=>∃v,c = [{v:=v,recovered:=false}]/\d32 t2 t3 t2 t3 R v h)) h)) (t2,t3,t4,t25) ((.int .u64 0),(.int .i64 0)) l)
 (λc h=>∃v,c = [{v:=v,recovered:=false}]/\d32 t2 t3 t2 t3 R v h))
 (λc h=>∃v,c = [{v:=v,recovered:=false}]/\d32 t2 t3 t2 t3 R v h))
 (λc h=>∃v,c = [{v:=v,recovered:=false}]/\d32 t2 t3 t2 t3 R v h))
 (λc h=>∃v,c = [{v:=v,recovered:=false}]/\d32 t2 t3 t2 t3 R v h))
 (λc h=>∃v,c = [{v:=v,recovered:=false}]/\d32 t2 t3 t2 t3 R v h))
 (λc h=>∃v,c = [{v:=v,recovered:=false}]/\d32 t2 t3 t2 t3 R v h))
def L32 (Kp:KP):Loops:=λc Q ρ h=>
  sel (Nat.beq (JG c) 9) (lf (Qt Kp (λv h=>exq (λρ=>(ρ 2,ρ 3,ρ 4,ρ 6)) v (Q (.exit 0)) h)) ((λρ=>(ρ 2,ρ 3,ρ 4,ρ 5)) ρ) ((λρ=>(ρ 6,ρ 26)) ρ) h)
  (False)
theorem rN (Kp:KP) (b:V4->V2->PH->Prop) (a:Exit->V4->PH->Prop) (ρ:Env) (h:PH) :
  den Tryz.prog qf (II o32) Kp (L32 Kp) (Hk (FT 3 c32) 0) (lq b a (λρ=>(ρ 2,ρ 3,ρ 4,ρ 5)) (λρ=>(ρ 6,ρ 26)) (λρ=>(ρ 2,ρ 3,ρ 4,ρ 6))) ρ h=Qt Kp (a (.exit 0)) ((λρ=>(ρ 2,ρ 3,ρ 4,ρ 5)) ρ) b ((λρ=>(ρ 6,ρ 26)) ρ) h:=by kernel_rfl
theorem l32 (Kp:KP):Do Tryz.prog qf (II o32) Kp (L32 Kp) (FT 3 c32):=
 Do.mk 1 (by kernel_rfl) λi hi Q ρ h H=>match i,hi with
  | 0,_=>TH (F:=V4) (S:=V2) (X:=V4) (φ:=(λρ=>(ρ 2,ρ 3,ρ 4,ρ 5))) (π:=(λρ=>(ρ 6,ρ 26))) (ξ:=(λρ=>(ρ 2,ρ 3,ρ 4,ρ 6))) (B:=(λ(a:Exit->V4->PH->Prop)=>Qt Kp (a (.exit 0)))) (rN _) (Uz (by kernel_rfl) H)
  | n+1,hi=>absurd hi (by omega)
theorem e32 (a:Value) (h:PH) (R:RT):bO Tryz.prog qf (II o32) (II o58) L32 2 c32 c58 12 58 3 2 #[.tmp 2,.tmp 3] Tryz.f32.results.toList #[a] h R=mJ a h R:=by kernel_rfl
theorem g32:Rm Tryz.prog qf (II o32) (II o58) 2 Tryz.f32 Tryz.f58 c32 c58 12 3 2 2=true:=by kernel_rfl
theorem s32:Tryz.f32.body=some c32:=by kernel_rfl
theorem oW {a:Value} {h:PH} {R:RT} (H:mJ a h R):A7 Tryz.prog 32 #[a] h R:=
 M0 (k:=2) (t:=12) (tr:=3) (tx:=2) (capOps:=#[.tmp 2,.tmp 3]) WO Tryz.func32 (by kernel_rfl) s32 Tryz.func58 (by kernel_rfl) s58 (by kernel_rfl) (by kernel_rfl) (by kernel_rfl) g32 l32 (Uz (e32 a h R) H)
end Go.Pw
