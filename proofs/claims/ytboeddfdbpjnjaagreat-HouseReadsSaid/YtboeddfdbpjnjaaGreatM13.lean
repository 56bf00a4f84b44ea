/- Texts of this claim, one behind the other. -/
import Derived.Test.YtboeddfdbpjnjaaGreatM4
import Derived.Test.YtboeddfdbpjnjaaGreatM12
set_option linter.unusedVariables false
set_option maxRecDepth 100000
namespace Go.Pw
open Go Go.Proofs
noncomputable def c58:Code:=bodyOf Tryz.f58
def o58:List (Nat×List (Nat×List Nat)):=[]
theorem s58:Tryz.f58.body=some c58:=by kernel_rfl
def d32 (x0 x1 y2 y3:Value) (R:AEnd->PH->Prop) (v:Value) (h:PH):Prop:=
 vBin Tryz.prog .neq 20 v (.nilIface) λt5=>
 dIf t5 (vBuild [(0,1),(1,1),(2,1),(3,1),(4,1),(5,1)] #[.int .i64 0,.int .i64 0,.int .i64 0,.int .i64 0,.int .i64 0,.float .f64 0] [] λt6=>
 vCall Tryz.prog 59 #[v] h (λt8 h_1=>
 vStore 6 x0 t6 h_1 λh_2=>
 vStore 1 x1 t8 h_2 λh_3=>
 vLoad (some 6) y2 h_3 λrv=>
 vLoad none y3 h_3 λrv_1=>
 R (.ret (.tuple #[rv,rv_1])) h_3)
 (λ_ _=>False))
 (vLoad (some 6) y2 h λrv_2=>
 vLoad none y3 h λrv_3=>
 R (.ret (.tuple #[rv_2,rv_3])) h)
noncomputable def c32:Code:=bodyOf Tryz.f32
def o32:List (Nat×List (Nat×List Nat)):=[]
def b32_9 (Kp:List PanicEntry->PH->Prop) (x0:(Value×Value×Value×Value)->PH->Prop) (f:Value×Value×Value×Value) (kn:(Value×Value×Value×Value)->(Value×Value)->PH->Prop) (s:Value×Value) (h:PH):Prop:=
 vBin Tryz.prog .lss 3 s.2 (.int .i64 8) λt27=>
 dIf t27 (vIxStr f.2.2.2 s.2 λt32=>
 vConvI .u64 t32 λt33=>
 vBin Tryz.prog .mul 3 (.int .i64 8) s.2 λt35=>
 vBin Tryz.prog .shl 102 t33 t35 λt36=>
 vBin Tryz.prog .or 102 s.1 t36 λt37=>
 vBin Tryz.prog .add 3 s.2 (.int .i64 1) λt38=>
 kn f (t37,t38) h)
 (x0 (f.1,f.2.1,f.2.2.1,s.1) h)
def sh32 (a0:Value) (h:PH) (R:AEnd->PH->Prop):Prop:=
 vNew #[.int .i64 0,.int .i64 0,.int .i64 0,.int .i64 0,.int .i64 0,.float .f64 0] 25 h λt2 h_1=>
 vNew #[.int .i64 0] 30 h_1 λt3 h_2=>
 vLenStr a0 λt9=>
 vBin Tryz.prog .gtr 3 t9 (.int .i64 256) λt10=>
 dIf t10 (vBuild [(0,1),(1,1),(2,1),(3,1),(4,1),(5,1)] #[.int .i64 0,.int .i64 0,.int .i64 0,.int .i64 0,.int .i64 0,.float .f64 0] [] λt11=>
 vStore 6 t2 t11 h_2 λh_3=>
 vStore 1 t3 (.int .i64 4) h_3 λh_4=>
 vLoad (some 6) t2 h_4 λrv=>
 vLoad none t3 h_4 λrv_1=>
 R (.ret (.tuple #[rv,rv_1])) h_4)
 (vBuild [(0,1),(1,1)] #[.string ⟨#[]⟩,.int .i64 0] [(0,a0),(1,(.int .i64 0))] λt14=>
 vNew #[.string ⟨#[]⟩,.int .i64 0] 135 h_2 λt4 h_5=>
 vStore 2 t4 t14 h_5 λh_6=>
 vCall Tryz.prog 60 #[t4] h_6 (λt15 h_7=>
 vCall Tryz.prog 60 #[t4] h_7 (λt16 h_8=>
 vCall Tryz.prog 60 #[t4] h_8 (λt17 h_9=>
 vCall Tryz.prog 60 #[t4] h_9 (λt18 h_10=>
 vCall Tryz.prog 60 #[t4] h_10 (λt19 h_11=>
 vFA 0 t2 λt20=>
 vStore 1 t20 t15 h_11 λh_12=>
 vFA 1 t2 λt21=>
 vStore 1 t21 t16 h_12 λh_13=>
 vFA 2 t2 λt22=>
 vStore 1 t22 t17 h_13 λh_14=>
 vFA 3 t2 λt23=>
 vStore 1 t23 t18 h_14 λh_15=>
 vFA 4 t2 λt24=>
 vStore 1 t24 t19 h_15 λh_16=>
 vCall Tryz.prog 61 #[t4,(.int .i64 8)] h_16 (λt25 h_17=>
 lf (b32_9 (λc h=>∃v,c = [{v:=v,recovered:=false}]/\d32 t2 t3 t2 t3 R v h) (λv h=>exq (λρ=>(ρ 2,ρ 3,ρ 4,ρ 6)) v (λr h_18=>
 vCall Tryz.prog 62 #[(r 4)] h_18 (λt39 h_19=>
 vLib Tryz.prog 42 #[(r 6)] h_19 λt41 h_20=>
 vFA 5 (r 2) λt42=>
 vStore 1 t42 t41 h_20 λh_21=>
 vLoad (some 6) (r 2) h_21 λt43=>
 vStore 6 (r 2) t43 h_21 λh_22=>
 vStore 1 (r 3) (.int .i64 0) h_22 λh_23=>
 d32 t2 t3 t2 t3 R .nilIface h_23)
 (λc h=>∃v,c = [{v:=v,recovered:=false}]/\d32 t2 t3 t2 t3 R v h)) h)) (t2,t3,t4,t25) ((.int .u64 0),(.int .i64 0)) h_17)
 (λc h=>∃v,c = [{v:=v,recovered:=false}]/\d32 t2 t3 t2 t3 R v h))
 (λc h=>∃v,c = [{v:=v,recovered:=false}]/\d32 t2 t3 t2 t3 R v h))
 (λc h=>∃v,c = [{v:=v,recovered:=false}]/\d32 t2 t3 t2 t3 R v h))
 (λc h=>∃v,c = [{v:=v,recovered:=false}]/\d32 t2 t3 t2 t3 R v h))
 (λc h=>∃v,c = [{v:=v,recovered:=false}]/\d32 t2 t3 t2 t3 R v h))
 (λc h=>∃v,c = [{v:=v,recovered:=false}]/\d32 t2 t3 t2 t3 R v h))
def L32 (Kp:List PanicEntry->PH->Prop):Loops:=λc Q ρ h=>
  sel (Nat.beq (loopId c) 9) (lf (b32_9 Kp (λv h=>exq (λρ=>(ρ 2,ρ 3,ρ 4,ρ 6)) v (Q (.exit 0)) h)) ((λρ=>(ρ 2,ρ 3,ρ 4,ρ 5)) ρ) ((λρ=>(ρ 6,ρ 26)) ρ) h)
  (False)
theorem B32_9 (Kp:List PanicEntry->PH->Prop) (KN:(Value×Value×Value×Value)->(Value×Value)->PH->Prop) (XX:Exit->(Value×Value×Value×Value)->PH->Prop) (ρ:Env) (h:PH) :
  den Tryz.prog qf (ordOf o32) Kp (L32 Kp) (loopAt (dropC 3 c32) 0) (lq KN XX (λρ=>(ρ 2,ρ 3,ρ 4,ρ 5)) (λρ=>(ρ 6,ρ 26)) (λρ=>(ρ 2,ρ 3,ρ 4,ρ 6))) ρ h=b32_9 Kp (XX (.exit 0)) ((λρ=>(ρ 2,ρ 3,ρ 4,ρ 5)) ρ) KN ((λρ=>(ρ 6,ρ 26)) ρ) h:=by kernel_rfl
theorem l32 (Kp:List PanicEntry->PH->Prop):LoopsOK Tryz.prog qf (ordOf o32) Kp (L32 Kp) (dropC 3 c32):=
 LoopsOK.mk 1 (by kernel_rfl) λi hi Q ρ h H=>match i,hi with
  | 0,_=>loop_gen (F:=Value×Value×Value×Value) (S:=Value×Value) (X:=Value×Value×Value×Value) (φ:=(λρ=>(ρ 2,ρ 3,ρ 4,ρ 5))) (π:=(λρ=>(ρ 6,ρ 26))) (ξ:=(λρ=>(ρ 2,ρ 3,ρ 4,ρ 6))) (B:=(λ(XX:Exit->(Value×Value×Value×Value)->PH->Prop)=>b32_9 Kp (XX (.exit 0)))) (B32_9 _) (of_den (by kernel_rfl) H)
  | n+1,hi=>absurd hi (by omega)
theorem e32 (a0:Value) (h:PH) (R:AEnd->PH->Prop):denGdL Tryz.prog qf (ordOf o32) (ordOf o58) L32 2 c32 c58 12 58 3 2 #[.tmp 2,.tmp 3] Tryz.f32.results.toList #[a0] h R=sh32 a0 h R:=by kernel_rfl
theorem g32:guardBL Tryz.prog qf (ordOf o32) (ordOf o58) 2 Tryz.f32 Tryz.f58 c32 c58 12 3 2 2=true:=by kernel_rfl
theorem s32:Tryz.f32.body=some c32:=by kernel_rfl
theorem call32 {a0:Value} {h:PH} {R:AEnd->PH->Prop} (H:sh32 a0 h R):ACalls Tryz.prog 32 #[a0] h R:=
 ACalls_of_guardBL (k:=2) (t:=12) (tr:=3) (tx:=2) (capOps:=#[.tmp 2,.tmp 3]) mixed Tryz.func32 (by kernel_rfl) s32 Tryz.func58 (by kernel_rfl) s58 (by kernel_rfl) (by kernel_rfl) (by kernel_rfl) g32 l32 (of_den (e32 a0 h R) H)
noncomputable def c95:Code:=bodyOf Tryz.f95
def o95:List (Nat×List (Nat×List Nat)):=[]
theorem s95:Tryz.f95.body=some c95:=by kernel_rfl
def d54 (x0 x1 x2 y4 y5 y6:Value) (R:AEnd->PH->Prop) (v:Value) (h:PH):Prop:=
 vBin Tryz.prog .neq 20 v (.nilIface) λt6=>
 dIf t6 (vCall Tryz.prog 59 #[v] h (λt8 h_1=>
 vStore 1 x0 (.int .i64 0) h_1 λh_2=>
 vStore 1 x1 (.int .i64 0) h_2 λh_3=>
 vStore 1 x2 t8 h_3 λh_4=>
 vLoad none y4 h_4 λrv=>
 vLoad none y5 h_4 λrv_1=>
 vLoad none y6 h_4 λrv_2=>
 R (.ret (.tuple #[rv,rv_1,rv_2])) h_4)
 (λ_ _=>False))
 (vLoad none y4 h λrv_3=>
 vLoad none y5 h λrv_4=>
 vLoad none y6 h λrv_5=>
 R (.ret (.tuple #[rv_3,rv_4,rv_5])) h)
noncomputable def c54:Code:=bodyOf Tryz.f54
def o54:List (Nat×List (Nat×List Nat)):=[(6,[(0,[]),(1,[]),(2,[]),(3,[2]),(4,[]),(5,[])])]
def sh54 (a0 a1:Value) (h:PH) (R:AEnd->PH->Prop):Prop:=
 vNew #[.int .i64 0] 3 h λt4 h_1=>
 vNew #[.int .i64 0] 3 h_1 λt5 h_2=>
 vNew #[.int .i64 0] 30 h_2 λt6 h_3=>
 vBin Tryz.prog .lss 3 a1 (.int .i64 0) λt9=>
 gq (boolOf t9) false (λK=>
 K a1 h_3)
 (λt11 h_4=>
 gq (boolOf t9) false (λK_1=>
 K_1 a0 h_4)
 (λt12 h_5=>
 gq (boolOf t9) false (λK_2=>
 vLenStr t12 λu=>
 K_2 u h_5)
 (λt13 h_6=>
 gq (boolOf t9) false (λK_3=>
 vBin Tryz.prog .gtr 3 t11 t13 λu_1=>
 K_3 u_1 h_6)
 (λt14 h_7=>
 vPick t9 (.bool true) t14 λt15=>
 dIf t15 (vStore 1 t4 (.int .i64 0) h_7 λh_8=>
 vStore 1 t5 (.int .i64 0) h_8 λh_9=>
 vStore 1 t6 (.int .i64 1) h_9 λh_10=>
 vLoad none t4 h_10 λrv=>
 vLoad none t5 h_10 λrv_1=>
 vLoad none t6 h_10 λrv_2=>
 R (.ret (.tuple #[rv,rv_1,rv_2])) h_10)
 (vBuild [(0,1),(1,1)] #[.string ⟨#[]⟩,.int .i64 0] [(0,a0),(1,a1)] λt19=>
 vNew #[.string ⟨#[]⟩,.int .i64 0] 135 h_7 λt7 h_11=>
 vStore 2 t7 t19 h_11 λh_12=>
 vCall Tryz.prog 60 #[t7] h_12 (λt20 h_13=>
 vStore 1 t4 t20 h_13 λh_14=>
 vLoad none t4 h_14 λt21=>
 vFA 1 t7 λt22=>
 vLoad none t22 h_14 λt23=>
 vStore 1 t4 t21 h_14 λh_15=>
 (vLoad none t22 h_15 λu_2=>
 t23=u_2) /\
 vStore 1 t5 t23 h_15 λh_16=>
 vStore 1 t6 (.int .i64 0) h_16 λh_17=>
 d54 t4 t5 t6 t4 t5 t6 R .nilIface h_17)
 (λc h=>∃v,c = [{v:=v,recovered:=false}]/\d54 t4 t5 t6 t4 t5 t6 R v h))) h_6) h_5) h_4) h_3
theorem e54 (a0 a1:Value) (h:PH) (R:AEnd->PH->Prop):denGd Tryz.prog qf (ordOf o54) (ordOf o95) 2 c54 c95 16 95 4 3 #[.tmp 4,.tmp 5,.tmp 6] Tryz.f54.results.toList #[a0,a1] h R=sh54 a0 a1 h R:=by kernel_rfl
theorem g54:guardB Tryz.prog qf (ordOf o54) (ordOf o95) 2 Tryz.f54 Tryz.f95 c54 c95 16 4 3 3=true:=by kernel_rfl
theorem s54:Tryz.f54.body=some c54:=by kernel_rfl
theorem call54 {a0 a1:Value} {h:PH} {R:AEnd->PH->Prop} (H:sh54 a0 a1 h R):ACalls Tryz.prog 54 #[a0,a1] h R:=
 ACalls_of_guardB (k:=2) (t:=16) (tr:=4) (tx:=3) (capOps:=#[.tmp 4,.tmp 5,.tmp 6]) mixed Tryz.func54 (by kernel_rfl) s54 Tryz.func95 (by kernel_rfl) s95 (by kernel_rfl) (by kernel_rfl) (by kernel_rfl) g54 (of_den (e54 a0 a1 h R) H)
noncomputable def c168:Code:=bodyOf Tryz.f168
def o168:List (Nat×List (Nat×List Nat)):=[]
theorem s168:Tryz.f168.body=some c168:=by kernel_rfl
def d141 (x0 x1 x2 y4 y5 y6:Value) (R:AEnd->PH->Prop) (v:Value) (h:PH):Prop:=
 vBin Tryz.prog .neq 20 v (.nilIface) λt6=>
 dIf t6 (vCall Tryz.prog 59 #[v] h (λt8 h_1=>
 vStore 1 x0 (.string ⟨#[]⟩) h_1 λh_2=>
 vStore 1 x1 (.int .i64 0) h_2 λh_3=>
 vStore 1 x2 t8 h_3 λh_4=>
 vLoad none y4 h_4 λrv=>
 vLoad none y5 h_4 λrv_1=>
 vLoad none y6 h_4 λrv_2=>
 R (.ret (.tuple #[rv,rv_1,rv_2])) h_4)
 (λ_ _=>False))
 (vLoad none y4 h λrv_3=>
 vLoad none y5 h λrv_4=>
 vLoad none y6 h λrv_5=>
 R (.ret (.tuple #[rv_3,rv_4,rv_5])) h)
noncomputable def c141:Code:=bodyOf Tryz.f141
def o141:List (Nat×List (Nat×List Nat)):=[(6,[(0,[]),(1,[]),(2,[]),(3,[2]),(4,[]),(5,[])])]
def sh141 (a0 a1:Value) (h:PH) (R:AEnd->PH->Prop):Prop:=
 vNew #[.string ⟨#[]⟩] 9 h λt4 h_1=>
 vNew #[.int .i64 0] 3 h_1 λt5 h_2=>
 vNew #[.int .i64 0] 30 h_2 λt6 h_3=>
 vBin Tryz.prog .lss 3 a1 (.int .i64 0) λt9=>
 gq (boolOf t9) false (λK=>
 K a1 h_3)
 (λt11 h_4=>
 gq (boolOf t9) false (λK_1=>
 K_1 a0 h_4)
 (λt12 h_5=>
 gq (boolOf t9) false (λK_2=>
 vLenStr t12 λu=>
 K_2 u h_5)
 (λt13 h_6=>
 gq (boolOf t9) false (λK_3=>
 vBin Tryz.prog .gtr 3 t11 t13 λu_1=>
 K_3 u_1 h_6)
 (λt14 h_7=>
 vPick t9 (.bool true) t14 λt15=>
 dIf t15 (vStore 1 t4 (.string ⟨#[]⟩) h_7 λh_8=>
 vStore 1 t5 (.int .i64 0) h_8 λh_9=>
 vStore 1 t6 (.int .i64 1) h_9 λh_10=>
 vLoad none t4 h_10 λrv=>
 vLoad none t5 h_10 λrv_1=>
 vLoad none t6 h_10 λrv_2=>
 R (.ret (.tuple #[rv,rv_1,rv_2])) h_10)
 (vBuild [(0,1),(1,1)] #[.string ⟨#[]⟩,.int .i64 0] [(0,a0),(1,a1)] λt19=>
 vNew #[.string ⟨#[]⟩,.int .i64 0] 135 h_7 λt7 h_11=>
 vStore 2 t7 t19 h_11 λh_12=>
 vCall Tryz.prog 169 #[t7] h_12 (λt20 h_13=>
 vStore 1 t4 t20 h_13 λh_14=>
 vLoad none t4 h_14 λt21=>
 vFA 1 t7 λt22=>
 vLoad none t22 h_14 λt23=>
 vStore 1 t4 t21 h_14 λh_15=>
 (vLoad none t22 h_15 λu_2=>
 t23=u_2) /\
 vStore 1 t5 t23 h_15 λh_16=>
 vStore 1 t6 (.int .i64 0) h_16 λh_17=>
 d141 t4 t5 t6 t4 t5 t6 R .nilIface h_17)
 (λc h=>∃v,c = [{v:=v,recovered:=false}]/\d141 t4 t5 t6 t4 t5 t6 R v h))) h_6) h_5) h_4) h_3
theorem e141 (a0 a1:Value) (h:PH) (R:AEnd->PH->Prop):denGd Tryz.prog qf (ordOf o141) (ordOf o168) 2 c141 c168 16 168 4 3 #[.tmp 4,.tmp 5,.tmp 6] Tryz.f141.results.toList #[a0,a1] h R=sh141 a0 a1 h R:=by kernel_rfl
theorem g141:guardB Tryz.prog qf (ordOf o141) (ordOf o168) 2 Tryz.f141 Tryz.f168 c141 c168 16 4 3 3=true:=by kernel_rfl
theorem s141:Tryz.f141.body=some c141:=by kernel_rfl
theorem call141 {a0 a1:Value} {h:PH} {R:AEnd->PH->Prop} (H:sh141 a0 a1 h R):ACalls Tryz.prog 141 #[a0,a1] h R:=
 ACalls_of_guardB (k:=2) (t:=16) (tr:=4) (tx:=3) (capOps:=#[.tmp 4,.tmp 5,.tmp 6]) mixed Tryz.func141 (by kernel_rfl) s141 Tryz.func168 (by kernel_rfl) s168 (by kernel_rfl) (by kernel_rfl) (by kernel_rfl) g141 (of_den (e141 a0 a1 h R) H)
end Go.Pw
