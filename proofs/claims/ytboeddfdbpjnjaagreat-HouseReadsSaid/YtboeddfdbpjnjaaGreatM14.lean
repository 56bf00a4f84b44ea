/- Texts of this claim, one behind the other. -/
import Derived.Test.YtboeddfdbpjnjaaGreatM3
import Derived.Test.YtboeddfdbpjnjaaGreatM5
import Derived.Test.YtboeddfdbpjnjaaGreatM10
import Derived.Test.YtboeddfdbpjnjaaGreatM13
set_option linter.unusedSimpArgs false
set_option linter.unusedVariables false
namespace Go.Pw
open Go Go.Proofs
inductive Rd (α:Type) where
 | ok (n:α) (next:Nat)
 | bad (e:Int)
def rdN (s:List UInt8):Nat->Nat->Nat->Nat->Rd Nat
 | 0,i,n,at_=>.bad 11
 | fuel+1,i,n,at_=>match s[at_]? with
  | none=>.bad 10
  | some c=>
   if 128<=c.toNat then (if i=7 then .bad 11 else rdN s fuel (i+1) (n+c.toNat%128*128^i) (at_+1))
   else if (c.toNat=0/\0<i)\/9007199254740992<n+c.toNat%128*128^i then .bad 11 else .ok (n+c.toNat%128*128^i) (at_+1)
def rdNum (s:List UInt8) (at_:Nat):Rd Nat:=rdN s 8 0 0 at_
section
variable {P:Program} {K:Value->Prop}
theorem vBin_shl {t:TypeId} {n k:Int} (h0:0<=n) (hk:0<=k) (hk2:k<=49) (h1:n<128):vBin P .shl t (.int .i64 n) (.int .i64 k) K↔K (.int .i64 (n*2^k.toNat)):=by
 refine vBin_of λ_ _=>?_
 have e:min k.toNat 64=k.toNat:=by omega
 have b:2^k.toNat<=2^49:=Nat.pow_le_pow_right (by omega) (by omega)
 have b2:(2:Int)^k.toNat<=562949953421312:=by
  have:((2^k.toNat:Nat):Int)<=((2^49:Nat):Int):=Int.ofNat_le.2 b
  simpa using this
 have b3:(0:Int)<=(2:Int)^k.toNat:=Int.le_of_lt (Int.pow_pos (by omega))
 have b4:n*2^k.toNat<=127*562949953421312:=Int.mul_le_mul (by omega) b2 b3 (by omega)
 have b5:0<=n*2^k.toNat:=Int.mul_nonneg h0 b3
 have hw:IntKind.i64.wrap (n*2^k.toNat)=n*2^k.toNat:=w64 (by omega) (by omega)
 have hn:¬k<0:=by omega
 simp[eqGuard,binOp,Op.shift,IntKind.bits,hn,e,hw]
 rfl
theorem vBin_orN {t:TypeId} {n M:Nat} (he:n ||| M=n+M) (h2:n+M<9223372036854775808):vBin P .or t (.int .i64 n) (.int .i64 M) K↔K (.int .i64 (n+M:Nat)):=by
 have key:(BitVec.ofInt 64 (n:Int) ||| BitVec.ofInt 64 (M:Int)).toNat=n+M:=by
  rw[BitVec.toNat_or,ofInt_toNat (by omega) (by omega),ofInt_toNat (by omega) (by omega)]
  exact he
 refine vBin_of λ_ _=>?_
 show some (Value.int .i64 (IntKind.i64.wrap ((BitVec.ofInt 64 (n:Int) ||| BitVec.ofInt 64 (M:Int)).toNat)))=_
 rw[key,w64 (by omega) (by omega)]
theorem or_dis {n m i:Nat} (h0:n<2^i):n ||| (m*2^i)=n+m*2^i:=by
 rw[Nat.or_comm,Nat.mul_comm,<-Nat.two_pow_add_eq_or_of_lt h0]
 omega
theorem pow7 (i:Nat):2^(7*i)=128^i:=by rw[Nat.pow_mul]
end
def RdAt (h:PH) (p:Nat) (s:ByteArray) (at_:Nat):Prop:=h p=some (.cells #[.string s,.int .i64 at_] 135 (0,0))
def putRd (h:PH) (p:Nat) (s:ByteArray) (at_:Nat):PH:=ins h p (.cells #[.string s,.int .i64 at_] 135 (0,0))
def fault (e:Int):List PanicEntry:=[{v:=.iface 178 (.int .i64 e),recovered:=false}]
theorem putRd_put (h:PH) (p:Nat) (s s':ByteArray) (i j:Nat):putRd (putRd h p s i) p s' j=putRd h p s' j:=ins_ins _ _ _ _
section
variable {h:PH} {R:AEnd->PH->Prop} {p:Nat} {s:ByteArray}
theorem rd_number {at_:Nat} (hr:RdAt h p s at_) (hz:s.size<9223372036854775807)
  (hok:∀n next,rdNum s.data.toList at_ = .ok n next->R (.ret (.int .i64 n)) (putRd h p s next))
  (hbad:∀e j,rdNum s.data.toList at_ = .bad e->R (.pan (fault e)) (putRd h p s j)) :
  ACalls Tryz.prog 60 #[ptr p] h R:=by
 refine call60 ?_
 unfold sh60
 have h0:putRd h p s at_=h:=ins_self hr
 refine lf_intro (λm s' g=>∃(i n j:Nat),s'=(.int .i64 0,.int .i64 n,.int .i64 i)/\m=8-i/\i<8/\n<128^i/\g=putRd h p s j/\rdN s.data.toList (8-i) i n j=rdNum s.data.toList at_) 8 ⟨0,0,at_,rfl,rfl,by omega,by omega,h0.symm,rfl⟩ ?_
 rintro m s' g ⟨i,n,j,rfl,rfl,hi,hn,rfl,hrd⟩
 have hp:putRd h p s j p=some (.cells #[.string s,.int .i64 j] 135 (0,0)):=ins_eq _ _ _
 have q0:(#[Value.string s,.int .i64 j]:Array Value)[0+0]?=some (.string s):=rfl
 have q1:(#[Value.string s,.int .i64 j]:Array Value)[0+1]?=some (.int .i64 j):=rfl
 obtain⟨fu,hfu⟩:∃fu,8-i=fu+1:=⟨7-i,by omega⟩
 rw[hfu,rdN]at hrd
 cases hc:s.data.toList[j]? with
 | none=>
  rw[hc]at hrd
  have hjs:s.size<=j:=by
   have:=List.getElem?_eq_none_iff.1 hc
   rw[Array.length_toList]at this
   exact this
  unfold b60_4
  simp only[vNil_p,vFA_p,vLoad_1 hp q0,vLoad_1 hp q1,vLenStr_s,vBin_geq,dIf_b,decide_eq_true_eq,decide_eq_false_iff_not]
  refine⟨λ_=>?_,λhlt=>absurd (by omega) hlt⟩
  simp only[vIface_v]
  exact⟨_,_,rfl,hbad 10 j hrd.symm⟩
 | some c=>
  rw[hc]at hrd
  simp only at hrd
  have hjs:j<s.size:=by
   have:=(List.getElem?_eq_some_iff.1 hc).1
   rw[Array.length_toList]at this
   exact this
  have hcd:s.data[j]?=some c:=by rw[<-Array.getElem?_toList];exact hc
  have hc8:c.toNat<256:=c.toNat_lt
  unfold b60_4
  simp only[vNil_p,vFA_p,vLoad_1 hp q0,vLoad_1 hp q1,vLenStr_s,vBin_geq,dIf_b,decide_eq_true_eq,decide_eq_false_iff_not]
  refine⟨λhge=>absurd hge (by omega),λ_=>?_⟩
  refine⟨s,.i64,j,c,rfl,rfl,by omega,by simpa using hcd,?_⟩
  simp only[vConvI_i,vBin_add]
  rw[w64 (by omega) (by omega),w64 (by omega) (by omega)]
  refine (vStore_1 hp (by simp) rfl).2 ?_
  have hset:ins (putRd h p s j) p (.cells ((#[Value.string s,.int .i64 j]:Array Value).setIfInBounds (0+1) (.int .i64 ((j:Int)+1))) 135 (0,0))=putRd h p s (j+1):=by
   show ins (ins _ _ _) _ _=_
   rw[ins_ins];rfl
  rw[hset]
  rw[vBin_and127 _ (by omega) (by omega)]
  simp only[vBin_mul]
  rw[w64 (by omega) (by omega),vBin_shl (by omega) (by omega) (by omega) (by omega)]
  have e1:((c.toNat:Int)%128*2^((7:Int)*(i:Int)).toNat)=((c.toNat%128*2^(7*i):Nat):Int):=by
   rw[show ((7:Int)*(i:Int)).toNat=7*i by omega];simp
  have hb:(c.toNat%128)*2^(7*i)<=127*2^49:=Nat.mul_le_mul (by omega) (Nat.pow_le_pow_right (by omega) (by omega))
  have hn2:n<2^(7*i):=by rw[pow7];exact hn
  have hn3:2^(7*i)<=2^49:=Nat.pow_le_pow_right (by omega) (by omega)
  rw[e1,vBin_orN (or_dis hn2) (by omega)]
  rw[pow7]at hb hn2 hn3 ⊢
  generalize hN:n+c.toNat%128*128^i=N at hrd ⊢
  have hNb:N<=72057594037927936:=by omega
  simp only[vBin_geq,dIf_b,decide_eq_true_eq,decide_eq_false_iff_not]
  refine⟨λhge=>?_,λhlt=>?_⟩
  ·rw[if_pos (by omega)]at hrd
   simp only[vBin_eql,dIf_b,decide_eq_true_eq,decide_eq_false_iff_not]
   refine⟨λh7=>?_,λh7=>?_⟩
   ·rw[if_pos (by omega)]at hrd
    exact⟨_,_,rfl,hbad 11 (j+1) hrd.symm⟩
   ·rw[if_neg (by omega)]at hrd
    rw[w64 (by omega) (by omega)]
    refine⟨by trivial,8-(i+1),by omega,i+1,N,j+1,rfl,rfl,by omega,?_,rfl,?_⟩
    ·have e5:128^(i+1)=128*128^i:=by rw[Nat.pow_succ,Nat.mul_comm]
     have e6:c.toNat%128*128^i<=127*128^i:=Nat.mul_le_mul_right _ (by omega)
     omega
    ·rw[show 8-(i+1)=fu by omega];exact hrd
  ·rw[if_neg (by omega)]at hrd
   obtain⟨b0,hb0⟩:∃b0,b0=decide ((c.toNat:Int)=0):=⟨_,rfl⟩
   obtain⟨b1,hb1⟩:∃b1,b1=decide (0<(i:Int)):=⟨_,rfl⟩
   obtain⟨b2,hb2⟩:∃b2,b2=decide (9007199254740992<(N:Int)):=⟨_,rfl⟩
   have n0:∀{K:Value->Prop},vBin Tryz.prog .eql 3 (.int .i64 (c.toNat:Int)) (.int .i64 0) K↔K (.bool b0):=λ{K}=>by rw[hb0];exact vBin_eql _ _ _ _
   have n1:∀{K:Value->Prop},vBin Tryz.prog .gtr 3 (.int .i64 (i:Int)) (.int .i64 0) K↔K (.bool b1):=λ{K}=>by rw[hb1];exact vBin_gtr _ _ _ _
   have n2:∀{K:Value->Prop},vBin Tryz.prog .gtr 3 (.int .i64 (N:Int)) (.int .i64 9007199254740992) K↔K (.bool b2):=λ{K}=>by rw[hb2];exact vBin_gtr _ _ _ _
   have hT:(b0&&b1||b2)=true->rdNum s.data.toList at_ = .bad 11:=λhh=>by
    rw[hb0,hb1,hb2]at hh
    simp only[Bool.or_eq_true,Bool.and_eq_true,decide_eq_true_eq]at hh
    rw[if_pos (by omega)]at hrd
    exact hrd.symm
   have hF:(b0&&b1||b2)=false->rdNum s.data.toList at_ = .ok N (j+1):=λhh=>by
    rw[hb0,hb1,hb2]at hh
    simp only[Bool.or_eq_false_iff,Bool.and_eq_false_iff,decide_eq_false_iff_not]at hh
    rw[if_neg (by omega)]at hrd
    exact hrd.symm
   clear hb0 hb1 hb2 hrd
   have bad:rdNum s.data.toList at_ = .bad 11->∃t v,Value.iface 178 (.int .i64 11) = .iface t v/\R (.pan [{v:=.iface t v,recovered:=false}]) (putRd h p s (j+1)):=λhh=>⟨_,_,rfl,hbad 11 (j+1) hh⟩
   have good:rdNum s.data.toList at_ = .ok N (j+1)->exq (λρ=>ρ 2) (.int .i64 (N:Int)) (λr h_1=>R (.ret (r 2)) h_1) (putRd h p s (j+1)):=λhh=>by
    intro r hr
    rw[show r 2=_ from hr]
    exact hok N (j+1) hh
   cases b0 <;> cases b1 <;> cases b2 <;> simp only[n0,n1,n2,boolOf_b,gq_b,vPick_b,cond_true,cond_false,dIf_b,Bool.false_eq_true,Bool.true_eq_false,ne_eq,not_true_eq_false,not_false_eq_true,false_implies,forall_const,true_and,and_true,gq_n,boolOf_u,vIface_v] <;>
    first | exact good (hF rfl) | exact bad (hT rfl)
end
end Go.Pw
set_option linter.unusedSimpArgs false
set_option linter.unusedVariables false
namespace Go.Pw
open Go Go.Proofs
section
variable {h:PH} {R:AEnd->PH->Prop} {K:Value->Prop}
theorem caught_ok {e:Int} (hR:R (.ret (.int .i64 e)) h):ACalls Tryz.prog 59 #[.iface 178 (.int .i64 e)] h R:=by
 refine call59 ?_
 unfold sh59
 refine⟨.tuple #[.int .i64 e,.bool true],by kernel_rfl,?_⟩
 simp[hR]
theorem any_neq (e:Int):vBin Tryz.prog .neq 20 (.iface 178 (.int .i64 e)) .nilIface K↔K (.bool true):=vBin_of λx y=>by kernel_rfl
theorem any_nil:vBin Tryz.prog .neq 20 .nilIface .nilIface K↔K (.bool false):=vBin_of λx y=>by cases x <;> cases y <;> kernel_rfl
structure S3 (h g:PH) (e:TypeId) (a b c:Nat) (v4 v5 v6:Value):Prop where
 sub:Sub h g
 a0:h a=none
 b0:h b=none
 c0:h c=none
 ga:g a=some (.cells #[v4] e (0,0))
 gb:g b=some (.cells #[v5] 3 (0,0))
 gc:g c=some (.cells #[v6] 30 (0,0))
 ab:a≠b
 ac:a≠c
 bc:b≠c
variable {g:PH} {e:TypeId} {a b c:Nat} {v4 v5 v6:Value}
theorem S3.other (s:S3 h g e a b c v4 v5 v6) {p:Nat} {o:Obj} (hp:h p=none) (ha:a≠p) (hb:b≠p) (hc:c≠p):S3 h (ins g p o) e a b c v4 v5 v6:=
 ⟨Sub.put s.sub hp,s.a0,s.b0,s.c0,by rw[ins_ne _ _ ha];exact s.ga,by rw[ins_ne _ _ hb];exact s.gb,by rw[ins_ne _ _ hc];exact s.gc,s.ab,s.ac,s.bc⟩
theorem S3.st4 {K:PH->Prop} (s:S3 h g e a b c v4 v5 v6) {v:Value} (ho:v.oneCell'=true) (hk:S3 h (ins g a (.cells #[v] e (0,0))) e a b c v v5 v6->K (ins g a (.cells #[v] e (0,0)))):vStore 1 (.pointer (some ⟨a,0,none⟩)) v g K:=by
 refine (vStore_1 s.ga (by simp) ho).2 ?_
 exact hk ⟨Sub.put s.sub s.a0,s.a0,s.b0,s.c0,ins_eq _ _ _,by rw[ins_ne _ _ (λe=>s.ab e.symm)];exact s.gb,by rw[ins_ne _ _ (λe=>s.ac e.symm)];exact s.gc,s.ab,s.ac,s.bc⟩
theorem S3.st5 {K:PH->Prop} (s:S3 h g e a b c v4 v5 v6) {v:Value} (ho:v.oneCell'=true) (hk:S3 h (ins g b (.cells #[v] 3 (0,0))) e a b c v4 v v6->K (ins g b (.cells #[v] 3 (0,0)))):vStore 1 (.pointer (some ⟨b,0,none⟩)) v g K:=by
 refine (vStore_1 s.gb (by simp) ho).2 ?_
 exact hk ⟨Sub.put s.sub s.b0,s.a0,s.b0,s.c0,by rw[ins_ne _ _ s.ab];exact s.ga,ins_eq _ _ _,by rw[ins_ne _ _ (λe=>s.bc e.symm)];exact s.gc,s.ab,s.ac,s.bc⟩
theorem S3.st6 {K:PH->Prop} (s:S3 h g e a b c v4 v5 v6) {v:Value} (ho:v.oneCell'=true) (hk:S3 h (ins g c (.cells #[v] 30 (0,0))) e a b c v4 v5 v->K (ins g c (.cells #[v] 30 (0,0)))):vStore 1 (.pointer (some ⟨c,0,none⟩)) v g K:=by
 refine (vStore_1 s.gc (by simp) ho).2 ?_
 exact hk ⟨Sub.put s.sub s.c0,s.a0,s.b0,s.c0,by rw[ins_ne _ _ s.ac];exact s.ga,by rw[ins_ne _ _ s.bc];exact s.gb,ins_eq _ _ _,s.ab,s.ac,s.bc⟩
theorem S3.ld4 (s:S3 h g e a b c v4 v5 v6):vLoad none (.pointer (some ⟨a,0,none⟩)) g K↔K v4:=vLoad_1 s.ga rfl
theorem S3.ld5 (s:S3 h g e a b c v4 v5 v6):vLoad none (.pointer (some ⟨b,0,none⟩)) g K↔K v5:=vLoad_1 s.gb rfl
theorem S3.ld6 (s:S3 h g e a b c v4 v5 v6):vLoad none (.pointer (some ⟨c,0,none⟩)) g K↔K v6:=vLoad_1 s.gc rfl
theorem S3.new {z:Value} {o2 o3:Value} (ha:h a=none) (hb:ins h a (.cells #[z] e (0,0)) b=none) (hc:ins (ins h a (.cells #[z] e (0,0))) b (.cells #[o2] 3 (0,0)) c=none) :
  S3 h (ins (ins (ins h a (.cells #[z] e (0,0))) b (.cells #[o2] 3 (0,0))) c (.cells #[o3] 30 (0,0))) e a b c z o2 o3:=by
 obtain⟨hb1,hba⟩:=fresh_of hb
 obtain⟨hc1,hcb⟩:=fresh_of hc
 obtain⟨hc2,hca⟩:=fresh_of hc1
 exact⟨Sub.put (Sub.put (Sub.put (Sub.refl h) ha) hb1) hc2,ha,hb1,hc2,by rw[ins_ne _ _ (λe=>hca e.symm),ins_ne _ _ (λe=>hba e.symm)];exact ins_eq _ _ _,by rw[ins_ne _ _ (λe=>hcb e.symm)];exact ins_eq _ _ _,ins_eq _ _ _,λe=>hba e.symm,λe=>hca e.symm,λe=>hcb e.symm⟩
theorem door_int {v5:Value} (s:S3 h g 3 a b c v4 v5 v6) (er:Int) (hR:R (.ret (.tuple #[.int .i64 0,.int .i64 0,.int .i64 er])) h) :
  d54 (ptr a) (ptr b) (ptr c) (ptr a) (ptr b) (ptr c) (λe h'=>∃g,Sub g h'/\R e g) (.iface 178 (.int .i64 er)) g:=by
 unfold d54
 rw[any_neq]
 simp only[dIf_b]
 refine⟨λ_=>?_,λe=>absurd e (by simp)⟩
 refine caught_ok ?_
 simp only[AEnd.elim]
 refine s.st4 rfl λs=>s.st5 rfl λs=>s.st6 rfl λs=>?_
 rw[s.ld4,s.ld5,s.ld6]
 exact⟨h,s.sub,hR⟩
theorem door_int_nil (s:S3 h g 3 a b c v4 v5 v6) (hR:R (.ret (.tuple #[v4,v5,v6])) h) :
  d54 (ptr a) (ptr b) (ptr c) (ptr a) (ptr b) (ptr c) (λe h'=>∃g,Sub g h'/\R e g) .nilIface g:=by
 unfold d54
 rw[any_nil]
 simp only[dIf_b]
 refine⟨λe=>absurd e (by simp),λ_=>?_⟩
 rw[s.ld4,s.ld5,s.ld6]
 exact⟨h,s.sub,hR⟩
theorem getInt_ok {s:ByteArray} {at_:Int} (hz:s.size<9223372036854775807)
  (hR:R (.ret (if at_<0\/(s.size:Int)<at_ then .tuple #[.int .i64 0,.int .i64 0,.int .i64 1]else match rdNum s.data.toList at_.toNat with
   | .ok n next=>.tuple #[.int .i64 n,.int .i64 next,.int .i64 0]
   | .bad e=>.tuple #[.int .i64 0,.int .i64 0,.int .i64 e])) h):ACalls Tryz.prog 54 #[.string s,.int .i64 at_] h R:=by
 refine ACalls.drop (call54 ?_)
 unfold sh54
 refine vNew_i λa ha=>vNew_i λb hb=>vNew_i λc hc=>?_
 have s3:=S3.new (o3:=.int .i64 0) ha hb hc
 revert s3
 generalize (ins (ins (ins h a (.cells #[.int .i64 0] 3 (0,0))) b (.cells #[.int .i64 0] 3 (0,0))) c (.cells #[.int .i64 0] 30 (0,0)))=g
 intro s3
 have early:(at_<0\/(s.size:Int)<at_)->vStore 1 (.pointer (some ⟨a,0,none⟩)) (.int .i64 0) g λh_8=>vStore 1 (.pointer (some ⟨b,0,none⟩)) (.int .i64 0) h_8 λh_9=>vStore 1 (.pointer (some ⟨c,0,none⟩)) (.int .i64 1) h_9 λh_10=>
   vLoad none (.pointer (some ⟨a,0,none⟩)) h_10 λrv=>vLoad none (.pointer (some ⟨b,0,none⟩)) h_10 λrv_1=>vLoad none (.pointer (some ⟨c,0,none⟩)) h_10 λrv_2=>∃g,Sub g h_10/\R (.ret (.tuple #[rv,rv_1,rv_2])) g:=λhh=>by
  rw[if_pos hh]at hR
  refine s3.st4 rfl λs=>s.st5 rfl λs=>s.st6 rfl λs=>?_
  rw[s.ld4,s.ld5,s.ld6]
  exact⟨h,s.sub,hR⟩
 by_cases h1:at_<0
 ·simp only[vBin_lss,h1,decide_true,boolOf_b,gq_b,Bool.true_eq_false,false_implies,ne_eq,not_false_eq_true,forall_const,true_and,not_true_eq_false,boolOf_u,gq_n,vPick_b,cond_true,dIf_b]
  first | exact early (.inl h1) | exact⟨early (.inl h1),by simp⟩
 ·by_cases h2:(s.size:Int)<at_
  ·simp only[vBin_lss,h1,decide_false,decide_true,boolOf_b,gq_b,Bool.true_eq_false,false_implies,ne_eq,not_false_eq_true,forall_const,true_and,and_true,not_true_eq_false,boolOf_u,gq_n,vPick_b,cond_false,dIf_b,vLenStr_s,vBin_gtr,h2]
   first | exact early (.inr h2) | exact⟨early (.inr h2),by simp⟩
  ·obtain⟨n,rfl⟩:∃n:Nat,at_=n:=⟨at_.toNat,by omega⟩
   rw[if_neg (by omega),Int.toNat_natCast]at hR
   simp only[vBin_lss,h1,decide_false,decide_true,boolOf_b,gq_b,Bool.true_eq_false,Bool.false_eq_true,false_implies,ne_eq,not_false_eq_true,forall_const,true_and,and_true,not_true_eq_false,boolOf_u,gq_n,vPick_b,cond_false,dIf_b,vLenStr_s,vBin_gtr,h2]
   clear early
   refine⟨#[.string s,.int .i64 n],rfl,?_⟩
   refine vNew_i λp hp=>?_
   refine vStore_to (ins_eq _ _ _) (by rfl) (by rfl) (by rfl) ?_
   rw[ins_ins]
   have hph:h p=none:=s3.sub.fresh hp
   have hpa:a≠p:=λe=>by rw[<-e,s3.ga]at hp;cases hp
   have hpb:b≠p:=λe=>by rw[<-e,s3.gb]at hp;cases hp
   have hpc:c≠p:=λe=>by rw[<-e,s3.gc]at hp;cases hp
   refine rd_number (s:=s) (at_:=n) (ins_eq _ _ _) hz (λm next hrd=>?_) (λer j hrd=>?_)
   ·rw[hrd]at hR
    simp only[AEnd.elim]
    have s4:S3 h (putRd (ins g p (.cells #[.string s,.int .i64 n] 135 (0,0))) p s next) 3 a b c (.int .i64 0) (.int .i64 0) (.int .i64 0):=(s3.other hph hpa hpb hpc).other hph hpa hpb hpc
    have hpp:putRd (ins g p (.cells #[.string s,.int .i64 n] 135 (0,0))) p s next p=some (.cells #[.string s,.int .i64 next] 135 (0,0)):=ins_eq _ _ _
    revert s4 hpp
    generalize putRd (ins g p (.cells #[.string s,.int .i64 n] 135 (0,0))) p s next=g4
    intro s4 hpp
    refine s4.st4 rfl λs5=>?_
    rw[s5.ld4]
    have hp5:∀v o,ins (ins g4 a o) a v p=some (.cells #[.string s,.int .i64 next] 135 (0,0)):=λv o=>by rw[ins_ins,ins_ne _ _ (λe=>hpa e.symm)];exact hpp
    have hp4:∀o,ins g4 a o p=some (.cells #[.string s,.int .i64 next] 135 (0,0)):=λo=>by rw[ins_ne _ _ (λe=>hpa e.symm)];exact hpp
    simp only[vFA_p]
    rw[vLoad_1 (hp4 _) (v:=.int .i64 next) rfl]
    refine s5.st4 rfl λs6=>?_
    refine⟨by rw[vLoad_1 (hp5 _ _) (v:=.int .i64 next) rfl],?_⟩
    refine s6.st5 rfl λs7=>s7.st6 rfl λs8=>?_
    exact door_int_nil s8 hR
   ·rw[hrd]at hR
    simp only[AEnd.elim]
    exact⟨_,rfl,door_int ((s3.other hph hpa hpb hpc).other hph hpa hpb hpc) er hR⟩
end
end Go.Pw
set_option linter.unusedSimpArgs false
set_option linter.unusedVariables false
namespace Go.Pw
open Go Go.Proofs
def rdTxt (s:ByteArray) (at_:Nat):Rd ByteArray:=match rdNum s.data.toList at_ with
 | .bad e=>.bad e
 | .ok n next=>if 1048576<n then .bad 4 else if s.size<next+n then .bad 10 else .ok (s.extract next (next+n)) (next+n)
section
variable {h:PH} {R:AEnd->PH->Prop} {K:Value->Prop} {p:Nat} {s:ByteArray}
theorem rdN_le {s:List UInt8}:∀(fuel i n at_ m next:Nat),rdN s fuel i n at_ = .ok m next->next<=s.length
 | 0,i,n,at_,m,next,h=>by simp[rdN]at h
 | fuel+1,i,n,at_,m,next,h=>by
  rw[rdN]at h
  cases hc:s[at_]? with
  | none=>rw[hc]at h;cases h
  | some c=>
   rw[hc]at h
   simp only at h
   have hl:=(List.getElem?_eq_some_iff.1 hc).1
   split at h
   ·split at h
    ·cases h
    ·exact rdN_le fuel _ _ _ _ _ h
   ·split at h
    ·cases h
    ·cases h;omega
theorem rd_bytes {j n:Nat} (hr:RdAt h p s j) (hz:s.size<4611686018427387904) (hj:j<4611686018427387904) (hn:n<=1048576)
  (hok:¬s.size<j+n->R (.ret (.string (s.extract j (j+n)))) (putRd h p s (j+n))) (hbad:s.size<j+n->R (.pan (fault 10)) h) :
  ACalls Tryz.prog 61 #[ptr p,.int .i64 n] h R:=by
 refine call61 ?_
 unfold sh61
 have q0:(#[Value.string s,.int .i64 j]:Array Value)[0+0]?=some (.string s):=rfl
 have q1:(#[Value.string s,.int .i64 j]:Array Value)[0+1]?=some (.int .i64 j):=rfl
 simp only[vNil_p,vFA_p,vLoad_1 hr q0,vLoad_1 hr q1,vLenStr_s,vBin_sub]
 rw[w64 (by omega) (by omega)]
 simp only[vBin_gtr,dIf_b,decide_eq_true_eq,decide_eq_false_iff_not]
 refine⟨λhgt=>⟨_,_,rfl,hbad (by omega)⟩,λhle=>?_⟩
 simp only[vBin_add]
 rw[w64 (by omega) (by omega)]
 refine (vStore_1 hr (by simp) rfl).2 ?_
 have hset:ins h p (.cells ((#[Value.string s,.int .i64 j]:Array Value).setIfInBounds (0+1) (.int .i64 ((j:Int)+(n:Int)))) 135 (0,0))=putRd h p s (j+n):=rfl
 rw[hset]
 have hp:putRd h p s (j+n) p=some (.cells #[.string s,.int .i64 (j+n:Nat)] 135 (0,0)):=ins_eq _ _ _
 have r0:(#[Value.string s,.int .i64 (j+n:Nat)]:Array Value)[0+0]?=some (.string s):=rfl
 have r1:(#[Value.string s,.int .i64 (j+n:Nat)]:Array Value)[0+1]?=some (.int .i64 (j+n:Nat)):=rfl
 simp only[vLoad_1 hp r0,vLoad_1 hp r1,vBin_sub]
 rw[w64 (by omega) (by omega)]
 refine⟨s,rfl,.i64,_,rfl,by omega,by omega,.i64,_,rfl,by omega,by omega,?_⟩
 rw[Int.toNat_natCast,show (((j+n:Nat):Int)-(n:Int)).toNat=j by omega]
 exact hok (by omega)
theorem rd_text {at_:Nat} (hr:RdAt h p s at_) (hz:s.size<4611686018427387904) (ha:at_<4611686018427387904)
  (hok:∀t next,rdTxt s at_ = .ok t next->R (.ret (.string t)) (putRd h p s next))
  (hbad:∀e j,rdTxt s at_ = .bad e->R (.pan (fault e)) (putRd h p s j)) :
  ACalls Tryz.prog 169 #[ptr p] h R:=by
 refine call169 ?_
 unfold sh169
 refine rd_number hr (by omega) (λn next hrd=>?_) (λe j hrd=>?_)
 ·have hnx:next<=s.size:=by
   have:=rdN_le _ _ _ _ _ _ hrd
   rw[Array.length_toList]at this
   exact this
  simp only[AEnd.elim,vBin_gtr,dIf_b,decide_eq_true_eq,decide_eq_false_iff_not]
  unfold rdTxt at hok hbad
  rw[hrd]at hok hbad
  simp only at hok hbad
  refine⟨λhgt=>?_,λhle=>?_⟩
  ·exact⟨_,_,rfl,hbad 4 next (by rw[if_pos (by omega)])⟩
  ·rw[if_neg (by omega)]at hok hbad
   refine rd_bytes (j:=next) (n:=n) (ins_eq _ _ _) hz (by omega) (by omega) (λhh=>?_) (λhh=>?_)
   ·simp only[AEnd.elim]
    rw[putRd_put]
    exact hok _ _ (by rw[if_neg hh])
   ·simp only[AEnd.elim]
    exact hbad 10 next (by rw[if_pos hh])
 ·simp only[AEnd.elim]
  exact hbad e j (by unfold rdTxt;rw[hrd])
variable {g:PH} {e:TypeId} {a b c:Nat} {v4 v5 v6:Value}
theorem door_txt {v5:Value} (s:S3 h g 9 a b c v4 v5 v6) (er:Int) (hR:R (.ret (.tuple #[.string ⟨#[]⟩,.int .i64 0,.int .i64 er])) h) :
  d141 (ptr a) (ptr b) (ptr c) (ptr a) (ptr b) (ptr c) (λe h'=>∃g,Sub g h'/\R e g) (.iface 178 (.int .i64 er)) g:=by
 unfold d141
 rw[any_neq]
 simp only[dIf_b]
 refine⟨λ_=>?_,λe=>absurd e (by simp)⟩
 refine caught_ok ?_
 simp only[AEnd.elim]
 refine s.st4 rfl λs=>s.st5 rfl λs=>s.st6 rfl λs=>?_
 rw[s.ld4,s.ld5,s.ld6]
 exact⟨h,s.sub,hR⟩
theorem door_txt_nil (s:S3 h g 9 a b c v4 v5 v6) (hR:R (.ret (.tuple #[v4,v5,v6])) h) :
  d141 (ptr a) (ptr b) (ptr c) (ptr a) (ptr b) (ptr c) (λe h'=>∃g,Sub g h'/\R e g) .nilIface g:=by
 unfold d141
 rw[any_nil]
 simp only[dIf_b]
 refine⟨λe=>absurd e (by simp),λ_=>?_⟩
 rw[s.ld4,s.ld5,s.ld6]
 exact⟨h,s.sub,hR⟩
theorem getText_ok {s:ByteArray} {at_:Int} (hz:s.size<4611686018427387904)
  (hR:R (.ret (if at_<0\/(s.size:Int)<at_ then .tuple #[.string ⟨#[]⟩,.int .i64 0,.int .i64 1]else match rdTxt s at_.toNat with
   | .ok t next=>.tuple #[.string t,.int .i64 next,.int .i64 0]
   | .bad e=>.tuple #[.string ⟨#[]⟩,.int .i64 0,.int .i64 e])) h):ACalls Tryz.prog 141 #[.string s,.int .i64 at_] h R:=by
 refine ACalls.drop (call141 ?_)
 unfold sh141
 refine vNew_i λa ha=>vNew_i λb hb=>vNew_i λc hc=>?_
 have s3:=S3.new (o3:=.int .i64 0) ha hb hc
 revert s3
 generalize (ins (ins (ins h a (.cells #[.string ⟨#[]⟩] 9 (0,0))) b (.cells #[.int .i64 0] 3 (0,0))) c (.cells #[.int .i64 0] 30 (0,0)))=g
 intro s3
 have early:(at_<0\/(s.size:Int)<at_)->vStore 1 (.pointer (some ⟨a,0,none⟩)) (.string ⟨#[]⟩) g λh_8=>vStore 1 (.pointer (some ⟨b,0,none⟩)) (.int .i64 0) h_8 λh_9=>vStore 1 (.pointer (some ⟨c,0,none⟩)) (.int .i64 1) h_9 λh_10=>
   vLoad none (.pointer (some ⟨a,0,none⟩)) h_10 λrv=>vLoad none (.pointer (some ⟨b,0,none⟩)) h_10 λrv_1=>vLoad none (.pointer (some ⟨c,0,none⟩)) h_10 λrv_2=>∃g,Sub g h_10/\R (.ret (.tuple #[rv,rv_1,rv_2])) g:=λhh=>by
  rw[if_pos hh]at hR
  refine s3.st4 rfl λs=>s.st5 rfl λs=>s.st6 rfl λs=>?_
  rw[s.ld4,s.ld5,s.ld6]
  exact⟨h,s.sub,hR⟩
 by_cases h1:at_<0
 ·simp only[vBin_lss,h1,decide_true,boolOf_b,gq_b,Bool.true_eq_false,false_implies,ne_eq,not_false_eq_true,forall_const,true_and,not_true_eq_false,boolOf_u,gq_n,vPick_b,cond_true,dIf_b]
  first | exact early (.inl h1) | exact⟨early (.inl h1),by simp⟩
 ·by_cases h2:(s.size:Int)<at_
  ·simp only[vBin_lss,h1,decide_false,decide_true,boolOf_b,gq_b,Bool.true_eq_false,false_implies,ne_eq,not_false_eq_true,forall_const,true_and,and_true,not_true_eq_false,boolOf_u,gq_n,vPick_b,cond_false,dIf_b,vLenStr_s,vBin_gtr,h2]
   first | exact early (.inr h2) | exact⟨early (.inr h2),by simp⟩
  ·obtain⟨n,rfl⟩:∃n:Nat,at_=n:=⟨at_.toNat,by omega⟩
   rw[if_neg (by omega),Int.toNat_natCast]at hR
   simp only[vBin_lss,h1,decide_false,decide_true,boolOf_b,gq_b,Bool.true_eq_false,Bool.false_eq_true,false_implies,ne_eq,not_false_eq_true,forall_const,true_and,and_true,not_true_eq_false,boolOf_u,gq_n,vPick_b,cond_false,dIf_b,vLenStr_s,vBin_gtr,h2]
   clear early
   refine⟨#[.string s,.int .i64 n],rfl,?_⟩
   refine vNew_i λp hp=>?_
   refine vStore_to (ins_eq _ _ _) (by rfl) (by rfl) (by rfl) ?_
   rw[ins_ins]
   have hph:h p=none:=s3.sub.fresh hp
   have hpa:a≠p:=λe=>by rw[<-e,s3.ga]at hp;cases hp
   have hpb:b≠p:=λe=>by rw[<-e,s3.gb]at hp;cases hp
   have hpc:c≠p:=λe=>by rw[<-e,s3.gc]at hp;cases hp
   refine rd_text (s:=s) (at_:=n) (ins_eq _ _ _) hz (by omega) (λm next hrd=>?_) (λer j hrd=>?_)
   ·rw[hrd]at hR
    simp only[AEnd.elim]
    have s4:S3 h (putRd (ins g p (.cells #[.string s,.int .i64 n] 135 (0,0))) p s next) 9 a b c (.string ⟨#[]⟩) (.int .i64 0) (.int .i64 0):=(s3.other hph hpa hpb hpc).other hph hpa hpb hpc
    have hpp:putRd (ins g p (.cells #[.string s,.int .i64 n] 135 (0,0))) p s next p=some (.cells #[.string s,.int .i64 next] 135 (0,0)):=ins_eq _ _ _
    revert s4 hpp
    generalize putRd (ins g p (.cells #[.string s,.int .i64 n] 135 (0,0))) p s next=g4
    intro s4 hpp
    refine s4.st4 rfl λs5=>?_
    rw[s5.ld4]
    have hp5:∀v o,ins (ins g4 a o) a v p=some (.cells #[.string s,.int .i64 next] 135 (0,0)):=λv o=>by rw[ins_ins,ins_ne _ _ (λe=>hpa e.symm)];exact hpp
    have hp4:∀o,ins g4 a o p=some (.cells #[.string s,.int .i64 next] 135 (0,0)):=λo=>by rw[ins_ne _ _ (λe=>hpa e.symm)];exact hpp
    simp only[vFA_p]
    rw[vLoad_1 (hp4 _) (v:=.int .i64 next) rfl]
    refine s5.st4 rfl λs6=>?_
    refine⟨by rw[vLoad_1 (hp5 _ _) (v:=.int .i64 next) rfl],?_⟩
    refine s6.st5 rfl λs7=>s7.st6 rfl λs8=>?_
    exact door_txt_nil s8 hR
   ·rw[hrd]at hR
    simp only[AEnd.elim]
    exact⟨_,rfl,door_txt ((s3.other hph hpa hpb hpc).other hph hpa hpb hpc) er hR⟩
end
end Go.Pw
set_option linter.unusedSimpArgs false
set_option linter.unusedVariables false
namespace Go.Pw
open Go Go.Proofs
def numAt (s:ByteArray) (at_:Nat):Nat×Nat:=if s.size<at_ then (0,s.size+1)else match rdNum s.data.toList at_ with
 | .ok n next=>if 1099511627776<n then (0,s.size+1)else (n,next)
 | .bad _=>(0,s.size+1)
theorem numAt_le (s:ByteArray) (at_:Nat):(numAt s at_).1<=1099511627776/\(numAt s at_).2<=s.size+1:=by
 unfold numAt
 split
 ·exact⟨by omega,by omega⟩
 ·split
  ·rename_i n next hr
   have:=rdN_le _ _ _ _ _ _ hr
   rw[Array.length_toList]at this
   have hz:s.data.size=s.size:=rfl
   split
   ·exact⟨by simp,by simp⟩
   ·exact⟨by omega,by simp only;omega⟩
  ·exact⟨by simp,by simp⟩
theorem rdN_bad {s:List UInt8}:∀(fuel i n at_:Nat) (e:Int),rdN s fuel i n at_ = .bad e->e=10\/e=11
 | 0,i,n,at_,e,h=>by rw[rdN]at h;cases h;exact .inr rfl
 | fuel+1,i,n,at_,e,h=>by
  rw[rdN]at h
  cases hc:s[at_]? with
  | none=>rw[hc]at h;cases h;exact .inl rfl
  | some c=>
   rw[hc]at h
   simp only at h
   split at h
   ·split at h
    ·cases h;exact .inr rfl
    ·exact rdN_bad fuel _ _ _ _ h
   ·split at h
    ·cases h;exact .inr rfl
    ·cases h
def atN (s:ByteArray):Nat->Nat
 | 0=>0
 | k+1=>(numAt s (atN s k)).2
def vN (s:ByteArray) (k:Nat):Nat:=(numAt s (atN s k)).1
theorem atN_le (s:ByteArray):∀k,atN s k<=s.size+1
 | 0=>by simp[atN]
 | k+1=>(numAt_le s _).2
section
variable {h:PH} {R:AEnd->PH->Prop} {ps pa:Nat} {s:ByteArray}
theorem num_ok {at_:Nat} (hs:h ps=some (.cells #[.string s] 9 (0,0))) (ha:h pa=some (.cells #[.int .i64 at_] 3 (0,0))) (hz:s.size<4611686018427387000) (hat:at_<=s.size+1)
  (hR:R (.ret (.int .i64 (numAt s at_).1)) (ins h pa (.cells #[.int .i64 (numAt s at_).2] 3 (0,0)))) :
  ACalls Tryz.prog 140 #[ptr ps,ptr pa] h R:=by
 refine call140 ?_
 unfold sh140
 rw[vLoad_1 hs (v:=.string s) rfl,vLoad_1 ha (v:=.int .i64 at_) rfl]
 refine getInt_ok (by omega) ?_
 have st:∀{K:PH->Prop} {n:Nat},K (ins h pa (.cells #[.int .i64 n] 3 (0,0)))->vStore 1 (ptr pa) (.int .i64 n) h K:=λ{K n} hk=>(vStore_1 ha (by simp) rfl).2 hk
 have bad:numAt s at_=(0,s.size+1)->(vLoad none (ptr ps) h λt19=>vLenStr t19 λt20=>vBin Tryz.prog .add 3 t20 (.int .i64 1) λt21=>vStore 1 (ptr pa) t21 h λh_4=>R (.ret (.int .i64 0)) h_4):=λhh=>by
  rw[vLoad_1 hs (v:=.string s) rfl]
  simp only[vLenStr_s,vBin_add]
  rw[w64 (by omega) (by omega),show ((s.size:Int)+1)=((s.size+1:Nat):Int)by omega]
  refine st ?_
  rw[hh]at hR
  exact hR
 unfold numAt at bad hR
 by_cases h1:s.size<at_
 ·rw[if_pos h1]at bad
  rw[if_pos (.inr (by omega))]
  simp[AEnd.elim]
  exact bad rfl
 ·rw[if_neg h1]at bad hR
  rw[if_neg (by omega)]
  rw[Int.toNat_natCast]
  cases hr:rdNum s.data.toList at_ with
  | bad e=>
   rw[hr]at bad hR
   simp only[AEnd.elim,vExt_30,vExt_31,vExt_32,vBin_neq]
   have he:e≠0:=by rcases rdN_bad _ _ _ _ _ hr with h | h <;> omega
   simp[he]
   exact bad rfl
  | ok n next=>
   rw[hr]at bad hR
   simp only at bad hR
   simp only[AEnd.elim,vExt_30,vExt_31,vExt_32,vBin_neq]
   by_cases hb:1099511627776<n
   ·rw[if_pos hb]at bad
    have:(1099511627776:Int)<(n:Int):=by omega
    simp[this]
    exact bad rfl
   ·rw[if_neg hb]at hR
    have:¬(1099511627776:Int)<(n:Int):=by omega
    simp[this]
    exact st hR
end
end Go.Pw
set_option linter.unusedSimpArgs false
set_option linter.unusedVariables false
namespace Go.Pw
open Go Go.Proofs
structure RS (h:PH) (x b ps pa:Nat) (s:ByteArray) (g:PH) (L':Led) (at_:Nat):Prop where
 sub:Sub (putLed h b L') g
 gs:g ps=some (.cells #[.string s] 9 (0,0))
 ga:g pa=some (.cells #[.int .i64 at_] 3 (0,0))
 hps:h ps=none
 hpa:h pa=none
 psb:ps≠b
 pab:pa≠b
 sa:ps≠pa
 led:LedAt g x b L'
section
variable {h g:PH} {x b ps pa:Nat} {s:ByteArray} {L':Led} {at_:Nat}
theorem RS.num {K:Value->PH->Prop} {Kp:List PanicEntry->PH->Prop} (r:RS h x b ps pa s g L' at_) (hz:s.size<4611686018427387000) (hat:at_<=s.size+1)
  (hk:∀g',RS h x b ps pa s g' L' (numAt s at_).2->K (.int .i64 (numAt s at_).1) g'):vCallV Tryz.prog (.func (.func 140) #[] #[ptr ps,ptr pa]) #[] g K Kp:=by
 refine⟨_,_,_,rfl,?_⟩
 refine num_ok r.gs r.ga hz hat ?_
 simp only[AEnd.elim]
 have hn:putLed h b L' pa=none:=by unfold putLed;rw[ins_ne _ _ r.pab];exact r.hpa
 have hxa:pa≠x:=λe=>by have:=r.led.hx;rw[<-e,r.ga]at this;simp at this
 refine hk _ ⟨Sub.put r.sub hn,by rw[ins_ne _ _ r.sa];exact r.gs,ins_eq _ _ _,r.hps,r.hpa,r.psb,r.pab,r.sa,⟨by rw[ins_ne _ _ (λe=>hxa e.symm)];exact r.led.hx,by rw[ins_ne _ _ (λe=>r.pab e.symm)];exact r.led.hb,r.led.ne⟩⟩
theorem RS.set {K:PH->Prop} (r:RS h x b ps pa s g L' at_) {i j:Nat} {v:Int} (hi:i<L'.n) (hj:j<11) (hk:∀g',RS h x b ps pa s g' (L'.set i j v) at_->K g'):vStore 1 (.pointer (some ⟨b,i*12+j,none⟩)) (.int .i64 v) g K:=by
 rw[r.led.st hi hj]
 refine hk _ ⟨Sub.over r.sub,by unfold putLed;rw[ins_ne _ _ r.psb];exact r.gs,by unfold putLed;rw[ins_ne _ _ r.pab];exact r.ga,r.hps,r.hpa,r.psb,r.pab,r.sa,r.led.after i j v⟩
end
def ldG (L:Led) (i:Nat) (s:ByteArray):Nat->Led
 | 0=>((L.set i 10 (vN s 0)).set i 0 (vN s 1)).set i 1 (vN s 2)
 | k+1=>(ldG L i s k).set i (2+k) (vN s (3+k))
def ldK (L:Led) (i:Nat) (s:ByteArray) (g:Nat):Nat->Led
 | 0=>ldG L i s g
 | k+1=>(ldK L i s g k).set i (6+k) (vN s (3+g+k))
theorem ldG_gn (L:Led) (i:Nat) (s:ByteArray):∀k,(ldG L i s k).n=L.n/\(ldG L i s k).goods=L.goods
 | 0=>⟨rfl,rfl⟩
 | k+1=>ldG_gn L i s k
theorem ldK_gn (L:Led) (i:Nat) (s:ByteArray) (g:Nat):∀k,(ldK L i s g k).n=L.n/\(ldK L i s g k).goods=L.goods
 | 0=>ldG_gn L i s g
 | k+1=>ldK_gn L i s g k
open Classical in
noncomputable def mayRead (M:Led) (i:Nat) (s:ByteArray) (at_:Nat):Option ByteArray:=if s.size<at_ then none else match rdTxt s at_ with
 | .bad _=>none
 | .ok t next=>if next=s.size/\t.size<=256/\M.f i 1<=M.f i 0/\(M.f i 10=0->t=⟨#[]⟩)/\(∀j,j<4->M.f i (6+j)<=M.f i (2+j))then some t else none
section
variable {h g:PH} {R:AEnd->PH->Prop} {x b ps pa:Nat} {s:ByteArray} {M:Led} {at_:Nat} {i:Nat}
theorem LedAt.ldGoods {K:Value->Prop} (hL:LedAt g x b M) (hi:i<M.n):vLoad (some 4) (.pointer (some ⟨b,i*12+2,none⟩)) g K↔K (.agg (cells4 λj=>M.f i (2+j))):=by
 rw[vLoad_n hL.hb (by rw[ledCells_size];omega)]
 have he:(ledCells M).extract (i*12+2) (i*12+2+4)=cells4 λj=>M.f i (2+j):=by
  rw[<-entCells_goods,<-ledCells_ent hi,Array.extract_extract]
  congr 1
  omega
 rw[he]
theorem read_last (r:RS h x b ps pa s g M at_) (hi:i<M.n) {t:ByteArray}
  (hno:¬(∀j,j<4->M.f i (6+j)<=M.f i (2+j))->R (.ret (.bool false)) (putLed h b M)) (hyes:(∀j,j<4->M.f i (6+j)<=M.f i (2+j))->R (.ret (.bool true)) (putLed h b (M.setR i t))) :
  lf (b92_18 (λc h=>∃g,Sub g h/\R (.pan c) g) (λv h=>exq (λρ=>(ρ 1,ρ 6,ρ 11)) v (λr_2 h_40=>
   vNil (r_2 1) λt131=>vFA 11 t131 λt132=>vStore 1 t132 (r_2 11) h_40 λh_41=>∃g,Sub g h_41/\R (.ret (.bool true)) g) h) (λv h=>exq (λρ=>(ρ 1,ρ 6,ρ 11)) v (λr_2 h_42=>∃g,Sub g h_42/\R (.ret (r_2 6)) g) h))
   (.pointer (some ⟨b,i*12,none⟩),.string t,.agg (cells4 λj=>M.f i (2+j))) (.bool false,.int .i64 0) g:=by
 refine lf_intro (λm s' g'=>∃j:Nat,s'=(.bool false,.int .i64 j)/\m=4-j/\j<=4/\g'=g/\∀k,k<j->M.f i (6+k)<=M.f i (2+k)) 4 ⟨0,rfl,rfl,by omega,rfl,λk hk=>absurd hk (by omega)⟩ ?_
 rintro m s' g' ⟨j,rfl,rfl,hj,rfl,hall⟩
 by_cases h4:j<4
 ·have key:∀(kn:(Value×Value×Value)->(Value×Value)->PH->Prop) Kp (x4 xr:(Value×Value×Value)->PH->Prop),
    (M.f i (6+j)<=M.f i (2+j)->kn (.pointer (some ⟨b,i*12,none⟩),.string t,.agg (cells4 λj=>M.f i (2+j))) (.bool false,.int .i64 ((j:Int)+1)) g') ->
    (¬M.f i (6+j)<=M.f i (2+j)->xr (.pointer (some ⟨b,i*12,none⟩),.bool false,.string t) g') ->
    b92_18 Kp x4 xr (.pointer (some ⟨b,i*12,none⟩),.string t,.agg (cells4 λj=>M.f i (2+j))) kn (.bool false,.int .i64 j) g':=by
   intro kn Kp x4 xr h1 h2
   unfold b92_18
   have hlt:(j:Int)<4:=by omega
   simp only[vBin_lss,hlt,decide_true,dIf_b]
   refine⟨λ_=>?_,λe=>absurd e (by simp)⟩
   refine⟨_,_,_,rfl,rfl,by omega,by omega,?_⟩
   rw[show (j:Int).toNat*1=j by omega]
   refine (cellsAt_one (cells4_get _ h4)).2 ?_
   simp only[vNil_p,vFA_p,Nat.add_zero,vIxA_p]
   refine⟨by omega,by omega,?_⟩
   rw[show i*12+6+(j:Int).toNat*1=i*12+(6+j)by omega,r.led.ld hi (by omega)]
   simp only[vBin_gtr,dIf_b,decide_eq_true_eq,decide_eq_false_iff_not,vBin_add]
   rw[w64 (by omega) (by omega)]
   exact⟨λhh=>h2 (by omega),λhh=>h1 (by omega)⟩
  refine key _ _ _ _ (λhle=>⟨rfl,4-(j+1),by omega,j+1,rfl,rfl,by omega,rfl,λk hk=>?_⟩) (λhgt=>?_)
  ·by_cases e:k=j
   ·subst e;exact hle
   ·exact hall k (by omega)
  ·intro r2 hr
   simp only[Prod.mk.injEq]at hr
   rw[hr.2.1]
   exact⟨_,r.sub,hno λhh=>hgt (hh j h4)⟩
 ·have e4:j=4:=by omega
  subst e4
  unfold b92_18
  simp only[vBin_lss,dIf_b]
  refine⟨λe=>absurd e (by decide),λ_=>?_⟩
  intro r2 hr
  simp only[Prod.mk.injEq]at hr
  rw[hr.1,hr.2.2]
  simp only[vNil_p,vFA_p]
  rw[r.led.stR hi]
  exact⟨_,Sub.over r.sub,hyes hall⟩
end
section
variable {h:PH} {R:AEnd->PH->Prop} {x b:Nat} {L:Led} {i:Nat} {s:ByteArray}
theorem read_ok (hL:LedAt h x b L) (hi:i<L.n) (hg1:1<=L.goods) (hg4:L.goods<=4) (hz:s.size<4611686018427387000)
  (hno:mayRead (ldK L i s L.goods.toNat L.goods.toNat) i s (atN s (3+L.goods.toNat+L.goods.toNat))=none->R (.ret (.bool false)) (putLed h b (ldK L i s L.goods.toNat L.goods.toNat)))
  (hyes:∀t,mayRead (ldK L i s L.goods.toNat L.goods.toNat) i s (atN s (3+L.goods.toNat+L.goods.toNat))=some t->R (.ret (.bool true)) (putLed h b ((ldK L i s L.goods.toNat L.goods.toNat).setR i t))) :
  ACalls Tryz.prog 92 #[ptr x,.pointer (some ⟨b,i*12,none⟩),.string s] h R:=by
 refine ACalls.drop (call92 ?_)
 unfold sh92
 refine vNew_i λps hps=>vNew_i λpa hpa=>?_
 simp only[Value.cells]
 refine (vStore_1 (ins_eq _ _ _) (by simp) rfl).2 ?_
 rw[ins_ins,show (#[Value.int .i64 0]:Array Value).setIfInBounds 0 (.int .i64 0)=#[.int .i64 0]from rfl]
 obtain⟨hpa1,hpas⟩:=fresh_of hpa
 have hpsb:ps≠b:=λe=>by rw[e,hL.hb]at hps;cases hps
 have hpab:pa≠b:=λe=>by rw[e,hL.hb]at hpa1;cases hpa1
 have hpsx:ps≠x:=λe=>by rw[e,hL.hx]at hps;cases hps
 have hpax:pa≠x:=λe=>by rw[e,hL.hx]at hpa1;cases hpa1
 have r0:RS h x b ps pa s (ins (ins h ps (.cells #[.string s] 9 (0,0))) pa (.cells #[.int .i64 (0:Nat)] 3 (0,0))) L (atN s 0):=
  ⟨by rw[putLed_self hL];exact Sub.put (Sub.put (Sub.refl h) hps) hpa1,by rw[ins_ne _ _ (λe=>hpas e.symm)];exact ins_eq _ _ _,ins_eq _ _ _,hps,hpa1,hpsb,hpab,λe=>hpas e.symm,
   hL.sub (Sub.put (Sub.put (Sub.refl h) hps) hpa1)⟩
 revert r0
 show RS h x b ps pa s (ins (ins h ps (.cells #[.string s] 9 (0,0))) pa (.cells #[.int .i64 0] 3 (0,0))) L (atN s 0)->_
 generalize ins (ins h ps (.cells #[.string s] 9 (0,0))) pa (.cells #[.int .i64 0] 3 (0,0))=g0
 intro r0
 simp only[vFunc_v]
 refine r0.num hz (atN_le s 0) λg1 r1=>?_
 refine r1.num hz (atN_le s 1) λg2 r2=>?_
 refine r2.num hz (atN_le s 2) λg3 r3=>?_
 simp only[vNil_p,vFA_p,Nat.add_zero]
 refine r3.set hi (by omega) λg4 r4=>?_
 refine r4.set (j:=0) hi (by omega) λg5 r5=>?_
 refine r5.set hi (by omega) λg6 r6=>?_
 have r6':RS h x b ps pa s g6 (ldG L i s 0) (atN s (3+0)):=r6
 rw[vLoad_1 r6.led.hx (v:=.int .i64 L.goods) rfl]
 refine lf_intro (λm s' g'=>∃j:Nat,s' = .int .i64 j/\m=L.goods.toNat-j/\j<=L.goods.toNat/\RS h x b ps pa s g' (ldG L i s j) (atN s (3+j))) L.goods.toNat ⟨0,rfl,rfl,by omega,r6'⟩ ?_
 rintro m s' g' ⟨j,rfl,rfl,hj,rj⟩
 by_cases hjl:j<L.goods.toNat
 ·have key:∀(kn:(Value×Value×Value×Value×Value×Value×Value)->Value->PH->Prop) Kp x0,(∀g2,RS h x b ps pa s g2 (ldG L i s (j+1)) (atN s (3+(j+1)))->kn (ptr x,.pointer (some ⟨b,i*12,none⟩),ptr ps,.bool false,ptr pa,.func (.func 140) #[] #[ptr ps,ptr pa],.int .i64 L.goods) (.int .i64 ((j:Int)+1)) g2) ->
    b92_5 Kp x0 (ptr x,.pointer (some ⟨b,i*12,none⟩),ptr ps,.bool false,ptr pa,.func (.func 140) #[] #[ptr ps,ptr pa],.int .i64 L.goods) kn (.int .i64 j) g':=by
   intro kn Kp x0 hk
   unfold b92_5
   have hlt:(j:Int)<L.goods:=by omega
   simp only[vBin_lss,hlt,decide_true,dIf_b]
   refine⟨λ_=>?_,λe=>absurd e (by simp)⟩
   simp only[vNil_p,vFA_p,Nat.add_zero]
   refine rj.num hz (atN_le s _) λg2 q2=>?_
   simp only[vIxA_p]
   refine⟨by omega,by omega,?_⟩
   rw[show i*12+2+(j:Int).toNat*1=i*12+(2+j)by omega]
   refine q2.set (by rw[(ldG_gn L i s j).1];exact hi) (by omega) λg3 q3=>?_
   simp only[vBin_add]
   rw[w64 (by omega) (by omega)]
   exact hk g3 q3
  exact key _ _ _ λg2 q2=>⟨rfl,L.goods.toNat-(j+1),by omega,j+1,rfl,rfl,by omega,q2⟩
 ·have hje:j=L.goods.toNat:=by omega
  subst hje
  unfold b92_5
  have hnl:¬((L.goods.toNat:Int)<L.goods):=by omega
  simp only[vBin_lss,hnl,decide_false,dIf_b]
  refine⟨λe=>absurd e (by simp),λ_=>?_⟩
  intro r hr
  simp only[Prod.mk.injEq]at hr
  obtain⟨q0,q1,q5,q6,q7,q8⟩:=hr
  rw[q0,q1,q5,q6,q7,q8]
  clear q0 q1 q5 q6 q7 q8
  simp only[vNil_p,vFA_p,Nat.add_zero]
  rw[vLoad_1 rj.led.hx (v:=.int .i64 L.goods) (by rw[(ldG_gn L i s L.goods.toNat).2];rfl)]
  refine lf_intro (λm s' g'=>∃j:Nat,s' = .int .i64 j/\m=L.goods.toNat-j/\j<=L.goods.toNat/\RS h x b ps pa s g' (ldK L i s L.goods.toNat j) (atN s (3+L.goods.toNat+j))) L.goods.toNat ⟨0,rfl,rfl,by omega,rj⟩ ?_
  rintro m s' g' ⟨j,rfl,rfl,hj,rk⟩
  by_cases hjl:j<L.goods.toNat
  ·have key:∀(kn:(Value×Value×Value×Value×Value×Value)->Value->PH->Prop) Kp x0,(∀g2,RS h x b ps pa s g2 (ldK L i s L.goods.toNat (j+1)) (atN s (3+L.goods.toNat+(j+1)))->kn (.pointer (some ⟨b,i*12,none⟩),ptr ps,.bool false,ptr pa,.func (.func 140) #[] #[ptr ps,ptr pa],.int .i64 L.goods) (.int .i64 ((j:Int)+1)) g2) ->
     b92_10 Kp x0 (.pointer (some ⟨b,i*12,none⟩),ptr ps,.bool false,ptr pa,.func (.func 140) #[] #[ptr ps,ptr pa],.int .i64 L.goods) kn (.int .i64 j) g':=by
    intro kn Kp x0 hk
    unfold b92_10
    have hlt:(j:Int)<L.goods:=by omega
    simp only[vBin_lss,hlt,decide_true,dIf_b]
    refine⟨λ_=>?_,λe=>absurd e (by simp)⟩
    simp only[vNil_p,vFA_p,Nat.add_zero]
    refine rk.num hz (atN_le s _) λg2 q2=>?_
    simp only[vIxA_p]
    refine⟨by omega,by omega,?_⟩
    rw[show i*12+6+(j:Int).toNat*1=i*12+(6+j)by omega]
    refine q2.set (by rw[(ldK_gn L i s L.goods.toNat j).1];exact hi) (by omega) λg3 q3=>?_
    simp only[vBin_add]
    rw[w64 (by omega) (by omega)]
    exact hk g3 q3
   exact key _ _ _ λg2 q2=>⟨rfl,L.goods.toNat-(j+1),by omega,j+1,rfl,rfl,by omega,q2⟩
  ·have hje:j=L.goods.toNat:=by omega
   subst hje
   unfold b92_10
   simp only[vBin_lss,hnl,decide_false,dIf_b]
   refine⟨λe=>absurd e (by simp),λ_=>?_⟩
   intro r hr
   simp only[Prod.mk.injEq]at hr
   obtain⟨q1,q5,q6,q7⟩:=hr
   rw[q1,q5,q6,q7]
   clear q1 q5 q6 q7
   have hiM:i<(ldK L i s L.goods.toNat L.goods.toNat).n:=by rw[(ldK_gn L i s L.goods.toNat L.goods.toNat).1];exact hi
   have hatl:=atN_le s (3+L.goods.toNat+L.goods.toNat)
   clear rj r0 r1 r2 r3 r4 r5 r6 r6'
   generalize atN s (3+L.goods.toNat+L.goods.toNat)=at_ at *
   generalize ldK L i s L.goods.toNat L.goods.toNat=M at *
   rw[vLoad_1 rk.gs (v:=.string s) rfl,vLoad_1 rk.ga (v:=.int .i64 at_) rfl]
   refine getText_ok (by omega) ?_
   simp only[AEnd.elim]
   have no:mayRead M i s at_=none->∃g,Sub g g'/\R (.ret (.bool false)) g:=λhh=>⟨_,rk.sub,hno hh⟩
   unfold mayRead at no hyes hno
   by_cases h1:s.size<at_
   ·rw[if_pos h1]at no
    rw[if_pos (.inr (by omega))]
    simp only[vExt_30,vExt_31,vExt_32,vBin_neq,Int.reduceEq,decide_false,Bool.not_false,boolOf_b,gq_b,Bool.true_eq_false,false_implies,ne_eq,not_false_eq_true,forall_const,true_and,and_true,not_true_eq_false,boolOf_u,gq_n,vPick_b,cond_true,dIf_b]
    first | exact no rfl | exact⟨no rfl,by simp⟩
   ·rw[if_neg h1]at no hyes
    rw[if_neg (by omega),Int.toNat_natCast]
    cases hr:rdTxt s at_ with
    | bad e=>
     rw[hr]at no
     have he:¬e=0:=by
      unfold rdTxt at hr
      split at hr
      ·rename_i e' hr'
       cases hr
       rcases rdN_bad _ _ _ _ _ hr' with h | h <;> omega
      ·split at hr
       ·cases hr;omega
       ·split at hr
        ·cases hr;omega
        ·cases hr
     simp only[vExt_30,vExt_31,vExt_32,vBin_neq,he,decide_false,Bool.not_false,boolOf_b,gq_b,Bool.true_eq_false,false_implies,ne_eq,not_false_eq_true,forall_const,true_and,and_true,not_true_eq_false,boolOf_u,gq_n,vPick_b,cond_true,dIf_b]
     first | exact no rfl | exact⟨no rfl,by simp⟩
    | ok t next=>
     rw[hr]at no hyes
     simp only at no hyes
     obtain⟨b1,hb1⟩:∃b1,b1=decide ((next:Int)=(s.size:Int)):=⟨_,rfl⟩
     obtain⟨b2,hb2⟩:∃b2,b2=decide ((256:Int)<(t.size:Int)):=⟨_,rfl⟩
     obtain⟨b3,hb3⟩:∃b3,b3=decide (M.f i 0<M.f i 1):=⟨_,rfl⟩
     obtain⟨b4,hb4⟩:∃b4,b4=decide (M.f i 10=0):=⟨_,rfl⟩
     obtain⟨b5,hb5⟩:∃b5,b5=decide (t=(⟨#[]⟩:ByteArray)):=⟨_,rfl⟩
     have n1:∀{K:Value->Prop},vBin Tryz.prog .neq 3 (.int .i64 (next:Int)) (.int .i64 (s.size:Int)) K↔K (.bool !b1):=λ{K}=>by rw[hb1];exact vBin_neq _ _ _ _
     have n2:∀{K:Value->Prop},vBin Tryz.prog .gtr 3 (.int .i64 (t.size:Int)) (.int .i64 256) K↔K (.bool b2):=λ{K}=>by rw[hb2];exact vBin_gtr _ _ _ _
     have n3:∀{K:Value->Prop},vBin Tryz.prog .gtr 3 (.int .i64 (M.f i 1)) (.int .i64 (M.f i 0)) K↔K (.bool b3):=λ{K}=>by rw[hb3];exact vBin_gtr _ _ _ _
     have n4:∀{K:Value->Prop},vBin Tryz.prog .eql 3 (.int .i64 (M.f i 10)) (.int .i64 0) K↔K (.bool b4):=λ{K}=>by rw[hb4];exact vBin_eql _ _ _ _
     have n5:∀{K:Value->Prop},vBin Tryz.prog .neq 9 (.string t) (.string ⟨#[]⟩) K↔K (.bool !b5):=λ{K}=>by rw[hb5];exact vBin_sneq _ _ _
     have ne:∀{K:Value->Prop},vBin Tryz.prog .neq 30 (.int .i64 0) (.int .i64 0) K↔K (.bool false):=λ{K}=>vBin_neq _ _ _ _
     have ls:∀{K:Value->Prop},vLoad none (ptr ps) g' K↔K (.string s):=λ{K}=>vLoad_1 rk.gs rfl
     have l1:∀{K:Value->Prop},vLoad none (.pointer (some ⟨b,i*12+1,none⟩)) g' K↔K (.int .i64 (M.f i 1)):=λ{K}=>rk.led.ld hiM (by omega)
     have l0:∀{K:Value->Prop},vLoad none (.pointer (some ⟨b,i*12,none⟩)) g' K↔K (.int .i64 (M.f i 0)):=λ{K}=>rk.led.ld0 hiM
     have l10:∀{K:Value->Prop},vLoad none (.pointer (some ⟨b,i*12+10,none⟩)) g' K↔K (.int .i64 (M.f i 10)):=λ{K}=>rk.led.ld hiM (by omega)
     have bad:(b1 && !b2 && !b3&&(!b4||b5))=false->∃g,Sub g g'/\R (.ret (.bool false)) g:=λhh=>no (by
      rw[if_neg]
      rintro⟨c1,c2,c3,c4,_⟩
      rw[hb1,hb2,hb3,hb4,hb5]at hh
      have d1:decide ((next:Int)=(s.size:Int))=true:=by simp;omega
      have d2:decide ((256:Int)<(t.size:Int))=false:=by simp;omega
      have d3:decide (M.f i 0<M.f i 1)=false:=by simp;omega
      rw[d1,d2,d3]at hh
      simp at hh
      exact hh.2 (c4 hh.1))
     have four:(b1 && !b2 && !b3&&(!b4||b5))=true->next=s.size/\t.size<=256/\M.f i 1<=M.f i 0/\(M.f i 10=0->t=⟨#[]⟩):=λhh=>by
      rw[hb1,hb2,hb3,hb4,hb5]at hh
      simp only[Bool.and_eq_true,Bool.or_eq_true,Bool.not_eq_true',decide_eq_true_eq,decide_eq_false_iff_not]at hh
      obtain⟨⟨⟨c1,c2⟩,c3⟩,c4⟩:=hh
      exact⟨by omega,by omega,by omega,λhz=>c4.resolve_left λhn=>hn hz⟩
     have good:=λ(hh:(b1 && !b2 && !b3&&(!b4||b5))=true)=>read_last (R:=R) (t:=t) rk hiM
      (λhn=>hno (by rw[hr];simp only;rw[if_neg h1,if_neg (λhc=>hn hc.2.2.2.2)]))
      (λhy=>hyes t (by rw[if_pos ⟨(four hh).1,(four hh).2.1,(four hh).2.2.1,(four hh).2.2.2,hy⟩]))
     have lg:=λ(K:Value->Prop)=>rk.led.ldGoods (K:=K) hiM
     clear hb1 hb2 hb3 hb4 hb5 no hno hyes four
     cases b1 <;> cases b2 <;> cases b3 <;> cases b4 <;> cases b5 <;>
      simp only[vExt_30,vExt_31,vExt_32,ne,boolOf_b,gq_b,Bool.false_eq_true,Bool.true_eq_false,Bool.not_false,Bool.not_true,forall_const,ne_eq,not_true_eq_false,not_false_eq_true,false_implies,and_true,true_and,ls,vLenStr_s,n1,n2,n3,n4,n5,vPick_b,cond_false,cond_true,boolOf_u,gq_n,vNil_p,vFA_p,Nat.add_zero,l0,l1,l10,dIf_b,lg] <;>
      first | exact bad rfl | exact good rfl
end
end Go.Pw
set_option linter.unusedSimpArgs false
set_option linter.unusedVariables false
namespace Go.Pw
open Go Go.Proofs
def RecsAt (h:PH) (v:Value) (l:List (ByteArray×ByteArray)):Prop:=
 ∃p cap,v = .slice p l.length cap/\l.length<=cap/\∀i a,l[i]?=some a->∃b off c e fr,p=some ⟨b,off,none⟩/\h b=some (.cells c e fr)/\off+i*2+2<=c.size/\c.extract (off+i*2) (off+i*2+2)=#[.string a.1,.string a.2]
open Classical in
noncomputable def ofL (c g:Int) (l:List (ByteArray×ByteArray)):Nat->Option Led
 | 0=>some (newLed c g)
 | k+1=>match ofL c g l k,l[k]? with
  | some L,some a=>if a.1=keyB k then (match mayRead (ldK L k a.2 g.toNat g.toNat) k a.2 (atN a.2 (3+g.toNat+g.toNat))with
    | some t=>some ((ldK L k a.2 g.toNat g.toNat).setR k t)
    | none=>none)else none
  | _,_=>none
theorem ofL_gn {c g:Int} {l:List (ByteArray×ByteArray)}:∀(k:Nat) (L:Led),ofL c g l k=some L->L.n=c.toNat/\L.goods=g
 | 0,L,h=>by cases h;exact⟨rfl,rfl⟩
 | k+1,L,h=>by
  rw[ofL]at h
  split at h
  ·rename_i M a hM ha
   obtain⟨h1,h2⟩:=ofL_gn k M hM
   split at h
   ·split at h
    ·cases h
     obtain⟨h3,h4⟩:=ldK_gn M k a.2 g.toNat g.toNat
     exact⟨h3.trans h1,h4.trans h2⟩
    ·cases h
   ·cases h
  ·cases h
theorem ofL_mono {c g:Int} {l:List (ByteArray×ByteArray)} {k:Nat} (h:ofL c g l k=none):∀m,ofL c g l (k+m)=none
 | 0=>h
 | m+1=>by
  show ofL c g l (k+m+1)=none
  rw[ofL,ofL_mono h m]
section
variable {h:PH} {R:AEnd->PH->Prop}
theorem of_round {x b:Nat} {L:Led} {g':PH} {c g:Int} {l:List (ByteArray×ByteArray)} {k:Nat} {p:Option Addr} {cap:Nat} (hL:LedAt g' x b L) (hc16:c<=16) (hg1:1<=g) (hg4:g<=4)
  (hk:k<l.length) (hlc:(l.length:Int)=c) (hof:ofL c g l k=some L) (hsz:∀a∈l,a.2.size<4611686018427387000)
  (hel:∀i a,l[i]?=some a->∃b off c e fr,p=some ⟨b,off,none⟩/\g' b=some (.cells c e fr)/\off+i*2+2<=c.size/\c.extract (off+i*2) (off+i*2+2)=#[.string a.1,.string a.2])
  (kn:(Value×Value×Value)->(Value×Value×Value)->PH->Prop) (Kp:List PanicEntry->PH->Prop) (x0 xr:(Value×Value×Value)->PH->Prop)
  (hno:ofL c g l (k+1)=none->∀g2 M,Sub (putLed g' b M) g2->xr (.pointer none,.int .i64 92,ptr x) g2)
  (hyes:∀M,ofL c g l (k+1)=some M->∀g2,Sub (putLed g' b M) g2->LedAt g2 x b M->kn (ptr x,.slice p l.length cap,.int .i64 l.length) (.pointer none,.int .i64 0,.int .i64 ((k:Int)+1)) g2) :
  b52_7 Kp x0 xr (ptr x,.slice p l.length cap,.int .i64 l.length) kn (.pointer none,.int .i64 0,.int .i64 k) g':=by
 obtain⟨a,ha⟩:∃a,l[k]?=some a:=⟨_,List.getElem?_eq_getElem hk⟩
 obtain⟨q,off,cs,e,fr,rfl,hq,hqs,hqe⟩:=hel k a ha
 obtain⟨hLn,hLg⟩:=ofL_gn k L hof
 have hsa:=hsz a (List.mem_of_getElem? ha)
 unfold b52_7
 have hlt:(k:Int)<(l.length:Int):=by omega
 simp only[vBin_lss,hlt,decide_true,dIf_b]
 refine⟨λ_=>?_,λe=>absurd e (by simp)⟩
 simp only[vIxS_p]
 refine⟨by omega,by omega,?_⟩
 rw[show off+(k:Int).toNat*2=off+k*2 by omega,vLoad_n hq hqs,hqe]
 refine vNew_i λd hd=>?_
 refine vStore_to (ins_eq _ _ _) (by rfl) (by rfl) (by rfl) ?_
 rw[ins_ins]
 have hdd:ins g' d (.cells #[.string a.1,.string a.2] 42 (0,0)) d=some (.cells #[.string a.1,.string a.2] 42 (0,0)):=ins_eq _ _ _
 have hsd:Sub g' (ins g' d (.cells #[.string a.1,.string a.2] 42 (0,0))):=sub_ins _ hd
 revert hdd hsd
 generalize ins g' d (.cells #[.string a.1,.string a.2] 42 (0,0))=G
 intro hdd hsd
 have hLG:LedAt G x b L:=hL.sub hsd
 have hsub:∀M,Sub (putLed g' b M) (putLed G b M):=λM=>Sub.both hsd
 simp only[vFA_p,Nat.add_zero]
 rw[vLoad_1 hdd (v:=.string a.1) rfl]
 refine key_ok (by omega) ?_
 simp only[AEnd.elim]
 refine⟨by rw[vLoad_1 hdd (v:=.string a.1) rfl],?_⟩
 simp only[vBin_sneq]
 have hself:putLed G b L=G:=putLed_self hLG
 by_cases hkey:a.1=keyB k
 ·simp only[hkey,decide_true,Bool.not_true,boolOf_b,gq_b,Bool.false_eq_true,forall_const,not_true_eq_false,false_implies,and_true,true_and,ne_eq,vNil_p,vFA_p,Nat.zero_add]
  rw[vLoad_1 hLG.hx (v:=.slice (some ⟨b,0,none⟩) L.n L.n) rfl]
  simp only[vIxS_p,Nat.zero_add]
  refine⟨by omega,by omega,?_⟩
  rw[show (k:Int).toNat*12=k*12 by omega]
  rw[vLoad_1 hdd (v:=.string a.2) rfl]
  have hst:ofL c g l (k+1)=(match mayRead (ldK L k a.2 g.toNat g.toNat) k a.2 (atN a.2 (3+g.toNat+g.toNat))with
    | some t=>some ((ldK L k a.2 g.toNat g.toNat).setR k t)
    | none=>none):=by
   rw[ofL,hof,ha]
   simp only[if_pos hkey]
  refine read_ok (i:=k) hLG (by omega) (by omega) (by omega) hsa (λhh=>?_) (λt hh=>?_)
  ·rw[hLg]at hh ⊢
   rw[hh]at hst
   simp only[AEnd.elim,vUn_not,Bool.not_false,vPick_b,cond_false,dIf_b,true_implies,forall_const,Bool.true_eq_false,false_implies,and_true]
   exact hno hst _ _ (hsub _)
  ·rw[hLg]at hh ⊢
   rw[hh]at hst
   simp only[AEnd.elim,vUn_not,Bool.not_true,vPick_b,cond_false,dIf_b,Bool.false_eq_true,false_implies,true_and,forall_const,vBin_add]
   rw[w64 (by omega) (by omega)]
   obtain⟨h3,h4⟩:=ldK_gn L k a.2 g.toNat g.toNat
   exact hyes _ hst _ (hsub _) (hLG.put h4 h3)
 ·have hst:ofL c g l (k+1)=none:=by
   rw[ofL,hof,ha]
   simp only[if_neg hkey]
  have:=hno hst G L (by rw[show putLed g' b L=g' from putLed_self hL];exact hsd)
  simp only[hkey,decide_false,Bool.not_false,boolOf_b,gq_b,Bool.true_eq_false,false_implies,ne_eq,not_false_eq_true,forall_const,true_and,and_true,boolOf_u,gq_n,vPick_b,cond_true,dIf_b]
  exact this
theorem small_set {L:Led} (hs:L.small) {i j:Nat} {v:Int} (h0:0<=v) (h1:v<=1099511627776):(L.set i j v).small where
 num a c ha hc:=by simp only[Led.set];split <;> first | exact⟨h0,h1⟩ | exact hs.num a c ha hc
 cl:=hs.cl
 gd:=hs.gd
 rep:=hs.rep
theorem vN_bd (s:ByteArray) (k:Nat):0<=((vN s k:Nat):Int)/\((vN s k:Nat):Int)<=1099511627776:=by
 have:=(numAt_le s (atN s k)).1
 unfold vN
 omega
theorem small_ldG {L:Led} (hs:L.small) (i:Nat) (s:ByteArray):∀k,(ldG L i s k).small
 | 0=>small_set (small_set (small_set hs (vN_bd s 0).1 (vN_bd s 0).2) (vN_bd s 1).1 (vN_bd s 1).2) (vN_bd s 2).1 (vN_bd s 2).2
 | k+1=>small_set (small_ldG hs i s k) (vN_bd s _).1 (vN_bd s _).2
theorem small_ldK {L:Led} (hs:L.small) (i:Nat) (s:ByteArray) (g:Nat):∀k,(ldK L i s g k).small
 | 0=>small_ldG hs i s g
 | k+1=>small_set (small_ldK hs i s g k) (vN_bd s _).1 (vN_bd s _).2
theorem mayRead_size {M:Led} {i:Nat} {s:ByteArray} {at_:Nat} {t:ByteArray} (h:mayRead M i s at_=some t):t.size<=256:=by
 unfold mayRead at h
 split at h
 ·cases h
 ·split at h
  ·cases h
  ·split at h
   ·rename_i hc
    cases h
    exact hc.2.1
   ·cases h
theorem ofL_small {c g:Int} {l:List (ByteArray×ByteArray)} (hc:c<=16) (hg1:1<=g) (hg:g<=4):∀(k:Nat) (L:Led),ofL c g l k=some L->L.small
 | 0,L,h=>by cases h;exact (inv_new hc hg hg1).small
 | k+1,L,h=>by
  rw[ofL]at h
  split at h
  ·rename_i M a hM ha
   have hs:=ofL_small hc hg1 hg k M hM
   split at h
   ·split at h
    ·rename_i t ht
     cases h
     have:=small_ldK hs k a.2 g.toNat g.toNat
     exact⟨this.num,this.cl,this.gd,λj hj=>by
      simp only[Led.setR]
      split
      ·exact mayRead_size ht
      ·exact this.rep j hj⟩
    ·cases h
   ·cases h
  ·cases h
def totOK (L:Led):Prop:=cashOf L<=1099511627776/\∀j,j<4->goodOf L j<=1099511627776
open Classical in
noncomputable def ofR (c g:Int) (l:List (ByteArray×ByteArray)):Option Led:=if (l.length:Int)=c then (match ofL c g l c.toNat with
 | some L=>if totOK L then some L else none
 | none=>none)else none
def sums (L:Led):List Int:=[cashOf L,goodOf L 0,goodOf L 1,goodOf L 2,goodOf L 3]
theorem sums_tot (L:Led):(∀v∈sums L,v<=1099511627776)↔totOK L:=by
 unfold sums totOK
 simp only[List.mem_cons,List.not_mem_nil,or_false,forall_eq_or_imp,forall_eq]
 constructor
 ·rintro⟨h,h0,h1,h2,h3⟩
  refine⟨h,λj hj=>?_⟩
  match j,hj with
  | 0,_=>exact h0
  | 1,_=>exact h1
  | 2,_=>exact h2
  | 3,_=>exact h3
 ·rintro⟨h,h0⟩
  exact⟨h,h0 0 (by omega),h0 1 (by omega),h0 2 (by omega),h0 3 (by omega)⟩
theorem of_sums {g':PH} {L:Led} {p:Value} {h0:PH} {sv:Value} (ob:OB 3 1 h0 5 ((sums L).map iv) g' sv) (hs:L.small) {Kp:List PanicEntry->PH->Prop} {x2 xr:(Value×Value×Value)->PH->Prop}
  (hno:¬totOK L->xr (.pointer none,.int .i64 92,p) g') (hyes:totOK L->x2 (.pointer none,.int .i64 0,p) g') :
  lf (b52_14 Kp x2 xr) (p,sv,.int .i64 5) (.pointer none,.int .i64 0,.int .i64 0) g':=by
 obtain⟨q,c,cap,rfl,hq,hsz,hget⟩:=ob_get ob (by omega)
 refine lf_intro (λm s' g2=>∃j:Nat,s'=(.pointer none,.int .i64 0,.int .i64 j)/\m=5-j/\j<=5/\g2=g'/\∀k v,k<j->(sums L)[k]?=some v->v<=1099511627776) 5 ⟨0,rfl,rfl,by omega,rfl,λk v hk=>absurd hk (by omega)⟩ ?_
 rintro m s' g2 ⟨j,rfl,rfl,hj,rfl,hall⟩
 by_cases h5:j<5
 ·obtain⟨v,hv⟩:∃v,(sums L)[j]?=some v:=⟨_,List.getElem?_eq_getElem (by simpa [sums]using h5)⟩
  have hcj:c[j]?=some (.int .i64 v):=by rw[hget j (by omega),List.getElem?_map,hv];rfl
  have key:∀(kn:(Value×Value×Value)->(Value×Value×Value)->PH->Prop),(v<=1099511627776->kn (p,.slice (some ⟨q,0,none⟩) 5 cap,.int .i64 5) (.pointer none,.int .i64 0,.int .i64 ((j:Int)+1)) g2)->(¬v<=1099511627776->xr (.pointer none,.int .i64 92,p) g2) ->
    b52_14 Kp x2 xr (p,.slice (some ⟨q,0,none⟩) 5 cap,.int .i64 5) kn (.pointer none,.int .i64 0,.int .i64 j) g2:=by
   intro kn h1 h2
   unfold b52_14
   have hlt:(j:Int)<5:=by omega
   simp only[vBin_lss,hlt,decide_true,dIf_b]
   refine⟨λ_=>?_,λe=>absurd e (by simp)⟩
   simp only[vIxS_p]
   refine⟨by omega,by omega,?_⟩
   rw[vLoad_1 hq (v:=.int .i64 v) (by simpa using hcj)]
   simp only[vBin_gtr,dIf_b,decide_eq_true_eq,decide_eq_false_iff_not,vBin_add]
   rw[w64 (by omega) (by omega)]
   exact⟨λhh=>h2 (by omega),λhh=>h1 (by omega)⟩
  refine key _ (λhle=>⟨rfl,5-(j+1),by omega,j+1,rfl,rfl,by omega,rfl,λk u hk hu=>?_⟩) (λhgt=>hno λht=>hgt ((sums_tot L).2 ht v (List.mem_of_getElem? hv)))
  by_cases e:k=j
  ·subst e;rw[hv]at hu;cases hu;exact hle
  ·exact hall k u (by omega) hu
 ·have e5:j=5:=by omega
  subst e5
  unfold b52_14
  simp only[vBin_lss,dIf_b]
  refine⟨λe=>absurd e (by decide),λ_=>hyes ((sums_tot L).1 λv hv=>?_)⟩
  obtain⟨k,hk⟩:=List.getElem?_of_mem hv
  have hlen:(sums L).length=5:=rfl
  have:=(List.getElem?_eq_some_iff.1 hk).1
  exact hall k v (by omega) hk
end
end Go.Pw
set_option linter.unusedSimpArgs false
set_option linter.unusedVariables false
namespace Go.Pw
open Go Go.Proofs
section
variable {h:PH} {R:AEnd->PH->Prop}
theorem vSlA_all {K:Value->Prop} {n esz b o:Nat} (hn:n≠0):vSlA n esz none none (.pointer (some ⟨b,o,none⟩)) K↔K (.slice (some ⟨b,o,none⟩) n n):=by
 constructor
 ·rintro⟨b',o',e,hk⟩
  cases e
  simp only[intBetween,if_neg hn,Nat.zero_mul,Nat.add_zero,Nat.sub_zero]at hk
  exact hk
 ·intro hk
  refine⟨b,o,rfl,?_⟩
  simp only[intBetween,if_neg hn,Nat.zero_mul,Nat.add_zero,Nat.sub_zero]
  exact hk
theorem fill_i1 (a:Int):Instr.fill (λi=>some (i*1,1)) (rep #[Value.int .i64 0] (1*1)) [(0,.int .i64 a)]=some #[.int .i64 a]:=by
 have e:Array.range 1=#[0]:=by decide
 simp[Instr.fill,rep,Value.cells,e]
theorem of_ok {v:Value} {l:List (ByteArray×ByteArray)} {c g:Int} (hv:RecsAt h v l) (hsz:∀a∈l,a.2.size<4611686018427387000)
  (harg:¬(1<=c/\c<=16/\1<=g/\g<=4)->R (.ret (.tuple #[.pointer none,.int .i64 1])) h)
  (hno:(1<=c/\c<=16/\1<=g/\g<=4)->ofR c g l=none->R (.ret (.tuple #[.pointer none,.int .i64 92])) h)
  (hyes:(1<=c/\c<=16/\1<=g/\g<=4)->∀L,ofR c g l=some L->∀x b g',Sub h g'->LedAt g' x b L->h x=none->h b=none->R (.ret (.tuple #[ptr x,.int .i64 0])) g') :
  ACalls Tryz.prog 52 #[.int .i64 c,.int .i64 g,v] h R:=by
 refine ACalls.drop (call52 ?_)
 unfold sh52
 by_cases hcg:1<=c/\c<=16/\1<=g/\g<=4
 ·obtain⟨hc1,hc2,hg1,hg2⟩:=hcg
  have hno:=hno ⟨hc1,hc2,hg1,hg2⟩
  have hyes:=hyes ⟨hc1,hc2,hg1,hg2⟩
  clear harg
  refine new_ok hc1 hc2 hg1 hg2 λx b hb hx hne=>?_
  have hL0:LedAt (ins (ins h b (.cells (ledCells (newLed c g)) 132 (0,0))) x (.cells #[.int .i64 g,.slice (some ⟨b,0,none⟩) c.toNat c.toNat] 149 (0,0))) x b (newLed c g):=
   ⟨ins_eq _ _ _,by rw[ins_ne _ _ (λe=>hne e.symm)];exact ins_eq _ _ _,hne⟩
  have hs0:Sub h (ins (ins h b (.cells (ledCells (newLed c g)) 132 (0,0))) x (.cells #[.int .i64 g,.slice (some ⟨b,0,none⟩) c.toNat c.toNat] 149 (0,0))):=Sub.put (Sub.put (Sub.refl h) hb) hx
  revert hL0 hs0
  generalize (ins (ins h b (.cells (ledCells (newLed c g)) 132 (0,0))) x (.cells #[.int .i64 g,.slice (some ⟨b,0,none⟩) c.toNat c.toNat] 149 (0,0)))=g0
  intro hL0 hs0
  obtain⟨p,cap,rfl,hcap,hel⟩:=hv
  simp only[AEnd.elim,vExt_20,vExt_21,vBin_neq,decide_true,Bool.not_true,dIf_b,vLenS_s]
  refine⟨λe=>absurd e (by simp),λ_=>?_⟩
  by_cases hlc:(l.length:Int)=c
  ·simp only[hlc,decide_true,Bool.not_true]
   refine⟨λe=>absurd e (by simp),λ_=>?_⟩
   rw[<-hlc]
   refine lf_intro (λm s' g'=>∃(k:Nat) (L:Led),s'=(.pointer none,.int .i64 0,.int .i64 k)/\m=l.length-k/\k<=l.length/\ofL c g l k=some L/\Sub h g'/\LedAt g' x b L) l.length ⟨0,newLed c g,rfl,rfl,by omega,rfl,hs0,hL0⟩ ?_
   rintro m s' g' ⟨k,L,rfl,rfl,hk,hof,hsub,hL⟩
   have hnoR:∀k',ofL c g l k'=none->k'<=l.length->R (.ret (.tuple #[.pointer none,.int .i64 92])) h:=λk' hn hk'=>hno (by
    unfold ofR
    rw[if_pos hlc]
    have:ofL c g l c.toNat=none:=by
     have:=ofL_mono hn (l.length-k')
     rw[show k'+(l.length-k')=c.toNat by omega]at this
     exact this
    rw[this])
   by_cases hkl:k<l.length
   ·refine of_round (c:=c) (g:=g) hL hc2 hg1 hg2 hkl hlc hof hsz (λi a hi=>?_) _ _ _ _ (λhn g2 M hs2=>?_) (λM hM g2 hs2 hL2=>?_)
    ·obtain⟨b',off,cs,e,fr,q1,q2,q3⟩:=hel i a hi
     exact⟨b',off,cs,e,fr,q1,hsub _ _ q2,q3⟩
    ·intro r hr
     simp only[Prod.mk.injEq]at hr
     rw[hr.1,hr.2.1]
     exact⟨h,(Sub.put hsub hb).trans hs2,hnoR (k+1) hn (by omega)⟩
    ·exact⟨rfl,l.length-(k+1),by omega,k+1,M,rfl,rfl,by omega,hM,(Sub.put hsub hb).trans hs2,hL2⟩
   ·have hke:k=l.length:=by omega
    subst hke
    unfold b52_7
    have hnl:¬((l.length:Int)<(l.length:Int)):=by omega
    simp only[vBin_lss,hnl,decide_false,dIf_b]
    refine⟨λe=>absurd e (by simp),λ_=>?_⟩
    intro r hr
    simp only[Prod.mk.injEq]at hr
    obtain⟨r6,r7,r8⟩:=hr
    rw[r6,r7,r8]
    have hsm:=ofL_small hc2 hg1 hg2 _ L hof
    have hof':ofL c g l c.toNat=some L:=by rw[show c.toNat=l.length by omega];exact hof
    refine totals_ok hL hsm ?_
    simp only[AEnd.elim,vExt_20,vExt_21]
    refine vNew_i λd hd=>?_
    refine vStore_to (cs:=cells4 (goodOf L)) (ins_eq _ _ _) (by rfl) (by rfl) (by rfl) ?_
    rw[ins_ins]
    have hdd:ins g' d (.cells (cells4 (goodOf L)) 59 (0,0)) d=some (.cells (cells4 (goodOf L)) 59 (0,0)):=ins_eq _ _ _
    have hsd:Sub g' (ins g' d (.cells (cells4 (goodOf L)) 59 (0,0))):=sub_ins _ hd
    revert hdd hsd
    generalize ins g' d (.cells (cells4 (goodOf L)) 59 (0,0))=G
    intro hdd hsd
    refine⟨by omega,_,fill_i1 _,λq hq=>?_⟩
    refine (vSlA_all (by decide)).2 ?_
    refine⟨by omega,by omega,rfl,?_⟩
    have hdq:d≠q:=λe=>by rw[<-e,hdd]at hq;cases hq
    have ob0:OB 3 1 G 1 ([cashOf L].map iv) (ins G q (.cells #[.int .i64 (cashOf L)] 3)) (.slice (some ⟨q,0,none⟩) 1 1):=
     ⟨sub_ins _ hq,rfl,.inr ⟨q,_,1,rfl,ins_eq _ _ _,hq,rfl,by omega,rfl⟩⟩
    refine ob_app (m:=4) (news:=[goodOf L 0,goodOf L 1,goodOf L 2,goodOf L 3].map iv) ob0 (by simp only[roomBytes];omega) (by omega) rfl
     (λK' hk'=>.inr (.inr ⟨rfl,d,0,4,4,_,_,_,rfl,ob0.sub _ _ hdd,by show 0+4*1<=4;omega,iv_one (l:=[goodOf L 0,goodOf L 1,goodOf L 2,goodOf L 3]),hk'⟩)) (λb' off l' cc hx' gg cap' hs'=>by cases hx';cases hs';exact hdq) λh4 s4 ob1=>?_
    obtain⟨pp,cc,hs4⟩:=ob_len ob1
    rw[hs4]
    simp only[vLenS_s]
    rw[<-hs4]
    have hsub4:Sub h h4:=(hsub.trans hsd).trans ob1.sub
    refine of_sums (L:=L) ob1 hsm (λhn=>?_) (λhy=>?_)
    ·intro r2 hr2
     simp only[Prod.mk.injEq]at hr2
     rw[hr2.1,hr2.2.1]
     exact⟨h,hsub4,hno (by unfold ofR;rw[if_pos hlc,hof'];simp only;rw[if_neg hn])⟩
    ·intro r2 hr2
     simp only[Prod.mk.injEq]at hr2
     rw[hr2.2.2]
     exact⟨h4,Sub.refl _,hyes L (by unfold ofR;rw[if_pos hlc,hof'];simp only;rw[if_pos hy]) x b h4 hsub4 ((hL.sub hsd).sub ob1.sub) hx hb⟩
  ·simp only[hlc,decide_false,Bool.not_false]
   exact⟨λ_=>⟨h,hs0,hno (by unfold ofR;rw[if_neg hlc])⟩,λe=>absurd e (by simp)⟩
 ·refine new_bad hcg ?_
  simp only[AEnd.elim,vExt_20,vExt_21,vBin_neq,Int.reduceEq,decide_false,Bool.not_false,dIf_b]
  exact⟨λ_=>⟨h,Sub.refl h,harg hcg⟩,λe=>absurd e (by simp)⟩
end
end Go.Pw
set_option linter.unusedSimpArgs false
set_option linter.unusedVariables false
namespace Go.Pw
open Go Go.Proofs
section
variable {h:PH} {R:AEnd->PH->Prop}
theorem RecsAt.ld {v:Value} {l:List (ByteArray×ByteArray)} (hv:RecsAt h v l) {i:Nat} {a:ByteArray×ByteArray} (ha:l[i]?=some a):∀{K:Value->Prop},(vIxS 2 v (.int .i64 i) λt=>vLoad (some 2) t h K)↔K (.agg #[.string a.1,.string a.2]):=λ{K}=>by
 obtain⟨p,cap,rfl,hcap,hel⟩:=hv
 obtain⟨b,off,c,e,fr,rfl,hb,hs,he⟩:=hel i a ha
 have hi:=(List.getElem?_eq_some_iff.1 ha).1
 rw[vIxS_p,show off+(i:Int).toNat*2=off+i*2 by omega,vLoad_n hb hs,he]
 exact⟨λhh=>hh.2.2,λhh=>⟨by omega,by omega,hh⟩⟩
theorem RecsAt.sub {g:PH} {v:Value} {l:List (ByteArray×ByteArray)} (hv:RecsAt h v l) (hs:Sub h g):RecsAt g v l:=by
 obtain⟨p,cap,e,hcap,hel⟩:=hv
 refine⟨p,cap,e,hcap,λi a ha=>?_⟩
 obtain⟨b,off,c,e,fr,q1,q2,q3⟩:=hel i a ha
 exact⟨b,off,c,e,fr,q1,hs _ _ q2,q3⟩
theorem RecsAt.len {v:Value} {l:List (ByteArray×ByteArray)} (hv:RecsAt h v l) {K:Value->Prop}:vLenS v K↔K (.int .i64 l.length):=by
 obtain⟨p,cap,rfl,_⟩:=hv
 exact vLenS_s _ _ _
def recsOf (L:Led) (n:Nat):List (ByteArray×ByteArray):=(List.range n).map λi=>(keyB i,⟨(payB L i).toArray⟩)
theorem same_gen {v v':Value} {l l':List (ByteArray×ByteArray)} (hv:RecsAt h v l) (hv':RecsAt h v' l') (hz:l.length<4611686018427387904) (hT:l=l'->R (.ret (.bool true)) h) (hF:l≠l'->R (.ret (.bool false)) h) :
  ACalls Tryz.prog 15 #[v,v'] h R:=by
 refine call15 ?_
 unfold sh15
 simp only[hv.len,hv'.len,vBin_neq,dIf_b]
 refine⟨λhn=>hF λe=>by rw[e]at hn;simp at hn,λhe=>?_⟩
 have hll:l.length=l'.length:=by
  have:((l.length:Int)=(l'.length:Int)):=by simpa using he
  omega
 refine lf_intro (λm s' g'=>∃i:Nat,s'=(.bool false,.int .i64 i)/\m=l.length-i/\i<=l.length/\g'=h/\∀j,j<i->l[j]?=l'[j]?) l.length ⟨0,rfl,rfl,by omega,rfl,λj hj=>absurd hj (by omega)⟩ ?_
 rintro m s' g' ⟨i,rfl,rfl,hi,rfl,hall⟩
 by_cases hin:i<l.length
 ·obtain⟨a,ha⟩:∃a,l[i]?=some a:=⟨_,List.getElem?_eq_getElem hin⟩
  obtain⟨b,hb⟩:∃b,l'[i]?=some b:=⟨_,List.getElem?_eq_getElem (by omega)⟩
  have key:∀(kn:(Value×Value)->(Value×Value)->PH->Prop) Kp x0 (xr:Value->PH->Prop),(a=b->kn (v,v') (.bool false,.int .i64 ((i:Int)+1)) g')->(a≠b->xr (.bool false) g') ->
    b15_4 Kp x0 xr (v,v') kn (.bool false,.int .i64 i) g':=by
   intro kn Kp x0 xr k1 k2
   unfold b15_4
   have hlt:(i:Int)<(l.length:Int):=by omega
   simp only[hv.len,vBin_lss,hlt,decide_true,dIf_b]
   refine⟨λ_=>?_,λe=>absurd e (by simp)⟩
   rw[hv.ld ha,hv'.ld hb,rec_neq]
   simp only[dIf_b,vBin_add]
   rw[w64 (by omega) (by omega)]
   refine⟨λhne=>k2 λe=>by rw[e]at hne;simp at hne,λheq=>k1 ?_⟩
   have:a.1=b.1/\a.2=b.2:=by simpa using heq
   exact Prod.ext this.1 this.2
  refine key _ _ _ _ (λe=>⟨rfl,l.length-(i+1),by omega,i+1,rfl,rfl,by omega,rfl,λj hj=>?_⟩) (λne=>?_)
  ·by_cases ej:j=i
   ·subst ej;rw[ha,hb,e]
   ·exact hall j (by omega)
  ·intro r hr
   rw[show r 4=_ from hr]
   exact hF λe=>ne (by rw[e,hb]at ha;cases ha;rfl)
 ·have e:i=l.length:=by omega
  subst e
  unfold b15_4
  have hnl:¬((l.length:Int)<(l.length:Int)):=by omega
  simp only[hv.len,vBin_lss,hnl,decide_false,dIf_b]
  refine⟨λe=>absurd e (by simp),λ_=>?_⟩
  intro r hr
  exact hT (List.ext_getElem? λj=>by
   by_cases hj:j<l.length
   ·exact hall j hj
   ·rw[List.getElem?_eq_none (by omega),List.getElem?_eq_none (by omega)])
end
end Go.Pw
set_option linter.unusedSimpArgs false
set_option linter.unusedVariables false
namespace Go.Pw
open Go Go.Proofs
end Go.Pw
set_option linter.unusedSimpArgs false
set_option linter.unusedVariables false
namespace Go.Pw
def rNums (s:ByteArray):Nat->Nat->Option (List Nat×Nat)
 | 0,a=>some ([],a)
 | k+1,a=>match rdNum s.data.toList a with
  | .ok n next=>if 1099511627776<n then none else match rNums s k next with
   | some (l,e)=>some (n::l,e)
   | none=>none
  | .bad _=>none
def itN (s:ByteArray):Nat->Nat->Nat
 | 0,a=>a
 | k+1,a=>itN s k (numAt s a).2
theorem itN_succ (s:ByteArray):∀(k a:Nat),itN s (k+1) a=(numAt s (itN s k a)).2
 | 0,a=>rfl
 | k+1,a=>itN_succ s k (numAt s a).2
theorem itN_atN (s:ByteArray):∀k,itN s k 0=atN s k
 | 0=>rfl
 | k+1=>by rw[itN_succ,itN_atN s k];rfl
theorem numAt_end (s:ByteArray):numAt s (s.size+1)=(0,s.size+1):=by
 unfold numAt;rw[if_pos (by omega)]
theorem itN_end (s:ByteArray):∀k,itN s k (s.size+1)=s.size+1
 | 0=>rfl
 | k+1=>by
  show itN s k (numAt s (s.size+1)).2=_
  rw[numAt_end]
  exact itN_end s k
theorem rNums_spec (s:ByteArray):∀(k a:Nat),a<=s.size ->
  (rNums s k a=none->itN s k a=s.size+1)/\∀l e,rNums s k a=some (l,e)->l.length=k/\e<=s.size/\itN s k a=e/\∀j,j<k->l[j]?=some (numAt s (itN s j a)).1
 | 0,a,ha=>by
  refine⟨λh=>(by cases h),λl e h=>?_⟩
  cases h
  exact⟨rfl,ha,rfl,λj hj=>absurd hj (by omega)⟩
 | k+1,a,ha=>by
  have hu:numAt s a=(match rdNum s.data.toList a with
    | .ok n next=>if 1099511627776<n then (0,s.size+1)else (n,next)
    | .bad _=>(0,s.size+1)):=by
   unfold numAt
   rw[if_neg (by omega)] <;> (cases rdNum s.data.toList a <;> rfl)
  show (rNums s (k+1) a=none->itN s k (numAt s a).2=s.size+1)/\∀l e,rNums s (k+1) a=some (l,e)->l.length=k+1/\e<=s.size/\itN s k (numAt s a).2=e/\∀j,j<k+1->l[j]?=some (numAt s (itN s j a)).1
  rw[rNums]
  cases hr:rdNum s.data.toList a with
  | bad e=>
   rw[hr]at hu
   simp only at hu ⊢
   refine⟨λ_=>?_,λl e h=>(by cases h)⟩
   rw[hu]
   exact itN_end s k
  | ok n next=>
   rw[hr]at hu
   have hnx:next<=s.size:=by
    have:=rdN_le _ _ _ _ _ _ hr
    rw[Array.length_toList]at this
    exact this
   simp only at hu ⊢
   by_cases hb:1099511627776<n
   ·rw[if_pos hb]at hu ⊢
    refine⟨λ_=>?_,λl e h=>(by cases h)⟩
    rw[hu]
    exact itN_end s k
   ·rw[if_neg hb]at hu ⊢
    obtain⟨i1,i2⟩:=rNums_spec s k next hnx
    cases hk:rNums s k next with
    | none=>
     rw[hu]
     exact⟨λ_=>i1 hk,λl e h=>(by cases h)⟩
    | some p=>
     obtain⟨l',e'⟩:=p
     obtain⟨j1,j2,j3,j4⟩:=i2 l' e' hk
     refine⟨λh=>(by cases h),λl e h=>?_⟩
     cases h
     rw[hu]
     refine⟨by simp[j1],j2,j3,λj hj=>?_⟩
     cases j with
     | zero=>simp[itN,hu]
     | succ j=>
      show l'[j]?=some (numAt s (itN s j (numAt s a).2)).1
      rw[hu]
      exact j4 j (by omega)
theorem rNums_vN (s:ByteArray) (k:Nat):(rNums s k 0=none->atN s k=s.size+1)/\∀l e,rNums s k 0=some (l,e)->l.length=k/\e<=s.size/\atN s k=e/\∀j,j<k->l[j]?=some (vN s j):=by
 obtain⟨h1,h2⟩:=rNums_spec s k 0 (by omega)
 rw[itN_atN]at h1
 refine⟨h1,λl e h=>?_⟩
 obtain⟨a,b,c,d⟩:=h2 l e h
 rw[itN_atN]at c
 refine⟨a,b,c,λj hj=>?_⟩
 rw[d j hj,itN_atN]
 rfl
def rOne (s:ByteArray) (a:Nat):Option (Nat×Nat):=match rdNum s.data.toList a with
 | .ok n next=>if 1099511627776<n then none else some (n,next)
 | .bad _=>none
theorem rNums_step (s:ByteArray) (k a:Nat):rNums s (k+1) a=match rOne s a with
  | some (n,next)=>(match rNums s k next with
   | some (l,e)=>some (n::l,e)
   | none=>none)
  | none=>none:=by
 rw[rNums]
 unfold rOne
 cases rdNum s.data.toList a with
 | bad e=>rfl
 | ok n next=>
  simp only
  by_cases hb:1099511627776<n
  ·rw[if_pos hb,if_pos hb]
  ·rw[if_neg hb,if_neg hb]
end Go.Pw
set_option linter.unusedSimpArgs false
set_option linter.unusedVariables false
namespace Go.Pw
open Go Go.Proofs
end Go.Pw
set_option linter.unusedSimpArgs false
set_option linter.unusedVariables false
namespace Go.Pw
open Go Go.Proofs
structure RAcc where
 free:Nat->Int
 kept:Nat->Int
 stamp:Int
 reply:ByteArray
def RAcc.cells (a:RAcc):Array Value:=#[.int .i64 (a.free 0),.int .i64 (a.free 1),.int .i64 (a.free 2),.int .i64 (a.free 3),.int .i64 (a.free 4),.int .i64 (a.kept 0),.int .i64 (a.kept 1),.int .i64 (a.kept 2),.int .i64 (a.kept 3),.int .i64 (a.kept 4),.int .i64 a.stamp,.string a.reply]
def RAcc.setF (a:RAcc) (p:Nat) (v:Int):RAcc:={a with free:=λj=>if j=p then v else a.free j}
def RAcc.setK (a:RAcc) (p:Nat) (v:Int):RAcc:={a with kept:=λj=>if j=p then v else a.kept j}
def allN (l:List Nat) (p:Nat):Nat:=if p=0 then l.getD 1 0 else l.getD (2+p) 0
def keptN (l:List Nat) (g p:Nat):Nat:=if p=0 then l.getD 2 0 else l.getD (2+g+p) 0
def rAcc (l:List Nat) (g:Nat) (t:ByteArray):Nat->RAcc
 | 0=>{free:=λ_=>0,kept:=λ_=>0,stamp:=(l.getD 0 0:Nat),reply:=t}
 | m+1=>((rAcc l g t m).setF m ((allN l m:Int)-(keptN l g m:Int))).setK m (keptN l g m:Int)
end Go.Pw
set_option linter.unusedSimpArgs false
set_option linter.unusedVariables false
namespace Go.Pw
open Go Go.Proofs
open Classical in
noncomputable def rRead (s:ByteArray) (g:Nat):Option (List Nat×ByteArray):=match rNums s (3+2*g) 0 with
 | none=>none
 | some (l,e)=>match rdTxt s e with
  | .bad _=>none
  | .ok t next=>if next=s.size/\t.size<=256/\(l.getD 0 0=0->t=⟨#[]⟩)/\(∀p,p<=g->keptN l g p<=allN l p)then some (l,t)else none
end Go.Pw
set_option linter.unusedSimpArgs false
set_option linter.unusedVariables false
namespace Go.Pw
open Go Go.Proofs
def rOf (L:Led) (i:Nat):RAcc where
 free:=λp=>if p=0 then L.f i 0-L.f i 1 else L.f i (1+p)-L.f i (5+p)
 kept:=λp=>if p=0 then L.f i 1 else L.f i (5+p)
 stamp:=L.f i 10
 reply:=L.r i
end Go.Pw
set_option linter.unusedSimpArgs false
set_option linter.unusedVariables false
namespace Go.Pw
open Go Go.Proofs
theorem ldG_f (L:Led) (i:Nat) (s:ByteArray):∀(m:Nat),m<=4->∀a j,(ldG L i s m).f a j=if a=i then (if j=10 then (vN s 0:Int)else if j=0 then (vN s 1:Int)else if j=1 then (vN s 2:Int)else if 2<=j/\j<2+m then (vN s (1+j):Int)else L.f a j)else L.f a j
 | 0,_,a,j=>by
  simp only[ldG,Led.set]
  grind
 | m+1,hm,a,j=>by
  have ih:=ldG_f L i s m (by omega) a j
  simp only[ldG,Led.set]
  rw[ih]
  have:j=2+m->3+m=1+j:=by omega
  grind
theorem ldK_f (L:Led) (i:Nat) (s:ByteArray) (g:Nat) (hg:g<=4):∀(m:Nat),m<=4->∀a j,(ldK L i s g m).f a j=if a=i then (if j=10 then (vN s 0:Int)else if j=0 then (vN s 1:Int)else if j=1 then (vN s 2:Int)else if 2<=j/\j<2+g then (vN s (1+j):Int)else if 6<=j/\j<6+m then (vN s (3+g+(j-6)):Int)else L.f a j)else L.f a j
 | 0,_,a,j=>by
  simp only[ldK]
  rw[ldG_f L i s g hg]
  grind
 | m+1,hm,a,j=>by
  have ih:=ldK_f L i s g hg m (by omega) a j
  simp only[ldK,Led.set]
  rw[ih]
  by_cases ha:a=i
  ·subst ha
   by_cases hj:j=6+m
   ·subst hj
    rw[if_pos ⟨rfl,rfl⟩,if_pos rfl,if_neg (by omega),if_neg (by omega),if_neg (by omega),if_neg (by omega),if_pos (by omega),show 3+g+(6+m-6)=3+g+m by omega]
   ·have e:(6<=j/\j<6+m)↔(6<=j/\j<6+(m+1)):=by omega
    rw[if_neg (λh=>hj h.2)]
    simp only[if_true,e]
  ·rw[if_neg (λh=>ha h.1),if_neg ha,if_neg ha]
theorem ldG_r (L:Led) (i:Nat) (s:ByteArray):∀m,(ldG L i s m).r=L.r
 | 0=>rfl
 | m+1=>ldG_r L i s m
theorem ldK_r (L:Led) (i:Nat) (s:ByteArray) (g:Nat):∀m,(ldK L i s g m).r=L.r
 | 0=>ldG_r L i s g
 | m+1=>ldK_r L i s g m
def Blank (L:Led) (k:Nat):Prop:=∀j,L.f k j=0
theorem rd_none {L:Led} {k g:Nat} {s:ByteArray} (hg:g<=4) (hb:Blank L k) (h:rRead s g=none):mayRead (ldK L k s g g) k s (atN s (3+g+g))=none:=by
 unfold rRead at h
 obtain⟨h1,h2⟩:=rNums_vN s (3+2*g)
 rw[show 3+g+g=3+2*g by omega]
 unfold mayRead
 cases hr:rNums s (3+2*g) 0 with
 | none=>rw[h1 hr,if_pos (by omega)]
 | some p=>
  obtain⟨l,e⟩:=p
  obtain⟨a1,a2,a3,a4⟩:=h2 l e hr
  rw[hr]at h
  simp only at h
  rw[a3,if_neg (by omega)]
  cases ht:rdTxt s e with
  | bad er=>rfl
  | ok t next=>
   rw[ht]at h
   simp only at h ⊢
   split at h
   ·cases h
   ·rename_i hn
    rw[if_neg]
    rintro⟨c1,c2,c3,c4,c5⟩
    have vl:∀j,j<3+2*g->l.getD j 0=vN s j:=λj hj=>by rw[List.getD_eq_getElem?_getD,a4 j hj];rfl
    refine hn ⟨c1,c2,λhz=>c4 ?_,λp hp=>?_⟩
    ·rw[ldK_f L k s g hg g hg,if_pos rfl,if_pos rfl,<-vl 0 (by omega),hz];rfl
    ·unfold keptN allN
     by_cases hp0:p=0
     ·rw[if_pos hp0,if_pos hp0,vl 1 (by omega),vl 2 (by omega)]
      rw[ldK_f L k s g hg g hg,ldK_f L k s g hg g hg]at c3
      simp at c3
      omega
     ·rw[if_neg hp0,if_neg hp0,vl (2+p) (by omega),vl (2+g+p) (by omega)]
      have:=c5 (p-1) (by omega)
      rw[ldK_f L k s g hg g hg,ldK_f L k s g hg g hg]at this
      rw[if_pos rfl,if_pos rfl,if_neg (by omega),if_neg (by omega),if_neg (by omega),if_neg (by omega),if_pos (by omega),if_neg (by omega),if_neg (by omega),if_neg (by omega),if_pos (by omega),
       show 3+g+(6+(p-1)-6)=2+g+p by omega,show 1+(2+(p-1))=2+p by omega]at this
      omega
theorem RAcc.cells_ext {a b:RAcc} (h1:∀p,p<5->a.free p=b.free p) (h2:∀p,p<5->a.kept p=b.kept p) (h3:a.stamp=b.stamp) (h4:a.reply=b.reply):a.cells=b.cells:=by
 simp only[RAcc.cells,h1 0 (by omega),h1 1 (by omega),h1 2 (by omega),h1 3 (by omega),h1 4 (by omega),h2 0 (by omega),h2 1 (by omega),h2 2 (by omega),h2 3 (by omega),h2 4 (by omega),h3,h4]
theorem rAcc_f (l:List Nat) (g:Nat) (t:ByteArray):∀m p,(rAcc l g t m).free p=(if p<m then (allN l p:Int)-(keptN l g p:Int)else 0)/\(rAcc l g t m).kept p=(if p<m then (keptN l g p:Int)else 0)
 | 0,p=>⟨rfl,rfl⟩
 | m+1,p=>by
  obtain⟨i1,i2⟩:=rAcc_f l g t m p
  simp only[rAcc,RAcc.setF,RAcc.setK]
  rw[i1,i2]
  constructor <;> grind
theorem rAcc_s (l:List Nat) (g:Nat) (t:ByteArray):∀m,(rAcc l g t m).stamp=(l.getD 0 0:Nat)/\(rAcc l g t m).reply=t
 | 0=>⟨rfl,rfl⟩
 | m+1=>rAcc_s l g t m
theorem rd_some {L:Led} {k g:Nat} {s:ByteArray} (hg:g<=4) (hb:Blank L k) {l:List Nat} {t:ByteArray} (h:rRead s g=some (l,t)):mayRead (ldK L k s g g) k s (atN s (3+g+g))=some t /\
  (rOf ((ldK L k s g g).setR k t) k).cells=(rAcc l g t (g+1)).cells:=by
 unfold rRead at h
 obtain⟨h1,h2⟩:=rNums_vN s (3+2*g)
 rw[show 3+g+g=3+2*g by omega]
 unfold mayRead
 cases hr:rNums s (3+2*g) 0 with
 | none=>rw[hr]at h;cases h
 | some p=>
  obtain⟨l',e⟩:=p
  obtain⟨a1,a2,a3,a4⟩:=h2 l' e hr
  rw[hr]at h
  simp only at h
  rw[a3,if_neg (by omega)]
  cases ht:rdTxt s e with
  | bad er=>rw[ht]at h;cases h
  | ok t' next=>
   rw[ht]at h
   simp only at h ⊢
   split at h
   ·rename_i hn
    cases h
    obtain⟨c1,c2,c4,c5⟩:=hn
    have vl:∀j,j<3+2*g->l.getD j 0=vN s j:=λj hj=>by rw[List.getD_eq_getElem?_getD,a4 j hj];rfl
    have f10:(ldK L k s g g).f k 10=(vN s 0:Int):=by rw[ldK_f L k s g hg g hg,if_pos rfl,if_pos rfl]
    have f0:(ldK L k s g g).f k 0=(vN s 1:Int):=by rw[ldK_f L k s g hg g hg];simp
    have f1:(ldK L k s g g).f k 1=(vN s 2:Int):=by rw[ldK_f L k s g hg g hg];simp
    have fg:∀j,j<4->(ldK L k s g g).f k (2+j)=if j<g then (vN s (3+j):Int)else 0:=λj hj=>by
     rw[ldK_f L k s g hg g hg,if_pos rfl,if_neg (by omega),if_neg (by omega),if_neg (by omega)]
     by_cases hjg:j<g
     ·rw[if_pos (by omega),if_pos hjg,show 1+(2+j)=3+j by omega]
     ·rw[if_neg (by omega),if_neg (by omega),if_neg hjg];exact hb _
    have fk:∀j,j<4->(ldK L k s g g).f k (6+j)=if j<g then (vN s (3+g+j):Int)else 0:=λj hj=>by
     rw[ldK_f L k s g hg g hg,if_pos rfl,if_neg (by omega),if_neg (by omega),if_neg (by omega),if_neg (by omega)]
     by_cases hjg:j<g
     ·rw[if_pos (by omega),if_pos hjg,show 3+g+(6+j-6)=3+g+j by omega]
     ·rw[if_neg (by omega),if_neg hjg];exact hb _
    refine⟨?_,?_⟩
    ·refine if_pos ⟨c1,c2,?_,λhz=>c4 ?_,λj hj=>?_⟩
     ·have:=c5 0 (by omega)
      unfold keptN allN at this
      rw[if_pos rfl,if_pos rfl,vl 1 (by omega),vl 2 (by omega)]at this
      rw[f0,f1]
      omega
     ·rw[f10]at hz
      rw[vl 0 (by omega)]
      omega
     ·rw[fg j hj,fk j hj]
      by_cases hjg:j<g
      ·rw[if_pos hjg,if_pos hjg]
       have:=c5 (j+1) (by omega)
       unfold keptN allN at this
       rw[if_neg (by omega),if_neg (by omega),vl (2+(j+1)) (by omega),vl (2+g+(j+1)) (by omega),show 2+g+(j+1)=3+g+j by omega,show 2+(j+1)=3+j by omega]at this
       omega
      ·rw[if_neg hjg,if_neg hjg];omega
    ·refine RAcc.cells_ext (λp hp=>?_) (λp hp=>?_) ?_ ?_
     ·rw[(rAcc_f l g t (g+1) p).1]
      simp only[rOf,Led.setR]
      unfold allN keptN
      by_cases hp0:p=0
      ·subst hp0
       rw[if_pos rfl,if_pos (by omega),if_pos rfl,if_pos rfl,vl 1 (by omega),vl 2 (by omega),f0,f1]
      ·rw[if_neg hp0,if_neg hp0,if_neg hp0,show 1+p=2+(p-1)by omega,show 5+p=6+(p-1)by omega,fg _ (by omega),fk _ (by omega)]
       by_cases hpg:p<g+1
       ·rw[if_pos (by omega),if_pos (by omega),if_pos hpg,vl (2+p) (by omega),vl (2+g+p) (by omega),show 3+(p-1)=2+p by omega,show 3+g+(p-1)=2+g+p by omega]
       ·rw[if_neg (by omega),if_neg (by omega),if_neg hpg];omega
     ·rw[(rAcc_f l g t (g+1) p).2]
      simp only[rOf,Led.setR]
      unfold keptN
      by_cases hp0:p=0
      ·subst hp0
       rw[if_pos rfl,if_pos (by omega),if_pos rfl,vl 2 (by omega),f1]
      ·rw[if_neg hp0,if_neg hp0,show 5+p=6+(p-1)by omega,fk _ (by omega)]
       by_cases hpg:p<g+1
       ·rw[if_pos (by omega),if_pos hpg,vl (2+g+p) (by omega),show 3+g+(p-1)=2+g+p by omega]
       ·rw[if_neg (by omega),if_neg hpg]
     ·rw[(rAcc_s l g t (g+1)).1,vl 0 (by omega)]
      exact f10
     ·rw[(rAcc_s l g t (g+1)).2]
      simp[rOf,Led.setR]
   ·cases h
theorem ofL_blank {c g:Int} {l:List (ByteArray×ByteArray)} (hg0:0<=g) (hg:g<=4):∀(k:Nat) (L:Led),ofL c g l k=some L->(∀a,k<=a->(∀j,L.f a j=0)/\L.r a=⟨#[]⟩)/\(∀a (j:Nat),g<=(j:Int)->j<4->L.f a (2+j)=0/\L.f a (6+j)=0)
 | 0,L,h=>by cases h;exact⟨λa _=>⟨λj=>rfl,rfl⟩,λa j _ _=>⟨rfl,rfl⟩⟩
 | k+1,L,h=>by
  rw[ofL]at h
  split at h
  ·rename_i M a hM ha
   obtain⟨i1,i2⟩:=ofL_blank hg0 hg k M hM
   split at h
   ·split at h
    ·rename_i t ht
     cases h
     have hgt:g.toNat<=4:=by omega
     refine⟨λb hb=>⟨λj=>?_,?_⟩,λb j hgj hj=>⟨?_,?_⟩⟩
     ·show (ldK M k a.2 g.toNat g.toNat).f b j=0
      rw[ldK_f M k a.2 _ hgt _ hgt,if_neg (by omega)]
      exact (i1 b (by omega)).1 j
     ·show (if b=k then t else (ldK M k a.2 g.toNat g.toNat).r b)=_
      rw[if_neg (by omega),ldK_r]
      exact (i1 b (by omega)).2
     ·show (ldK M k a.2 g.toNat g.toNat).f b (2+j)=0
      rw[ldK_f M k a.2 _ hgt _ hgt]
      split
      ·rw[if_neg (by omega),if_neg (by omega),if_neg (by omega),if_neg (by omega),if_neg (by omega)];exact (i2 b j hgj hj).1
      ·exact (i2 b j hgj hj).1
     ·show (ldK M k a.2 g.toNat g.toNat).f b (6+j)=0
      rw[ldK_f M k a.2 _ hgt _ hgt]
      split
      ·rw[if_neg (by omega),if_neg (by omega),if_neg (by omega),if_neg (by omega),if_neg (by omega)];exact (i2 b j hgj hj).2
      ·exact (i2 b j hgj hj).2
    ·cases h
   ·cases h
  ·cases h
end Go.Pw
set_option linter.unusedSimpArgs false
set_option linter.unusedVariables false
namespace Go.Pw
open Go Go.Proofs
theorem rdN_enc {s:List UInt8}:∀(fuel i n at_ N next:Nat),rdN s fuel i n at_ = .ok N next->∃m,N=n+m*128^i/\s.drop at_=encN m++s.drop next/\(0<i->0<m)
 | 0,i,n,at_,N,next,h=>by rw[rdN]at h;cases h
 | fuel+1,i,n,at_,N,next,h=>by
  rw[rdN]at h
  cases hc:s[at_]? with
  | none=>rw[hc]at h;cases h
  | some c=>
   rw[hc]at h
   simp only at h
   have hd:s.drop at_=c::s.drop (at_+1):=by
    obtain⟨hl,he⟩:=List.getElem?_eq_some_iff.1 hc
    rw[List.drop_eq_getElem_cons hl,he]
   have h256:c.toNat<256:=c.toNat_lt
   split at h
   ·rename_i hge
    split at h
    ·cases h
    ·obtain⟨m',e1,e2,e3⟩:=rdN_enc fuel _ _ _ _ _ h
     have hm:=e3 (by omega)
     refine⟨c.toNat%128+128*m',?_,?_,λ_=>by omega⟩
     ·rw[e1,Nat.pow_succ,Nat.add_mul,Nat.add_assoc]
      congr 1
      congr 1
      rw[Nat.mul_comm (128^i) 128,<-Nat.mul_assoc,Nat.mul_comm m' 128]
     ·rw[hd,e2,encN_big (n:=c.toNat%128+128*m') (by omega),show (c.toNat%128+128*m')/128=m' by omega,show (c.toNat%128+128*m')%128+128=c.toNat by omega]
      simp
   ·rename_i hlt
    split at h
    ·cases h
    ·rename_i hn
     cases h
     refine⟨c.toNat,by rw[show c.toNat%128=c.toNat by omega],?_,λhi=>by
      rcases Nat.eq_zero_or_pos c.toNat with hz | hz
      ·exact absurd (.inl ⟨hz,hi⟩) hn
      ·exact hz⟩
     rw[hd,encN_small (by omega)]
     simp
theorem rdNum_enc {s:List UInt8} {at_ N next:Nat} (h:rdNum s at_ = .ok N next):s.drop at_=encN N++s.drop next:=by
 obtain⟨m,e1,e2,_⟩:=rdN_enc _ _ _ _ _ _ h
 rw[e2,e1]
 simp
theorem rNums_enc {s:ByteArray}:∀(k a:Nat) (l:List Nat) (e:Nat),rNums s k a=some (l,e)->s.data.toList.drop a=l.flatMap encN++s.data.toList.drop e
 | 0,a,l,e,h=>by cases h;rfl
 | k+1,a,l,e,h=>by
  rw[rNums_step]at h
  cases h1:rOne s a with
  | none=>rw[h1]at h;cases h
  | some p=>
   rw[h1]at h
   simp only at h
   cases h2:rNums s k p.2 with
   | none=>rw[h2]at h;cases h
   | some q=>
    rw[h2]at h
    simp only at h
    cases h
    have h3:=rNums_enc k p.2 q.1 q.2 h2
    unfold rOne at h1
    cases h4:rdNum s.data.toList a with
    | bad e=>rw[h4]at h1;cases h1
    | ok n next=>
     rw[h4]at h1
     simp only at h1
     split at h1
     ·cases h1
     ·cases h1
      rw[rdNum_enc h4,h3]
      simp
theorem rdTxt_enc {s:ByteArray} {at_ next:Nat} {t:ByteArray} (h:rdTxt s at_ = .ok t next):s.data.toList.drop at_=(encN t.size++t.data.toList)++s.data.toList.drop next:=by
 unfold rdTxt at h
 cases h1:rdNum s.data.toList at_ with
 | bad e=>rw[h1]at h;cases h
 | ok n nx=>
  rw[h1]at h
  simp only at h
  split at h
  ·cases h
  ·split at h
   ·cases h
   ·rename_i hb hz
    cases h
    have hsz:(s.extract nx (nx+n)).size=n:=by rw[ByteArray.size_extract];omega
    rw[hsz,rdNum_enc h1,List.append_assoc]
    congr 1
    have:(s.extract nx (nx+n)).data.toList=(s.data.toList.drop nx).take n:=by
     rw[ByteArray.data_extract,Array.toList_extract,List.extract_eq_take_drop]
     congr 1
     omega
    rw[this,<-List.drop_drop,List.take_append_drop]
theorem rRead_enc {s:ByteArray} {g:Nat} {l:List Nat} {t:ByteArray} (h:rRead s g=some (l,t)):s.data.toList=l.flatMap encN++(encN t.size++t.data.toList)/\l=(List.range (3+2*g)).map (vN s):=by
 unfold rRead at h
 cases hr:rNums s (3+2*g) 0 with
 | none=>rw[hr]at h;cases h
 | some p=>
  obtain⟨l',e⟩:=p
  rw[hr]at h
  simp only at h
  cases ht:rdTxt s e with
  | bad er=>rw[ht]at h;cases h
  | ok t' next=>
   rw[ht]at h
   simp only at h
   split at h
   ·rename_i hn
    cases h
    obtain⟨a1,a2,a3,a4⟩:=(rNums_vN s (3+2*g)).2 l e hr
    refine⟨?_,?_⟩
    ·have h1:=rNums_enc _ _ _ _ hr
     rw[List.drop_zero,rdTxt_enc ht,hn.1]at h1
     rw[h1,List.drop_eq_nil_of_le (by rw[Array.length_toList];exact Nat.le_refl _),List.append_nil]
    ·apply List.ext_getElem?
     intro j
     rw[List.getElem?_map]
     by_cases hj:j<3+2*g
     ·rw[a4 j hj,List.getElem?_range hj];rfl
     ·rw[List.getElem?_eq_none (by omega),List.getElem?_eq_none (by simp;omega)];rfl
   ·cases h
theorem may_inv {M:Led} {i:Nat} {s:ByteArray} {at_:Nat} {t:ByteArray} (h:mayRead M i s at_=some t):M.f i 1<=M.f i 0/\(∀j,j<4->M.f i (6+j)<=M.f i (2+j)):=by
 unfold mayRead at h
 split at h
 ·cases h
 ·split at h
  ·cases h
  ·split at h
   ·rename_i hc
    exact⟨hc.2.2.1,hc.2.2.2.2⟩
   ·cases h
theorem rd_pay {L:Led} {k g:Nat} {s:ByteArray} (hg:g<=4) (hgl:L.goods=(g:Int)) (hb:Blank L k) {t:ByteArray} (h:mayRead (ldK L k s g g) k s (atN s (3+g+g))=some t):payB ((ldK L k s g g).setR k t) k=s.data.toList:=by
 cases hr:rRead s g with
 | none=>rw[rd_none hg hb hr]at h;cases h
 | some p=>
  obtain⟨l,t'⟩:=p
  obtain⟨m1,_⟩:=rd_some hg hb hr
  rw[m1]at h
  cases h
  obtain⟨h1,h2⟩:=rRead_enc hr
  rw[h1]
  have hgn:((ldK L k s g g).setR k t).goods.toNat=g:=by
   have:((ldK L k s g g).setR k t).goods=L.goods:=(ldK_gn L k s g g).2
   rw[this,hgl];rfl
  have hrr:((ldK L k s g g).setR k t).r k=t:=by simp[Led.setR]
  unfold payB
  rw[hrr]
  congr 1
  have hN:numsOf ((ldK L k s g g).setR k t) k=l.map λ(n:Nat)=>(n:Int):=by
   rw[h2]
   unfold numsOf
   rw[hgn]
   have f:∀j,((ldK L k s g g).setR k t).f k j=(ldK L k s g g).f k j:=λj=>rfl
   have e3:List.range (3+2*g) = [0,1,2]++(List.range g).map (3 + ·)++(List.range g).map (3+g + ·):=by
    rw[show 3+2*g=3+g+g by omega,List.range_add,List.range_add]
    rfl
   rw[e3]
   simp only[List.map_append,List.map_map,List.map_cons,List.map_nil]
   congr 1
   ·congr 1
    ·rw[f,f,f,ldK_f L k s g hg g hg,ldK_f L k s g hg g hg,ldK_f L k s g hg g hg]
     simp
    ·apply List.map_congr_left
     intro j hj
     have hjg:=List.mem_range.1 hj
     rw[f,ldK_f L k s g hg g hg,if_pos rfl,if_neg (by omega),if_neg (by omega),if_neg (by omega),if_pos (by omega)]
     show ((vN s (1+(2+j)):Nat):Int)=((vN s (3+j):Nat):Int)
     rw[show 1+(2+j)=3+j by omega]
   ·apply List.map_congr_left
    intro j hj
    have hjg:=List.mem_range.1 hj
    rw[f,ldK_f L k s g hg g hg,if_pos rfl,if_neg (by omega),if_neg (by omega),if_neg (by omega),if_neg (by omega),if_pos (by omega)]
    show ((vN s (3+g+(6+j-6)):Nat):Int)=((vN s (3+g+j):Nat):Int)
    rw[show 3+g+(6+j-6)=3+g+j by omega]
  rw[hN]
  unfold encL
  rw[List.flatMap_map]
  rfl
theorem ofL_all {c g:Int} {l:List (ByteArray×ByteArray)} (hg0:0<=g) (hg:g<=4):∀(k:Nat) (L:Led),ofL c g l k=some L->∀i,i<k->∃a,l[i]?=some a/\a.1=keyB i/\payB L i=a.2.data.toList/\L.f i 1<=L.f i 0/\∀j,j<4->L.f i (6+j)<=L.f i (2+j)
 | 0,L,h,i,hi=>absurd hi (by omega)
 | k+1,L,h,i,hi=>by
  rw[ofL]at h
  split at h
  ·rename_i M a hM ha
   have ih:=ofL_all hg0 hg k M hM
   have hbl:=ofL_blank hg0 hg k M hM
   obtain⟨hMn,hMg⟩:=ofL_gn k M hM
   split at h
   ·rename_i hkey
    split at h
    ·rename_i t ht
     cases h
     obtain⟨gn,hgn⟩:∃gn:Nat,g=gn:=⟨g.toNat,by omega⟩
     subst hgn
     rw[Int.toNat_natCast]at ht ⊢
     by_cases e:i=k
     ·subst e
      obtain⟨c1,c2⟩:=may_inv ht
      exact⟨a,ha,hkey,rd_pay (by omega) hMg (hbl.1 i (by omega)).1 ht,c1,c2⟩
     ·obtain⟨a',b1,b2,b3,b4,b5⟩:=ih i (by omega)
      have hf:∀j,((ldK M k a.2 gn gn).setR k t).f i j=M.f i j:=λj=>by
       show (ldK M k a.2 gn gn).f i j=_
       rw[ldK_f M k a.2 gn (by omega) gn (by omega),if_neg e]
      have hr:((ldK M k a.2 gn gn).setR k t).r i=M.r i:=by
       simp only[Led.setR,if_neg e,ldK_r]
      have hgo:((ldK M k a.2 gn gn).setR k t).goods=M.goods:=(ldK_gn M k a.2 gn gn).2
      refine⟨a',b1,b2,?_,by rw[hf,hf];exact b4,λj hj=>by rw[hf,hf];exact b5 j hj⟩
      rw[<-b3]
      exact payB_same ⟨hf,hr⟩ hgo
    ·cases h
   ·cases h
  ·cases h
theorem ofR_inv {c g:Int} {l:List (ByteArray×ByteArray)} {L:Led} (hc:1<=c) (hc16:c<=16) (hg1:1<=g) (hg:g<=4) (h:ofR c g l=some L):Inv L/\L.n=l.length/\L.n=c.toNat/\L.goods=g/\∀i,i<L.n->∃a,l[i]?=some a/\a.1=keyB i/\payB L i=a.2.data.toList:=by
 unfold ofR at h
 split at h
 ·rename_i hl
  split at h
  ·rename_i M hM
   split at h
   ·rename_i ht
    cases h
    obtain⟨hn,hgd⟩:=ofL_gn _ L hM
    have hall:=ofL_all (by omega) hg _ L hM
    have hs:=ofL_small hc16 hg1 hg _ L hM
    refine⟨⟨λi j hi hj=>(hs.num i j hi hj).1,ht.1,ht.2,λi hi=>?_,λi j hi hj=>?_,λi hi=>(hs.num i 10 hi (by omega)).2,hs.cl,hs.gd,by omega,hs.rep⟩,by omega,hn,hgd,λi hi=>?_⟩
    ·obtain⟨_,_,_,_,b4,_⟩:=hall i (by omega);exact b4
    ·obtain⟨_,_,_,_,_,b5⟩:=hall i (by omega);exact b5 j hj
    ·obtain⟨a,b1,b2,b3,_⟩:=hall i (by omega);exact⟨a,b1,b2,b3⟩
   ·cases h
  ·cases h
 ·cases h
end Go.Pw
set_option linter.unusedSimpArgs false
set_option linter.unusedVariables false
namespace Go.Pw
open Go Go.Proofs
end Go.Pw
set_option linter.unusedSimpArgs false
set_option linter.unusedVariables false
namespace Go.Pw
open Go Go.Proofs
theorem RAcc.one (a:RAcc):a.cells.toList.all Value.oneCell'=true:=rfl
end Go.Pw
set_option linter.unusedSimpArgs false
set_option linter.unusedVariables false
namespace Go.Pw
open Go Go.Proofs
structure Like (L M:Led):Prop where
 g:M.goods=L.goods
 n:M.n=L.n
 f:∀i j,i<L.n->j<11->M.f i j=L.f i j
 r:∀i,i<L.n->M.r i=L.r i
end Go.Pw
set_option linter.unusedSimpArgs false
set_option linter.unusedVariables false
namespace Go.Pw
open Go Go.Proofs
theorem get_drop {s:List UInt8} {at_:Nat} {a:UInt8} {l:List UInt8} (h:s.drop at_=a::l):s[at_]?=some a/\s.drop (at_+1)=l:=by
 constructor
 ·have:(s.drop at_)[0]?=some a:=by rw[h];rfl
  rw[List.getElem?_drop]at this
  exact this
 ·rw[<-List.drop_drop,h];rfl
theorem rdN_of {s:List UInt8}:∀(fuel i n at_ m:Nat) (rest:List UInt8),fuel+i=8->s.drop at_=encN m++rest->(0<i->0<m)->n+m*128^i<=9007199254740992->rdN s fuel i n at_ = .ok (n+m*128^i) (at_+(encN m).length)
 | 0,i,n,at_,m,rest,hf,hd,hp,hb=>by
  have hi:i=8:=by omega
  subst hi
  have:=hp (by omega)
  have:1*128^8<=m*128^8:=Nat.mul_le_mul_right _ this
  omega
 | fuel+1,i,n,at_,m,rest,hf,hd,hp,hb=>by
  rw[rdN]
  by_cases hm:m<128
  ·rw[encN_small hm]at hd ⊢
   obtain⟨g1,g2⟩:=get_drop hd
   have hc:(UInt8.ofNat m).toNat=m:=by rw[UInt8.toNat_ofNat'];omega
   rw[g1]
   simp only
   rw[hc,if_neg (by omega),show m%128=m by omega,if_neg]
   ·rfl
   ·rintro (⟨h1,h2⟩ | h3)
    ·have:=hp h2;omega
    ·omega
  ·rw[encN_big hm]at hd ⊢
   obtain⟨g1,g2⟩:=get_drop hd
   have hc:(UInt8.ofNat (m%128+128)).toNat=m%128+128:=by rw[UInt8.toNat_ofNat'];omega
   have hi7:i≠7:=λe=>by
    subst e
    have:128*128^7<=m*128^7:=Nat.mul_le_mul_right _ (by omega)
    omega
   rw[g1]
   simp only
   rw[hc,if_pos (by omega),if_neg hi7,show (m%128+128)%128=m%128 by omega]
   have e1:n+m%128*128^i+m/128*128^(i+1)=n+m*128^i:=by
    rw[Nat.pow_succ,Nat.add_assoc]
    congr 1
    rw[Nat.mul_comm (128^i) 128,<-Nat.mul_assoc,<-Nat.add_mul]
    congr 1
    omega
   rw[rdN_of fuel (i+1) _ (at_+1) (m/128) rest (by omega) g2 (λ_=>by omega) (by omega),e1]
   simp only[List.length_cons]
   rw[show at_+1+(encN (m/128)).length=at_+((encN (m/128)).length+1)by omega]
theorem rdNum_of {s:List UInt8} {at_ m:Nat} {rest:List UInt8} (hd:s.drop at_=encN m++rest) (hb:m<=9007199254740992):rdNum s at_ = .ok m (at_+(encN m).length):=by
 have:=rdN_of 8 0 0 at_ m rest rfl hd (λh=>absurd h (by omega)) (by omega)
 simpa [rdNum]using this
theorem rNums_of {s:ByteArray}:∀(l:List Nat) (a:Nat) (rest:List UInt8),s.data.toList.drop a=l.flatMap encN++rest->(∀n∈l,n<=1099511627776)->rNums s l.length a=some (l,a+(l.flatMap encN).length)
 | [],a,rest,_,_=>rfl
 | n::l,a,rest,hd,hb=>by
  simp only[List.length_cons]
  rw[rNums]
  rw[List.flatMap_cons,List.append_assoc]at hd
  have hn:=hb n (by simp)
  rw[rdNum_of hd (by omega)]
  simp only
  rw[if_neg (by omega)]
  have hd2:s.data.toList.drop (a+(encN n).length)=l.flatMap encN++rest:=by
   rw[<-List.drop_drop,hd,List.drop_left]
  rw[rNums_of l _ rest hd2 (λx hx=>hb x (by simp[hx]))]
  simp only[List.flatMap_cons,List.length_append]
  rw[Nat.add_assoc]
theorem rdTxt_of {s t:ByteArray} {e:Nat} (hd:s.data.toList.drop e=encN t.size++t.data.toList) (hb:t.size<=256) (he:e<=s.size):rdTxt s e = .ok t s.size:=by
 unfold rdTxt
 rw[rdNum_of hd (by omega)]
 simp only
 have hlen:s.size-e=(encN t.size).length+t.size:=by
  have:=congrArg List.length hd
  rw[List.length_drop,List.length_append,Array.length_toList,Array.length_toList]at this
  exact this
 rw[if_neg (by omega),if_neg (by omega)]
 have:s.extract (e+(encN t.size).length) (e+(encN t.size).length+t.size)=t:=by
  apply ByteArray.ext
  apply Array.toList_inj.1
  rw[ByteArray.data_extract,Array.toList_extract,List.extract_eq_take_drop,<-List.drop_drop,hd,List.drop_left,show e+(encN t.size).length+t.size-(e+(encN t.size).length)=t.size by omega]
  apply List.take_of_length_le
  rw[Array.length_toList];exact Nat.le_refl _
 rw[this,show e+(encN t.size).length+t.size=s.size by omega]
def Mute (L:Led):Prop:=∀i,i<L.n->L.f i 10=0->L.r i=⟨#[]⟩
theorem flat_enc (l:List Int):encL l=(l.map Int.toNat).flatMap encN:=by unfold encL;rw[List.flatMap_map]
theorem numsOf_range {L:Led} {g:Nat} (hg:L.goods=(g:Int)) (i:Nat):(numsOf L i).length=3+2*g/\(∀j,j<3->(numsOf L i)[j]?=some (if j=0 then L.f i 10 else L.f i (j-1)))/\(∀j,j<g->(numsOf L i)[3+j]?=some (L.f i (2+j)))/\∀j,j<g->(numsOf L i)[3+g+j]?=some (L.f i (6+j)):=by
 have hgn:L.goods.toNat=g:=by omega
 refine⟨by rw[numsOf_len,hgn];omega,λj hj=>?_,λj hj=>?_,λj hj=>?_⟩
 ·match j,hj with
  | 0,_=>rfl
  | 1,_=>rfl
  | 2,_=>rfl
 ·unfold numsOf
  rw[hgn,List.getElem?_append_left (by simp;omega),List.getElem?_append_right (by simp),List.getElem?_map]
  rw[show 3+j - [L.f i 10,L.f i 0,L.f i 1].length=j by simp,List.getElem?_range hj]
  rfl
 ·unfold numsOf
  rw[hgn,List.getElem?_append_right (by simp;omega),List.getElem?_map]
  rw[show 3+g+j-([L.f i 10,L.f i 0,L.f i 1]++(List.range g).map (λj=>L.f i (2+j))).length=j by simp;omega,List.getElem?_range hj]
  rfl
theorem rRead_pay {L:Led} {g:Nat} (hi:Inv L) (hm:Mute L) (hg:L.goods=(g:Int)) {i:Nat} (hin:i<L.n):rRead ⟨(payB L i).toArray⟩ g=some ((numsOf L i).map Int.toNat,L.r i):=by
 obtain⟨nl,n0,n1,n2⟩:=numsOf_range hg i
 have hg4:=hi.gd
 have hbd:=numsOf_bd hi hin
 have hrep:=hi.rep i hin
 unfold rRead
 have hd:(⟨(payB L i).toArray⟩:ByteArray).data.toList.drop 0=((numsOf L i).map Int.toNat).flatMap encN++(encN (L.r i).size++(L.r i).data.toList):=by
  rw[List.drop_zero,<-flat_enc];rfl
 have h1:=rNums_of (s:=⟨(payB L i).toArray⟩) ((numsOf L i).map Int.toNat) 0 _ hd (λn hn=>by
  obtain⟨x,hx,rfl⟩:=List.mem_map.1 hn
  have:=hbd x hx
  omega)
 rw[List.length_map,nl]at h1
 rw[h1]
 simp only[Nat.zero_add]
 have hd2:(⟨(payB L i).toArray⟩:ByteArray).data.toList.drop (((numsOf L i).map Int.toNat).flatMap encN).length=encN (L.r i).size++(L.r i).data.toList:=by
  rw[List.drop_zero]at hd
  rw[hd,List.drop_left]
 have hle:(((numsOf L i).map Int.toNat).flatMap encN).length<=(⟨(payB L i).toArray⟩:ByteArray).size:=by
  show _<=(payB L i).toArray.size
  rw[List.size_toArray]
  unfold payB
  rw[List.length_append,flat_enc]
  omega
 rw[rdTxt_of hd2 hrep hle]
 simp only
 have gd:∀j v,(numsOf L i)[j]?=some v->((numsOf L i).map Int.toNat).getD j 0=v.toNat:=λj v hv=>by
  rw[List.getD_eq_getElem?_getD,List.getElem?_map,hv];rfl
 rw[if_pos]
 refine⟨trivial,hrep,λhz=>hm i hin ?_,λp hp=>?_⟩
 ·rw[gd 0 _ (n0 0 (by omega))]at hz
  have:=hi.pos i 10 hin (by omega)
  simp at hz
  omega
 ·unfold keptN allN
  by_cases hp0:p=0
  ·subst hp0
   rw[if_pos rfl,if_pos rfl,gd 1 _ (n0 1 (by omega)),gd 2 _ (n0 2 (by omega))]
   have:=hi.held i hin
   simp
   omega
  ·obtain⟨j,rfl⟩:∃j,p=j+1:=⟨p-1,by omega⟩
   rw[if_neg hp0,if_neg hp0,show 2+(j+1)=3+j by omega,show 2+g+(j+1)=3+g+j by omega,gd _ _ (n1 j (by omega)),gd _ _ (n2 j (by omega))]
   have:=hi.lock i j hin (by omega)
   omega
theorem ofL_recs {L:Led} (hi:Inv L) (hm:Mute L) (hz:Zer L):∀k,k<=L.n->∃M,ofL L.n L.goods (recsOf L L.n) k=some M/\∀i,i<k->(∀j,j<11->M.f i j=L.f i j)/\M.r i=L.r i
 | 0,_=>⟨_,rfl,λi hi=>absurd hi (by omega)⟩
 | k+1,hk=>by
  obtain⟨M,hM,hall⟩:=ofL_recs hi hm hz k (by omega)
  have hg4:=hi.gd
  have hg0:=hi.g0
  obtain⟨g,hg⟩:∃g:Nat,L.goods=g:=⟨L.goods.toNat,by omega⟩
  obtain⟨hMn,hMg⟩:=ofL_gn k M hM
  have hbl:=(ofL_blank (by omega) hg4 k M hM).1 k (by omega)
  have hrr:=rRead_pay hi hm hg (i:=k) (by omega)
  obtain⟨m1,_⟩:=rd_some (L:=M) (k:=k) (by omega) hbl.1 hrr
  have hget:(recsOf L L.n)[k]?=some (keyB k,⟨(payB L k).toArray⟩):=by
   unfold recsOf
   rw[List.getElem?_map,List.getElem?_range (by omega)];rfl
  refine⟨(ldK M k ⟨(payB L k).toArray⟩ g g).setR k (L.r k),?_,λi hik=>?_⟩
  ·rw[ofL,hM,hget]
   simp only[if_true]
   rw[hg,Int.toNat_natCast,m1]
  ·obtain⟨nl,n0,n1,n2⟩:=numsOf_range hg k
   have hvn:=(rRead_enc hrr).2
   have vat:∀j v,j<3+2*g->(numsOf L k)[j]?=some v->vN ⟨(payB L k).toArray⟩ j=v.toNat:=λj v hj hv=>by
    have h1:((numsOf L k).map Int.toNat)[j]?=some v.toNat:=by rw[List.getElem?_map,hv];rfl
    rw[hvn,List.getElem?_map,List.getElem?_range hj]at h1
    simpa using h1
   by_cases e:i=k
   ·subst e
    refine⟨λj hj=>?_,by simp[Led.setR]⟩
    show (ldK M i _ g g).f i j=_
    rw[ldK_f M i _ g (by omega) g (by omega),if_pos rfl]
    have p:=λj hj=>hi.pos i j (by omega) hj
    by_cases j10:j=10
    ·subst j10
     rw[if_pos rfl,vat 0 _ (by omega) (n0 0 (by omega))]
     have:=p 10 (by omega)
     simp;omega
    rw[if_neg j10]
    by_cases j0:j=0
    ·subst j0
     rw[if_pos rfl,vat 1 _ (by omega) (n0 1 (by omega))]
     have:=p 0 (by omega)
     simp;omega
    rw[if_neg j0]
    by_cases j1:j=1
    ·subst j1
     rw[if_pos rfl,vat 2 _ (by omega) (n0 2 (by omega))]
     have:=p 1 (by omega)
     simp;omega
    rw[if_neg j1]
    by_cases jg:2<=j/\j<2+g
    ·rw[if_pos jg]
     obtain⟨x,rfl⟩:∃x,j=2+x:=⟨j-2,by omega⟩
     rw[show 1+(2+x)=3+x by omega,vat (3+x) _ (by omega) (n1 x (by omega))]
     have:=p (2+x) (by omega)
     omega
    rw[if_neg jg]
    by_cases jk:6<=j/\j<6+g
    ·rw[if_pos jk]
     obtain⟨x,rfl⟩:∃x,j=6+x:=⟨j-6,by omega⟩
     rw[show 3+g+(6+x-6)=3+g+x by omega,vat (3+g+x) _ (by omega) (n2 x (by omega))]
     have:=p (6+x) (by omega)
     omega
    rw[if_neg jk,hbl.1 j]
    rcases Nat.lt_or_ge j 6 with j6 | j6
    ·obtain⟨x,rfl⟩:∃x,j=2+x:=⟨j-2,by omega⟩
     exact (hz i x (by omega) (by omega) (by omega)).symm
    ·obtain⟨x,rfl⟩:∃x,j=6+x:=⟨j-6,by omega⟩
     have h1:=hz i x (by omega) (by omega) (by omega)
     have h2:=hi.lock i x (by omega) (by omega)
     have h3:=p (6+x) (by omega)
     omega
   ·obtain⟨a1,a2⟩:=hall i (by omega)
    refine⟨λj hj=>?_,?_⟩
    ·show (ldK M k _ g g).f i j=_
     rw[ldK_f M k _ g (by omega) g (by omega),if_neg e]
     exact a1 j hj
    ·simp only[Led.setR,if_neg e,ldK_r]
     exact a2
theorem ofR_recs {L:Led} (hi:Inv L) (hm:Mute L) (hz:Zer L):∃M,ofR L.n L.goods (recsOf L L.n)=some M/\Like M L:=by
 obtain⟨M,hM,hall⟩:=ofL_recs hi hm hz L.n (Nat.le_refl _)
 obtain⟨hMn,hMg⟩:=ofL_gn L.n M hM
 rw[Int.toNat_natCast]at hMn
 have hl:Like M L:=⟨hMg.symm,hMn.symm,λi j hi hj=>((hall i (by omega)).1 j hj).symm,λi hi=>(hall i (by omega)).2.symm⟩
 refine⟨M,?_,hl⟩
 unfold ofR
 rw[if_pos (by simp[recsOf]),Int.toNat_natCast,hM]
 simp only
 rw[if_pos]
 refine⟨?_,λj hj=>?_⟩
 ·have:cashOf M=cashOf L:=by
   unfold cashOf;rw[hMn]
   exact sumN_congr _ λi hi=>(hall i hi).1 0 (by omega)
  rw[this];exact hi.cash
 ·have:goodOf M j=goodOf L j:=by
   unfold goodOf;rw[hMn]
   exact sumN_congr _ λi hi=>(hall i hi).1 (2+j) (by omega)
  rw[this];exact hi.good j hj
theorem ledCells_like {L M:Led} (hl:Like L M):ledCells M=ledCells L:=by
 apply Array.ext_getElem?
 intro k
 rcases Nat.lt_or_ge k (L.n*12)with hk | hk
 ·rw[ledCells_at M k (by rw[hl.n];exact hk),ledCells_at L k hk]
  unfold ledCell
  have hi:k/12<L.n:=by omega
  by_cases h11:k%12=11
  ·rw[if_pos h11,if_pos h11,hl.r _ hi]
  ·rw[if_neg h11,if_neg h11,hl.f _ _ hi (by omega)]
 ·rw[Array.getElem?_eq_none (by rw[ledCells_size,hl.n];exact hk),Array.getElem?_eq_none (by rw[ledCells_size];exact hk)]
theorem LedAt.like {h:PH} {x b:Nat} {L M:Led} (hL:LedAt h x b L) (hl:Like L M):LedAt h x b M:=
 ⟨by rw[hl.g,hl.n];exact hL.hx,by rw[ledCells_like hl];exact hL.hb,hL.ne⟩
end Go.Pw
