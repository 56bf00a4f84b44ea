/- Texts of this claim, one behind the other. -/
import Derived.Test.YtboeddfdbpjnjaaGreatM17
import Derived.SizedLaws
set_option linter.unusedSimpArgs false
set_option linter.unusedVariables false
namespace Go.Pw
open Go Go.Proofs Go.ChangeShapes Go.WideShapes Go.ChangeAt Go.RowKit Go.Deep
theorem try_cells_turn:Tryz.prog.cellsOf 75=3:=by kernel_rfl
section
variable {H:Type} {enc:TypeId×Value->H} {w:World} {base:Nat} {spare:Nat->Bool} {held:Bool}
set_option maxRecDepth 100000 in
theorem trod_turn {fuel:Nat} {cs:List Value} {x:DataW H×List MemPlace} (h:DataW.trod enc Tryz.prog w base spare held fuel 75 cs=some x):∃a:TurnV,cs=a.a.toList/\a.val.size∈x.1.weights Tryz.prog 75:=by
 obtain⟨xs,n,_,hx,hl,hlen,hf⟩:=DataW.trod_struct Tryz.underlying75 h
 rw[try_cells_turn]at hl
 have hlen3:xs.length=3:=hlen
 obtain⟨z0,z1,z2,rfl⟩:∃a b c,xs = [a,b,c]:=by
  match xs,hlen3 with
  | [a,b,c],_=>exact⟨a,b,c,rfl⟩
 have k0:∃a,cs[0]?=some (.int .i64 a):=by
  have key:∀f:Field,f.type=3->f.offset=0->DataW.trod enc Tryz.prog w base spare held n f.type (List.take (Tryz.prog.cellsOf f.type) (List.drop f.offset cs))=some z0->∃a,cs[0]?=some (.int .i64 a):=λf ht ho hh=>by
   rw[ht,try_cells_int,ho]at hh
   obtain⟨a,e,_,_⟩:=DataW.trod_int Tryz.underlying3 hh
   exact⟨a,take1_eq e⟩
  exact key _ rfl rfl (hf 0 _ rfl)
 have k1:∃s:ByteArray,cs[1]?=some (.string s)/\z1=(.lit (.string s.data.toList),[]):=by
  have key:∀f:Field,f.type=9->f.offset=1->DataW.trod enc Tryz.prog w base spare held n f.type (List.take (Tryz.prog.cellsOf f.type) (List.drop f.offset cs))=some z1->∃s:ByteArray,cs[1]?=some (.string s)/\z1=(.lit (.string s.data.toList),[]):=λf ht ho hh=>by
   rw[ht,try_cells_string,ho]at hh
   obtain⟨a,e,e2,_⟩:=DataW.trod_string Tryz.underlying9 hh
   exact⟨a,take1_eq e,e2⟩
  exact key _ rfl rfl (hf 1 _ rfl)
 have k2:∃b,cs[2]?=some (.bool b):=by
  have key:∀f:Field,f.type=4->f.offset=2->DataW.trod enc Tryz.prog w base spare held n f.type (List.take (Tryz.prog.cellsOf f.type) (List.drop f.offset cs))=some z2->∃b,cs[2]?=some (.bool b):=λf ht ho hh=>by
   rw[ht,try_cells_bool,ho]at hh
   obtain⟨a,e,_⟩:=DataW.trod_bool Tryz.underlying4 hh
   exact⟨a,take1_eq e⟩
  exact key _ rfl rfl (hf 2 _ rfl)
 obtain⟨a0,h0⟩:=k0
 obtain⟨s,h1,rfl⟩:=k1
 obtain⟨b,h2⟩:=k2
 refine⟨⟨a0,s,b⟩,?_,?_⟩
 ·apply List.ext_getElem?
  intro i
  match i with
  | 0=>exact h0
  | 1=>exact h1
  | 2=>exact h2
  | i+3=>rw[List.getElem?_eq_none (by omega)];rfl
 ·rw[hx]
  have:s.size=s.data.toList.length:=by rw[Array.length_toList];rfl
  rw[List.map_cons,List.map_cons,List.map_cons,List.map_nil,DataW.weights,Tryz.underlying75]
  refine DataW.weights_mem_each (j:=1) (t:=9) rfl rfl _ ?_
  show s.size∈_
  rw[this]
  simp only[DataW.weights,List.mem_singleton]
set_option maxRecDepth 100000 in
theorem open_turn {v:Value} {d:DataW H} {p:List MemPlace} {r:Reach} {b0:Nat} (hv:Value.okWide Tryz.prog w r b0 75 v) (h:DataW.Trod enc Tryz.prog w base spare held 75 v d p):∃a:TurnV,v=a.v/\a.val.size∈d.weights Tryz.prog 75:=by
 obtain⟨cs,rfl,hsz⟩:=okWide_struct Tryz.underlying75 hv
 obtain⟨fuel,hf⟩:=h
 obtain⟨a,ha,hk⟩:=trod_turn hf
 refine⟨a,?_,hk⟩
 simp only[Value.cells]at ha
 unfold TurnV.v
 rw[Array.toList_inj.1 ha]
end
end Go.Pw
