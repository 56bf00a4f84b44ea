/- Texts of this claim, one behind the other. -/
import Derived.Test.YtboeddfdbpjnjaaGreatM6
import Derived.Test.YtboeddfdbpjnjaaGreatM7
import Derived.Test.YtboeddfdbpjnjaaGreatRows
import Derived.Deep.Slices
set_option linter.unusedSimpArgs false
set_option linter.unusedVariables false
namespace Go.Pw
open Go Go.Proofs Go.ChangeShapes Go.WideShapes Go.ChangeAt Go.RowKit Go.Deep
theorem dH:ownKnob Tryz.prog.godebug=none:=by kernel_rfl
theorem Yv:laidOutB Tryz.prog=true:=by kernel_rfl
theorem KE:Tryz.prog.cellsOf 3=1:=by kernel_rfl
theorem M6:Tryz.prog.cellsOf 9=1:=by kernel_rfl
theorem J5 {α:Type} {l:List α} {i:Nat} {a:α} (h:(l.drop i).take 1 = [a]):l[i]?=some a:=by
 have:((l.drop i).take 1)[0]?=some a:=by rw[h];rfl
 simpa using this
section
variable {H:Type} {enc:TypeId×Value->H} {w:World} {base:Nat} {spare:Nat->Bool} {held:Bool}
instance:Inhabited cx:=⟨⟨0,0,0,0,0,⟨#[]⟩⟩⟩
theorem OW {f:Nat->Option Value}:∀{n:Nat} {l:List Value},(List.range n).mapM f=some l->l.length=n/\∀i,i<n->f i=l[i]?:=λ{n l} h=>by
 have a:=mapM_some_length h;refine⟨by simpa using a,λi hi=>?_⟩;have:=mapM_some_get h i i (by simp[hi]);exact this
theorem To {n:Nat} {a:Addr} {l:List Value} (p:0<n) (h:w.cells? base a n=some l):∃b off c e fr,a=⟨b,off,none⟩/\w.heap[b]?=some (.cells c e fr)/\off+n<=c.size/\(c.extract off (off+n)).toList=l:=by
 unfold World.cells? at h
 split at h
 ·obtain⟨q,k⟩:=OW h
  obtain⟨b,off,g⟩:=a;have h0:w.cell? ((⟨b,off,g⟩:Addr).add 0)=l[0]?:=k 0 p;rw[Bu (by omega),show (⟨b,off,g⟩:Addr).add 0=⟨b,off,g⟩by simp[Addr.add]]at h0;unfold World.cell? at h0;simp only at h0;cases d:w.heap[b]? with
  | none=>rw[d]at h0;cases h0
  | some o=>
   rw[d]at h0;cases o with
   | cells c e fr=>
    simp only at h0;cases g with
    | some f=>simp at h0
    | none=>
     have m:∀i,i<n->c[off+i]?=l[i]?:=λi hi=>by
      have:=k i hi;rw[add_lit]at this;unfold World.cell? at this
      simpa [d]using this
     refine⟨b,off,c,e,fr,rfl,d,?_,?_⟩
     ·have:=m (n-1) (by omega)
      rw[Bu (by omega)]at this;have:=(Array.getElem?_eq_some_iff.1 this).1;omega
     ·apply List.ext_getElem?
      intro i;rw[Array.getElem?_toList,Array.getElem?_extract]
      by_cases hi:i<n
      ·have j:=m i hi
       rw[Bu (by omega)]at j ⊢;have:=(Array.getElem?_eq_some_iff.1 j).1;rw[if_pos (by omega),j]
      ·rw[List.getElem?_eq_none (by omega),if_neg (by omega)]
   | _=>simp at h0
 ·cases h
end
end Go.Pw
