/- Texts of this claim, one behind the other. -/
import Derived.Test.YtboeddfdbpjnjaaGreatM6
import Derived.Test.YtboeddfdbpjnjaaGreatM7
import Derived.Test.YtboeddfdbpjnjaaGreatRows
import Derived.Deep.Slices
set_option linter.unusedSimpArgs false
set_option linter.unusedVariables false
namespace Go.Pw
open Go Go.Proofs Go.ChangeShapes Go.WideShapes Go.ChangeAt Go.RowKit Go.Deep
theorem try_own:ownKnob Tryz.prog.godebug=none:=by kernel_rfl
theorem try_laid:laidOutB Tryz.prog=true:=by kernel_rfl
theorem try_cells_int:Tryz.prog.cellsOf 3=1:=by kernel_rfl
theorem try_cells_string:Tryz.prog.cellsOf 9=1:=by kernel_rfl
theorem take1_eq {α:Type} {l:List α} {i:Nat} {a:α} (h:(l.drop i).take 1 = [a]):l[i]?=some a:=by
 have:((l.drop i).take 1)[0]?=some a:=by rw[h];rfl
 simpa using this
section
variable {H:Type} {enc:TypeId×Value->H} {w:World} {base:Nat} {spare:Nat->Bool} {held:Bool}
instance:Inhabited ActV:=⟨⟨0,0,0,0,0,⟨#[]⟩⟩⟩
theorem mapM_range_get {f:Nat->Option Value}:∀{n:Nat} {l:List Value},(List.range n).mapM f=some l->l.length=n/\∀i,i<n->f i=l[i]?:=λ{n l} h=>by
 have h1:=mapM_some_length h
 refine⟨by simpa using h1,λi hi=>?_⟩
 have:=mapM_some_get h i i (by simp[hi])
 exact this
theorem cells_at {n:Nat} {a:Addr} {l:List Value} (hn:0<n) (h:w.cells? base a n=some l):∃b off c e fr,a=⟨b,off,none⟩/\w.heap[b]?=some (.cells c e fr)/\off+n<=c.size/\(c.extract off (off+n)).toList=l:=by
 unfold World.cells? at h
 split at h
 ·obtain⟨hl,hg⟩:=mapM_range_get h
  obtain⟨b,off,fl⟩:=a
  have h0:w.cell? ((⟨b,off,fl⟩:Addr).add 0)=l[0]?:=hg 0 hn
  rw[List.getElem?_eq_getElem (by omega),show (⟨b,off,fl⟩:Addr).add 0=⟨b,off,fl⟩by simp[Addr.add]]at h0
  unfold World.cell? at h0
  simp only at h0
  cases hb:w.heap[b]? with
  | none=>rw[hb]at h0;cases h0
  | some o=>
   rw[hb]at h0
   cases o with
   | cells c e fr=>
    simp only at h0
    cases fl with
    | some f=>simp at h0
    | none=>
     have hc:∀i,i<n->c[off+i]?=l[i]?:=λi hi=>by
      have:=hg i hi
      rw[add_lit]at this
      unfold World.cell? at this
      simpa [hb]using this
     refine⟨b,off,c,e,fr,rfl,hb,?_,?_⟩
     ·have:=hc (n-1) (by omega)
      rw[List.getElem?_eq_getElem (by omega)]at this
      have:=(Array.getElem?_eq_some_iff.1 this).1
      omega
     ·apply List.ext_getElem?
      intro i
      rw[Array.getElem?_toList,Array.getElem?_extract]
      by_cases hi:i<n
      ·have h9:=hc i hi
       rw[List.getElem?_eq_getElem (by omega)]at h9 ⊢
       have:=(Array.getElem?_eq_some_iff.1 h9).1
       rw[if_pos (by omega),h9]
      ·rw[List.getElem?_eq_none (by omega),if_neg (by omega)]
   | _=>simp at h0
 ·cases h
end
end Go.Pw
