/- Parts. -/
import Derived.Test.YtfadhdacjpmmeaaGreatDoorQ16
set_option linter.unusedVariables false
set_option linter.unusedSimpArgs false
namespace Go.Proofs.YtfadhdacjpmmeaaGreatDoor
open Go.IntKind renaming i64→aI
open Go.Obj renaming cells→aC
open Go.Proofs.Tryz renaming prog→aB
open Go.Value renaming string→aK,int→bC
open Go.RowKit
section
variable{P:Program}{fn:Func}{R:Ending→World→Prop}{a:Act}{w:World}{p u v r:Tmp}{ty:TypeId}{g:Nat}{t:TypeId}{cs:Array Value}{d:TypeDesc}
theorem AzE(hg:w.heap[g]? =some (.cells cs t (0,0)))(hu:P.underlying ty=some d)(hd:(match d with|.struct _|.array _ _=>true|_=>false)=true)(hi:(P.info? ty).map (·.size)=some cs.size):
 (loadVar ty ⟨g,0,none⟩).run P w=.ok (.agg cs) w:=run_loadVar_row w g t ty cs (0,0) d hg hu hd hi
theorem Rr(h:fn.results=#[.cell p ty,.tmp u])(hp:a.tmps.getD p undef=.pointer (some ⟨g,0,none⟩))(hg:w.heap[g]? =some (.cells cs t (0,0)))
 (hu:P.underlying ty=some d) (hd:(match d with|.struct _|.array _ _=>true|_=>false)=true) (hi:(P.info? ty).map (·.size)=some cs.size) (hf:a.defers=[])
 (hR:R (.returned (.tuple #[.agg cs,a.tmps.getD u undef])) w):bodyPost P fn R .ret a w:=by refine' ZMF;simp[results,h,xJ,asAddr,AzE hg hu hd hi,Sem.run_bind,Result.andThen]
end
theorem Rg{w:World}{g}{T:TypeId}{u0 u1 u2 u3 a b c d}(h:w.heap[g]? =some (.cells #[u0,u1,u2,u3] T (0,0))):
 ((((w.setCell ⟨g,0,none⟩ a).setCell ⟨g,1,none⟩ b).setCell ⟨g,2,none⟩ c).setCell ⟨g,3,none⟩ d).heap[g]? =some (.cells #[a,b,c,d] T (0,0)):=
 cG _ _ _ _ _ _ (cG _ _ _ _ _ _ (cG _ _ _ _ _ _ (cG _ _ _ _ _ _ h)))
structure box4 (g:Nat) (a b c d:Value) (w:World):Prop where
 lt:g<w.heap.size
 c0:w.cell? ⟨g,0,none⟩=some a
 c1:w.cell? ⟨g,1,none⟩=some b
 c2:w.cell? ⟨g,2,none⟩=some c
 c3:w.cell? ⟨g,3,none⟩=some d
end Go.Proofs.YtfadhdacjpmmeaaGreatDoor
