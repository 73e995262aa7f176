/- Parts. -/
import Derived.Test.YtfadhdacjpmmeaaGreatDoorQ12
import Derived.Test.YtfadhdacjpmmeaaGreatDoorQ10
set_option linter.unusedVariables false
set_option linter.unusedSimpArgs false
namespace Go.Proofs.YtfadhdacjpmmeaaGreatDoor
set_option maxRecDepth 100000
set_option maxHeartbeats 400000
open Go.IntKind renaming i64→aI
open Go.Obj renaming cells→aC
open Go.Proofs.Tryz renaming prog→aB
open Go.Value renaming string→aK,int→bC
open Go.RowKit
theorem Sa(v)(xs:List Ltr)(w)(hv:rd w w.heap.size v xs)(hl:xs.length≤1048576):
 Calls aB 197 #[v] w fun e w'=>∃v',e=.returned v'∧own 119 w.heap.size w' v' xs∧Below w.heap.size w w':=by
 have ev:=aA hv;refine' ZAh;subst hn;clear hr;refine' ZDK;have ez:=Ed (P:=aB) 27 119 i0 _ aV hi ah xs.length zf ZA;go_enter Tryz.func197,Tryz.ntmps197
 go_wp2_with (refine T7 (α:=Ltr) (o:=⟨some 9,_,_,_,_,_⟩) rfl (.tmp 7) (.tmp 8) 27 27 rfl w.heap.size w.heap.size 119 i0 aV hi aw ZF (madeCells #[bC aI 0,aK ⟨#[]⟩] (xs.length*2)) (.slice A xs.length c) xs _ (ev.out.on ((aF _ _).alloc (aD _) _)) rfl rfl (bD w _) (by rw[size_madeCells];rfl) (aD _) ZN ?_;intro w1 iy QA)
 exact ZLe
end Go.Proofs.YtfadhdacjpmmeaaGreatDoor
