/- Parts. -/
import Derived.Test.YtfadhdacjpmmeaaGreatDoorU5
import Derived.Test.YtfadhdacjpmmeaaGreatDoorU6
set_option linter.unusedVariables false
set_option linter.unusedSimpArgs false
set_option maxRecDepth 100000
set_option maxHeartbeats 16000000
open Go.Proofs.Tryz
open Go renaming madeCells->bF
open Go.IntKind renaming i64->aD
open Go.Obj renaming cells->aB
open Go.Value renaming string->aG,int->aH
namespace Go.Proofs.YtfadhdacjpmmeaaGreatDoor
open Go.RowKit
theorem ZDl(v)(xs:List Ltr)(w)(hv:R_ w v xs)(hl:xs.length<=1048576):
 Calls Tryz.prog 197 #[v] w fun e w'=>∃v',e=.returned v'/\own 119 w.heap.size w' v' xs/\B_ w w':=by
 refine' Yf;refine' zl;subst hn;clear hr;refine' V4;have fo:=Ed (P:=Tryz.prog) 27 119 i0 _ aV hi ah xs.length zi ZA;go_enter func197,ntmps197
 go_wp2_with (refine ZCl (α:=Ltr) (o:=⟨some 9,_,_,_,_,_⟩) rfl (.tmp 7) (.tmp 8) 27 27 rfl w.heap.size w.heap.size 119 i0 aV hi ar ZE (bF #[aH aD 0,aG ⟨#[]⟩] (xs.length*2)) (.slice A xs.length c) xs _ (fg.out.on ((aF _ _).alloc (aC _) _)) rfl rfl (bC w _) (by rw[size_madeCells];rfl) (aC _) ZN ?_;intro w1 iy ey)
 exact ZNl
end Go.Proofs.YtfadhdacjpmmeaaGreatDoor
