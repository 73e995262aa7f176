/- Parts. -/
import Derived.Test.YtfadhdacjpmmeaaGreatDoorQ47
import Derived.Test.YtfadhdacjpmmeaaGreatDoorQ37
set_option linter.unusedVariables false
set_option linter.unusedSimpArgs false
namespace Go.Proofs.YtfadhdacjpmmeaaGreatDoor
set_option maxRecDepth 100000
open Go.IntKind renaming i64→aI
open Go.Obj renaming cells→aC
open Go.Proofs.Tryz renaming prog→aB
open Go.Value renaming string→aK,int→bC
open Go.RowKit
theorem Ty(w:World)(t:ByteArray)(_:t.size≤maxLen)(hT:I4 w)(hB:N9 w):
 Calls aB 3 #[.string t] w fun e w'=>e=.returned (.bool true)∧Below w.heap.size w w':=by
 have HX:Hid (∀W,Below w.heap.size w W→Tq W):=fun W h=>Tq.on ⟨hT,hB⟩ h
 clear hT hB;by_cases hz:1048576<t.size
 ·have aw:(1048576:Int)<(t.size:Int):=ZA
  go_enter Tryz.func3,Tryz.ntmps3
  refine' ZI;exact z6
 ·have aw:¬(1048576:Int)<(t.size:Int):=ZA
  have HS:=aA (fun W=>AdP t W);have HI:=aA (fun W (h:Below w.heap.size w W)=>AdW t W fun V hV=>HX.out V (h.trans (hV.mono h.size)));generalize AwB t=z at *;have ne:(z.toList != z.toList)=false:=ZE
  go_enter Tryz.func3,Tryz.ntmps3
  refine' ZC;refine(HS.out _).mono ?_;refine' ZFx;refine' ZC;refine(HI.out _ B1.out).mono ?_;refine' ZII;refine' ZI;exact⟨rfl,B2.out⟩
end Go.Proofs.YtfadhdacjpmmeaaGreatDoor
