/- Parts. -/
import Derived.Test.YtfadhdacjpmmeaaGreatDoorQ38
import Derived.Test.YtfadhdacjpmmeaaGreatDoorQ14
set_option linter.unusedVariables false
set_option linter.unusedSimpArgs false
namespace Go.Proofs.YtfadhdacjpmmeaaGreatDoor
set_option maxRecDepth 100000
set_option maxHeartbeats 600000
open Go.IntKind renaming i64→aI
open Go.Obj renaming cells→aC
open Go.Proofs.Tryz renaming prog→aB
open Go.Value renaming string→aK,int→bC
open Go.RowKit
theorem AyU(R:Nat→Prop)(vL vO vF vH vN s w)(hS:stN R w vL vO vF vH vN s)(hp:1≤(G1 (F5 s.day.plan s.letters)).size)(hi:Bj s.day.plan.bins∧Bj s.day.plan.passes)(h0:0≤F5 s.day.plan s.letters)(h1:F5 s.day.plan s.letters≤9999)(hl:s.letters.length≤1000):
 Calls aB 11 #[stV vL vO vF vH vN s,.string Gd] w (Bs R s (G1 (F5 s.day.plan s.letters)) w):=by
 refine' zJ;show Calls aB _ #[.agg #[.slice AL s.letters.length cL,.int .i64 s.day.plan.bins,.int .i64 s.day.plan.passes,.slice AO s.day.plan.order.length cO,.slice AF s.day.fwds.length cF,.slice AH s.day.held.length cH,.int .i64 s.day.size,.slice AN s.net.length cN],.string Gd] w _;refine' ZBV;refine' ZCs;have HC:Hid (∀W,Below w.heap.size w W→Calls aB 29 #[.agg #[.int .i64 s.day.plan.bins,.int .i64 s.day.plan.passes,.slice AO s.day.plan.order.length cO],.slice AL s.letters.length cL] W fun e w'=>e=.returned (.int .i64 (F5 s.day.plan s.letters))∧Below W.heap.size W w'):=fun W hW=>AaX _ _ s.day.plan s.letters W (om.on hW) (hS.l.rd.on hW) ZA
 have HD:Hid (∀W,Below w.heap.size w W→Calls aB 28 #[.int .i64 (F5 s.day.plan s.letters)] W fun e w'=>e=.returned (.string (G1 (F5 s.day.plan s.letters)))∧Below W.heap.size W w'):=fun W hW=>by
  have:=Ji (F5 s.day.plan s.letters) W ZA h1
  rwa [AhZ h0]at this
 have hz:=H9 ZA h1;refine' ZBW;clear hS hi om h0 h1 hl;generalize G1 (F5 s.day.plan s.letters)=F at *;generalize F5 s.day.plan s.letters=n at *;refine' YA;refine' ZOk;have d8:(Gd.toList==[112,108,97,110])=false:=ZD
 have fd:(Gd.toList==[115,101,113,117,101,110,99,101])=false:=ZD
 refine' ZOl;refine' YB;go_region_law (first|(go_simp;go_at_call 29;refine' ZB5;refine' YW;have k1:=ao.below z1)|(go_simp;refine' ZTC;refine' ZJi)|fail)
 all_goals have HF:=aA (duo.set8 (AcR q9.out k2));exact ZGB
theorem ArW(R:Nat→Prop)(vL vO vF vH vN s w)(hS:stN R w vL vO vF vH vN s)(hp:1≤(Cb (N2 s.day.fwds)).size)(hk:Be s.day.fwds=true)(hq:∀p∈N2 s.day.fwds,1≤p.size∧p.size≤1000)(hl:(N2 s.day.fwds).length≤1000)(hz:(Cb (N2 s.day.fwds)).size≤4000000000):
 Calls aB 11 #[stV vL vO vF vH vN s,.string Db] w (Bs R s (Cb (N2 s.day.fwds)) w):=by
 refine' zJ;show Calls aB _ #[.agg #[.slice AL s.letters.length cL,.int .i64 s.day.plan.bins,.int .i64 s.day.plan.passes,.slice AO s.day.plan.order.length cO,.slice AF s.day.fwds.length cF,.slice AH s.day.held.length cH,.int .i64 s.day.size,.slice AN s.net.length cN],.string Db] w _;refine' ZBV;have HC:Hid (∀W,Below w.heap.size w W→Calls aB 32 #[.slice AF s.day.fwds.length cF] W fun e w'=>∃v',e=.returned v'∧own 9 W.heap.size w' v' (N2 s.day.fwds)∧Below W.heap.size W w'):=fun W hW=>AaS _ s.day.fwds W (hS.f.rd.on hW) hk
 have HD:Hid (∀(v:Value) W,rd W W.heap.size v (N2 s.day.fwds)→Calls aB 31 #[v] W fun e w'=>e=.returned (.string (Cb (N2 s.day.fwds)))∧Below W.heap.size W w'):=fun v W h=>by refine(Fn v _ W h hq ZA).mono ?_;refine' ZP;exact z6
 refine' ZBW;clear hS hk hq hl;generalize Cb (N2 s.day.fwds)=F at *;generalize N2 s.day.fwds=L at *;refine' YA;refine' ZO0;have d8:(Db.toList==[112,108,97,110])=false:=ZD
 have fd:(Db.toList==[115,101,113,117,101,110,99,101])=false:=ZD
 have gq:(Db.toList==[109,111,118,101,100])=false:=ZD
 have i8:(Db.toList==[102,111,114,119,97,114,100,115])=false:=ZD
 refine' ZO1;refine' YB;go_region_law (first|(go_simp;go_at_call 32;refine' ZB5;refine' ZCt;have k1:=ao.below z1;have R5:=aA o5.rd;clear o5)|(go_simp;go_at_call 31;(with_reducible refine(HD.out _ _ R5.out).mono ?_);refine' YX;have k2:=k1.below z2;refine' ZJi)|fail)
 all_goals have HF:=aA (duo.set8 (AcR q9.out k2));exact ZGB
end Go.Proofs.YtfadhdacjpmmeaaGreatDoor
