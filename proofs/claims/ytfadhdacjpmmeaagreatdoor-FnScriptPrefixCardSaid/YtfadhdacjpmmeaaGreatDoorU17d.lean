/- Parts. -/
import Derived.Test.YtfadhdacjpmmeaaGreatDoorU17a
import Derived.Test.YtfadhdacjpmmeaaGreatDoorU17b
set_option linter.unusedVariables false
set_option linter.unusedSimpArgs false
set_option maxRecDepth 1000000
set_option maxHeartbeats 16000000
open Go.Proofs.Tryz
open Go renaming madeCells->bF
open Go.IntKind renaming i64->aD
open Go.Obj renaming cells->aB
open Go.Value renaming string->aG,int->aH
namespace Go.Proofs.YtfadhdacjpmmeaaGreatDoor
open Go.RowKit
theorem Ar2(R:Nat->Prop)(vL vO vF vH vN:Value)(s:Dsk)(a b:Y_)(B g c:Nat)(w:World)(hS:stN R w vL vO vF vH vN s)(hf:own 9 B w (.slice (P_ g) 2 c) [a,b])(z0:a.size<=maxLen)(z1:b.size<=maxLen)(hi:Bj s.day.plan.bins/\Bj s.day.plan.passes)(tR:Bj (Ei s.day.plan (Am a) (Am b)).bins/\Bj (Ei s.day.plan (Am a) (Am b)).passes)(ho:Eg s.day.plan (Am a) (Am b)=false)(hz:(E7 (Ei s.day.plan (Am a) (Am b))).size<=1000000000):
 Calls Tryz.prog 47 #[y5 vL vO vF vH vN s,.string C0,.slice (P_ g) 2 c] w (Bs R s (⟨#[]⟩) w):=by
 refine' ZYW;rw[BA]at tR hz;have HC:Hid (∀W,B_ w W->Calls Tryz.prog 97 #[.agg #[.int .i64 s.day.plan.bins,.int .i64 s.day.plan.passes,.slice AO s.day.plan.order.length cO],.int .i64 (Am a),.int .i64 (Am b)] W fun e w'=>∃A n c,e=.returned (.tuple #[.agg #[.int .i64 mp.bins,.int .i64 mp.passes,.slice A n c],.bool false])/\own 9 W.heap.size w' (.slice A n c) mp.order/\B_ W w'):=fun W hW=>ZYX
 refine' ZYY;have eo:=aA (fun W=>Fa (E7 mp) W);refine' ZG7;have QF:=aA tR;refine' ZG6;clear z0 z1 hi pU tR hz ho BA;refine' ZYZ;go_region_held3 (fun W=>duo w 36 (y_ s AL cL AO cO AF cF AH cH AN cN) false W) (first|(with_reducible exact aq)|(with_reducible exact ka)|(with_reducible exact kb)|(with_reducible exact k1)|(with_reducible exact duo.set3 k1 ah _ _ _)|(with_reducible exact duo.below k1 (Ae (aF _ _) _))|(exact duo.below k1 (Ae (aF _ _) _))|fail) (first|refine' ZYa|refine' ZYb|fail)
 all_goals
  refine' ZYc;have RU0:=aA RU;have tw:=aA lf;clear lf RU OX b1
  refine' ZC;obtain⟨W2,bg⟩:∃u:World,u=U1:=⟨_,rfl⟩;rw[<-bg];have k2:duo w 36 (y_ s AL cL AO cO AF cF AH cH AN cN) false W2:=by rw[bg];exact kU
  have RX:rdN (cut R w.heap.size (w.heap.size+2)) W2 (.slice AX nX cX) mp.order:=by rw[bg];exact RU0.out
  have dq:=lR;rw[<-bg]at dq;refine' YD;clear bg lR;refine' ZYf;go_region_law (first|(go_simp;go_at_call 26;refine' Xo)|(go_simp;refine' Vz)|fail)
  all_goals refine' ZYg;exact W6
end Go.Proofs.YtfadhdacjpmmeaaGreatDoor
