/- Parts. -/
import Derived.Test.YtfadhdacjpmmeaaGreatDoorU17a
import Derived.Test.YtfadhdacjpmmeaaGreatDoorU17b
set_option linter.unusedVariables false
set_option linter.unusedSimpArgs false
set_option maxRecDepth 1000000
set_option maxHeartbeats 16000000
open Go.Proofs.Tryz
open Go renaming madeCells->bF
open Go.IntKind renaming i64->aD
open Go.Obj renaming cells->aB
open Go.Value renaming string->aG,int->aH
namespace Go.Proofs.YtfadhdacjpmmeaaGreatDoor
open Go.RowKit
theorem Ao6(R:Nat->Prop)(vL vO vF vH vN:Value)(s:Dsk)(a b:Y_)(B g c:Nat)(w:World)(hS:stN R w vL vO vF vH vN s)(hf:own 9 B w (.slice (P_ g) 2 c) [a,b])(z0:a.size<=maxLen)(z1:b.size<=maxLen)(hi:Bj s.day.plan.bins/\Bj s.day.plan.passes)(tR:Bj (Ei s.day.plan (Am a) (Am b)).bins/\Bj (Ei s.day.plan (Am a) (Am b)).passes)(ho:Eg s.day.plan (Am a) (Am b)=true)(hz:(E7 (Ei s.day.plan (Am a) (Am b))).size<=1000000000)(hp:1<=(E7 (Ei s.day.plan (Am a) (Am b))).size):
 Calls Tryz.prog 47 #[y5 vL vO vF vH vN s,.string C0,.slice (P_ g) 2 c] w (Bs R {s with day:={s.day with plan:=Ei s.day.plan (Am a) (Am b)}} (E7 (Ei s.day.plan (Am a) (Am b))) w):=by
 refine' ZYW;rw[BA]at tR hz hp⊢;have HC:Hid (∀W,B_ w W->Calls Tryz.prog 97 #[.agg #[.int .i64 s.day.plan.bins,.int .i64 s.day.plan.passes,.slice AO s.day.plan.order.length cO],.int .i64 (Am a),.int .i64 (Am b)] W fun e w'=>∃A n c,e=.returned (.tuple #[.agg #[.int .i64 mp.bins,.int .i64 mp.passes,.slice A n c],.bool true])/\own 9 W.heap.size w' (.slice A n c) mp.order/\B_ W w'):=fun W hW=>ZYX
 refine' ZYY;have eo:=aA (fun W=>D4 (E7 mp) W ZA);have dj:Hid (Em (E7 mp)=E7 mp++⟨#[10]⟩):=Fh hp;have QF:=aA tR;refine' ZG6;clear z0 z1 hi pU tR hz ho BA hp;refine' ZYZ;go_region_held3 (fun W=>duo w 36 (y_ s AL cL AO cO AF cF AH cH AN cN) false W) (first|(with_reducible exact aq)|(with_reducible exact ka)|(with_reducible exact kb)|(with_reducible exact k1)|(with_reducible exact duo.set3 k1 ah _ _ _)|(with_reducible exact duo.below k1 (Ae (aF _ _) _))|(exact duo.below k1 (Ae (aF _ _) _))|fail) (first|refine' ZYa|refine' ZYb|fail)
 all_goals
  refine' ZYc;have lv:=k1.lt;have RU0:=aA RU;have tw:=aA lf;clear lf RU OX b1;refine' ZYd;refine' ZC;obtain⟨W2,bg⟩:∃u,u=((U1.setCell ⟨w.heap.size,1,none⟩ (.int .i64 mp.bins)).setCell ⟨w.heap.size,2,none⟩ (.int .i64 mp.passes)).setCell ⟨w.heap.size,3,none⟩ (.slice AX nX cX):=⟨_,rfl⟩;rw[<-bg];have k2:duo w 36 #[.slice AL s.letters.length cL,.int .i64 mp.bins,.int .i64 mp.passes,.slice AX nX cX,.slice AF s.day.fwds.length cF,.slice AH s.day.held.length cH,.int .i64 s.day.size,.slice AN s.net.length cN] false W2:=ZYe
  have RX:rdN (cut R w.heap.size (w.heap.size+2)) W2 (.slice AX nX cX) mp.order:=by rw[bg];exact RU0.out.on (((Ct.set_cut R _ _ _ _ _ _ (aC _) ZA).trans (Ct.set_cut R _ _ _ _ _ _ (aC _) ZA)).trans (Ct.set_cut R _ _ _ _ _ _ (aC _) ZA))
  have dq:=(AtY (W:=U1) (b:=w.heap.size) (x:=.int .i64 mp.bins) (y:=.int .i64 mp.passes) (z:=.slice AX nX cX) (show _≠w.heap.size by omega)).trans lR;rw[<-bg]at dq;refine' YD;clear bg e1 e2 e3 f1 f2 f3 d0 d1 d2 lR q0 q1 q2 q3 q4 q5 q6 q7;have RXH:=aA RX;refine' ZYf;have pp:=fun W (h:duo w 36 #[.slice AL s.letters.length cL,.int .i64 mp.bins,.int .i64 mp.passes,.slice AX nX cX,.slice AF s.day.fwds.length cF,.slice AH s.day.held.length cH,.int .i64 s.day.size,.slice AN s.net.length cN] false W)=>(Ac h.box).1;have p0:=fun W h=>(pp W h).1;have p1:=fun W h=>(pp W h).2.1;have p2:=fun W h=>(pp W h).2.2.1;have p3:=fun W h=>(pp W h).2.2.2.1;have p4:=fun W h=>(pp W h).2.2.2.2.1;have p5:=fun W h=>(pp W h).2.2.2.2.2.1;have p6:=fun W h=>(pp W h).2.2.2.2.2.2.1;have p7:=fun W h=>(pp W h).2.2.2.2.2.2.2;clear pp
  go_region_law (first|(go_simp;go_at_call 26;refine' Xo)|(go_simp;refine' Vz)|fail)
  all_goals refine' ZYg;exact Bs.fin (s':={s with day:={s.day with plan:=mp}}) (stP (HS.out.cut L4.out) (RXH.out.on (Ct.below _ kP.out))) L4.out
end Go.Proofs.YtfadhdacjpmmeaaGreatDoor
