/- Parts. -/
import Derived.Test.YtfadhdacjpmmeaaGreatDoorU16b
import Derived.Shelf.Spec.SlicesInsert
import Derived.Shelf.SlSortCmp.WholeK
set_option linter.unusedVariables false
set_option linter.unusedSimpArgs false
set_option maxRecDepth 1000000
set_option maxHeartbeats 16000000
open Go.Proofs.Tryz
open Go renaming madeCells->bF
open Go.IntKind renaming i64->aD
open Go.Obj renaming cells->aB
open Go.Value renaming string->aG,int->aH
namespace Go.Proofs.YtfadhdacjpmmeaaGreatDoor
open Go.RowKit
theorem AeB(R:Nat->Prop)(vL vO vF vH vN s r w)(hS:stN R w vL vO vF vH vN s)(hz:r.size<=1000000)(ho:Tf r=true):
 Calls Tryz.prog 12 #[y5 vL vO vF vH vN s,.string Bg,.string r] w (Bs R {s with day:={s.day with fwds:=kS r}} (kR) w):=by
 refine' ZYh;have HC:Hid (∀W:World,Calls Tryz.prog 44 #[.string r] W fun e w'=>∃v',e=.returned (.tuple #[v',.bool true])/\own 128 W.heap.size w' v' (kS r)/\B_ W w'):=fun W=>ZYi
 refine' ZG8;refine' Tk;refine' ZKj;refine' Vy;go_wp2_with (go_at_call 44;refine' ZHE;have e4:=q4 _ k1;have f4:=k1.frozenS 4)
 refine' ZYj;refine' ZYk;have RX:Hid (rdN (cut R w.heap.size (w.heap.size+2)) W2 (.slice AX nX cX) (kS r)):=by
  have h:rdN (cut R w.heap.size (w.heap.size+2)) u1 (.slice AX nX cX) (kS r):=rdN.of_own OX.out fun k hk=>.inr ZA
  exact ZYl
 refine' YD;clear bg e4 f4 q0 q1 q2 q3 q4 q5 q6 q7 k0 aq k1 z1 OX ah;refine' ZLV;go_region_held3 (fun W=>duo w 36 #[.slice AL s.letters.length cL,.int .i64 s.day.plan.bins,.int .i64 s.day.plan.passes,.slice AO s.day.plan.order.length cO,.slice AX nX cX,.slice AH s.day.held.length cH,.int .i64 s.day.size,.slice AN s.net.length cN] false W) (first|(with_reducible exact fc)|(with_reducible exact k3)|exact gA|fail) (first|(refine' W9;refine' ZHF)|fail)
 all_goals refine' Tj;exact Bs.fin (s':={s with day:={s.day with fwds:=kS r}}) ((HS.out.cut L4.out).setF (RX.out.on (Ct.below _ kP.out))) L4.out
theorem AfG(R:Nat->Prop)(vL vO vF vH vN s r w)(hS:stN R w vL vO vF vH vN s)(hz:r.size<=1000000)(ho:Tf r=false):
 Calls Tryz.prog 12 #[y5 vL vO vF vH vN s,.string Bg,.string r] w (Bs R s (⟨#[]⟩) w):=by
 refine' ZYh;have HC:Hid (∀W:World,Calls Tryz.prog 44 #[.string r] W fun e w'=>∃v',e=.returned (.tuple #[v',.bool false])/\own 128 W.heap.size w' v' (kS r)/\B_ W w'):=fun W=>ZYi
 refine' ZG9;refine' Tk;refine' ZKj;refine' Vy;go_wp2_with (go_at_call 44;refine' ZHE)
 exact ZYm
theorem As9(R:Nat->Prop)(vL vO vF vH vN s r w)(hS:stN R w vL vO vF vH vN s)(hz:r.size<=1000000)(ho:Kx r=true):
 Calls Tryz.prog 12 #[y5 vL vO vF vH vN s,.string Es,.string r] w (Bs R {s with net:=pf r} (kR) w):=by
 refine' ZYn;have HC:Hid (∀W:World,Calls Tryz.prog 45 #[.string r] W fun e w'=>∃v',e=.returned (.tuple #[v',.bool true])/\AoW 45 181 W.heap.size w' v' (pf r)/\B_ W w'):=fun W=>ZYo
 refine' ZG8;refine' Tk;refine' ZLj;refine' Vy;go_wp2_with (go_at_call 45;refine' ZHE;have e7:=q7 _ k1;have f7:=k1.frozenS 7)
 obtain⟨W2,bg⟩:∃u,u=u1.setCell ⟨w.heap.size,7,none⟩ (.slice AX nX cX):=⟨_,rfl⟩;rw[<-bg];have k2:duo w 36 #[.slice AL s.letters.length cL,.int .i64 s.day.plan.bins,.int .i64 s.day.plan.passes,.slice AO s.day.plan.order.length cO,.slice AF s.day.fwds.length cF,.slice AH s.day.held.length cH,.int .i64 s.day.size,.slice AX nX cX] false W2:=by rw[bg];exact k1.put 7 _
 have RX:Hid (rdN (cut R w.heap.size (w.heap.size+2)) W2 (.slice AX nX cX) (pf r)):=by
  have h:rdN (cut R w.heap.size (w.heap.size+2)) u1 (.slice AX nX cX) (pf r):=rdN.of_ownN OX.out fun k hk=>.inr ZA
  exact ZYl
 refine' YD;clear bg e7 f7 q0 q1 q2 q3 q4 q5 q6 q7 k0 aq k1 z1 OX ah;refine' Xp;have p0:∀W,duo w 36 #[.slice AL s.letters.length cL,.int .i64 s.day.plan.bins,.int .i64 s.day.plan.passes,.slice AO s.day.plan.order.length cO,.slice AF s.day.fwds.length cF,.slice AH s.day.held.length cH,.int .i64 s.day.size,.slice AX nX cX] false W->W.cell? ⟨w.heap.size,0,none⟩=some (.slice AL s.letters.length cL):=fun W h=>(Ac h.box).1.1
 have p1:∀W,duo w 36 #[.slice AL s.letters.length cL,.int .i64 s.day.plan.bins,.int .i64 s.day.plan.passes,.slice AO s.day.plan.order.length cO,.slice AF s.day.fwds.length cF,.slice AH s.day.held.length cH,.int .i64 s.day.size,.slice AX nX cX] false W->W.cell? ⟨w.heap.size,1,none⟩=some (.int .i64 s.day.plan.bins):=fun W h=>(Ac h.box).1.2.1
 have p2:∀W,duo w 36 #[.slice AL s.letters.length cL,.int .i64 s.day.plan.bins,.int .i64 s.day.plan.passes,.slice AO s.day.plan.order.length cO,.slice AF s.day.fwds.length cF,.slice AH s.day.held.length cH,.int .i64 s.day.size,.slice AX nX cX] false W->W.cell? ⟨w.heap.size,2,none⟩=some (.int .i64 s.day.plan.passes):=fun W h=>(Ac h.box).1.2.2.1
 have p3:∀W,duo w 36 #[.slice AL s.letters.length cL,.int .i64 s.day.plan.bins,.int .i64 s.day.plan.passes,.slice AO s.day.plan.order.length cO,.slice AF s.day.fwds.length cF,.slice AH s.day.held.length cH,.int .i64 s.day.size,.slice AX nX cX] false W->W.cell? ⟨w.heap.size,3,none⟩=some (.slice AO s.day.plan.order.length cO):=fun W h=>(Ac h.box).1.2.2.2.1
 have p4:∀W,duo w 36 #[.slice AL s.letters.length cL,.int .i64 s.day.plan.bins,.int .i64 s.day.plan.passes,.slice AO s.day.plan.order.length cO,.slice AF s.day.fwds.length cF,.slice AH s.day.held.length cH,.int .i64 s.day.size,.slice AX nX cX] false W->W.cell? ⟨w.heap.size,4,none⟩=some (.slice AF s.day.fwds.length cF):=fun W h=>(Ac h.box).1.2.2.2.2.1
 have p5:∀W,duo w 36 #[.slice AL s.letters.length cL,.int .i64 s.day.plan.bins,.int .i64 s.day.plan.passes,.slice AO s.day.plan.order.length cO,.slice AF s.day.fwds.length cF,.slice AH s.day.held.length cH,.int .i64 s.day.size,.slice AX nX cX] false W->W.cell? ⟨w.heap.size,5,none⟩=some (.slice AH s.day.held.length cH):=fun W h=>(Ac h.box).1.2.2.2.2.2.1
 have p6:∀W,duo w 36 #[.slice AL s.letters.length cL,.int .i64 s.day.plan.bins,.int .i64 s.day.plan.passes,.slice AO s.day.plan.order.length cO,.slice AF s.day.fwds.length cF,.slice AH s.day.held.length cH,.int .i64 s.day.size,.slice AX nX cX] false W->W.cell? ⟨w.heap.size,6,none⟩=some (.int .i64 s.day.size):=fun W h=>(Ac h.box).1.2.2.2.2.2.2.1
 have p7:∀W,duo w 36 #[.slice AL s.letters.length cL,.int .i64 s.day.plan.bins,.int .i64 s.day.plan.passes,.slice AO s.day.plan.order.length cO,.slice AF s.day.fwds.length cF,.slice AH s.day.held.length cH,.int .i64 s.day.size,.slice AX nX cX] false W->W.cell? ⟨w.heap.size,7,none⟩=some (.slice AX nX cX):=fun W h=>(Ac h.box).1.2.2.2.2.2.2.2
 go_region_held3 (fun W=>duo w 36 #[.slice AL s.letters.length cL,.int .i64 s.day.plan.bins,.int .i64 s.day.plan.passes,.slice AO s.day.plan.order.length cO,.slice AF s.day.fwds.length cF,.slice AH s.day.held.length cH,.int .i64 s.day.size,.slice AX nX cX] false W) (first|(with_reducible exact fc)|(with_reducible exact k3)|exact gA|fail) (first|(refine' W9;refine' ZHF)|fail)
 all_goals refine' Tj;exact Bs.fin (s':={s with net:=pf r}) ((HS.out.cut L4.out).setN (RX.out.on (Ct.below _ kP.out))) L4.out
theorem AuM(R:Nat->Prop)(vL vO vF vH vN s r w)(hS:stN R w vL vO vF vH vN s)(hz:r.size<=1000000)(ho:Kx r=false):
 Calls Tryz.prog 12 #[y5 vL vO vF vH vN s,.string Es,.string r] w (Bs R s (⟨#[]⟩) w):=by
 refine' ZYn;have HC:Hid (∀W:World,Calls Tryz.prog 45 #[.string r] W fun e w'=>∃v',e=.returned (.tuple #[v',.bool false])/\AoW 45 181 W.heap.size w' v' (pf r)/\B_ W w'):=fun W=>ZYo
 refine' ZG9;refine' Tk;refine' ZLj;refine' Vy;go_wp2_with (go_at_call 45;refine' ZHE)
 exact ZYm
theorem AgO(R:Nat->Prop)(vL vO vF vH vN s r w)(hS:stN R w vL vO vF vH vN s)(hz:r.size<=1000000)(ho:Mv r=true)(hp:1<=(Co (t_ r)).size):
 Calls Tryz.prog 12 #[y5 vL vO vF vH vN s,.string Cf,.string r] w (Bs R {s with letters:=t_ r} (Co (t_ r)) w):=by
 refine' ZYp;have HC:Hid (∀W:World,Calls Tryz.prog 41 #[.string r] W fun e w'=>∃v',e=.returned (.tuple #[v',.bool true])/\own 119 W.heap.size w' v' (t_ r)/\B_ W w'):=fun W=>ZYq
 have HM:Hid (∀(v:Value) W,B_ w W->rdN (cut R w.heap.size (w.heap.size+2)) W v (t_ r)->Calls Tryz.prog 25 #[.agg (y_ s AL cL AO cO AF cF AH cH AN cN),v,.bool true] W (Bs (cut R w.heap.size (w.heap.size+2)) {s with letters:=t_ r} (Co (t_ r)) W)):=fun v W hW hv=>AeO _ _ _ _ _ _ v s _ W (hS.cut hW) hv hp
 refine' Zq;clear hS;clear hz ho hp;exact ZYr
theorem AiF(R:Nat->Prop)(vL vO vF vH vN s r w)(hS:stN R w vL vO vF vH vN s)(hz:r.size<=1000000)(ho:Mv r=false):
 Calls Tryz.prog 12 #[y5 vL vO vF vH vN s,.string Cf,.string r] w (Bs R s (⟨#[]⟩) w):=by
 refine' ZYp;have HC:Hid (∀W:World,Calls Tryz.prog 41 #[.string r] W fun e w'=>∃v',e=.returned (.tuple #[v',.bool false])/\own 119 W.heap.size w' v' (t_ r)/\B_ W w'):=fun W=>ZYq
 have HM:Hid (∀(v:Value) W,B_ w W->rdN (cut R w.heap.size (w.heap.size+2)) W v (t_ r)->Calls Tryz.prog 25 #[.agg (y_ s AL cL AO cO AF cF AH cH AN cN),v,.bool false] W (Bs (cut R w.heap.size (w.heap.size+2)) s ⟨#[]⟩ W)):=fun v W hW _=>AaM _ _ _ _ _ _ v s W (hS.cut hW)
 refine' Tk;exact ZYr
theorem ZD3{T B:Nat}{w v}{ps:List Y_}(h:own T B w v ps)(hn:ps≠[]):∃g c,v=.slice (P_ g) ps.length c/\g<w.heap.size:=by
 rcases h.form with⟨_,vT⟩|⟨g,c,rfl,_,hl,_,_⟩
 .exact absurd vT hn
 .exact⟨g,c,rfl,hl⟩
theorem stP{R:Nat->Prop}{w vL vO vF vH vN v s p}(h:stN R w vL vO vF vH vN s)(hx:rdN R w v p.order):stN R w vL v vF vH vN {s with day:={s.day with plan:=p}}:=⟨h.l,hx,h.f,h.h,h.n⟩
theorem Ap0(R:Nat->Prop)(vL vO vF vH vN s r w)(hS:stN R w vL vO vF vH vN s)(hz:r.size<=1000000)(ho:Ge r=true):
 Calls Tryz.prog 12 #[y5 vL vO vF vH vN s,.string Df,.string r] w (Bs R {s with day:={s.day with plan:=Ey r}} (kR) w):=by
 refine' ZYs;have HC:Hid (∀W:World,Calls Tryz.prog 42 #[.string r] W fun e w'=>∃vo,e=.returned (.tuple #[.agg #[.int .i64 (Ey r).bins,.int .i64 (Ey r).passes,vo],.bool true])/\R_ w' vo (Ey r).order/\B_ W w'/\K_ W.heap.size vo):=fun W=>by have:=ZC8 r W hz;exact Xm
 refine' ZG8;refine' ZYt;have lR:U1.heap[u1.heap.size]? =some (.cells #[.int .i64 (Ey r).bins,.int .i64 (Ey r).passes,.slice AX nX cX] 30 (0,0)):=ZYu
 refine' ZYv;have LM:rdN (cut R w.heap.size (w.heap.size+2)) U1 (.slice AX nX cX) (Ey r).order:=rdN.of_fresh (oX.on EJ) fX fun k hk=>.inr ZA
 have RA:=aA LM;clear oX z1 fX LM;refine' ZYd;have e1b:=e1;have e2b:=e2;have e3b:=e3;have f1b:=f1;have f2b:=f2;have f3b:=f3;have d0b:=d0;have d1b:=d1;have d2b:=d2;rw[lf]at e1b e2b e3b f1b f2b f3b d0b d1b d2b;have tw:=aA lf;clear lf VW VX VY
 refine' ZC;rw[<-tw.out];obtain⟨W2,bg⟩:∃u,u=((U1.setCell ⟨w.heap.size,1,none⟩ (.int .i64 (Ey r).bins)).setCell ⟨w.heap.size,2,none⟩ (.int .i64 (Ey r).passes)).setCell ⟨w.heap.size,3,none⟩ (.slice AX nX cX):=⟨_,rfl⟩;rw[<-bg];have k2:duo w 36 #[.slice AL s.letters.length cL,.int .i64 (Ey r).bins,.int .i64 (Ey r).passes,.slice AX nX cX,.slice AF s.day.fwds.length cF,.slice AH s.day.held.length cH,.int .i64 s.day.size,.slice AN s.net.length cN] false W2:=ZYe
 have RX:Hid (rdN (cut R w.heap.size (w.heap.size+2)) W2 (.slice AX nX cX) (Ey r).order):=by
  have hk:Ct (cut R w.heap.size (w.heap.size+2)) U1 W2:=by rw[bg];exact((Ct.set_cut R _ _ _ _ _ _ (aC _) ZA).trans (Ct.set_cut R _ _ _ _ _ _ (aC _) ZA)).trans (Ct.set_cut R _ _ _ _ _ _ (aC _) ZA)
  exact RA.out.on hk
 refine' YD;clear bg lR EJ e1 e2 e3 f1 f2 f3 e1b e2b e3b f1b f2b f3b d0b d1b d2b d0 d1 d2 q0 q1 q2 q3 q4 q5 q6 q7 k0 aq k1 kU RA ah;refine' Xp;have p0:∀W,duo w 36 #[.slice AL s.letters.length cL,.int .i64 (Ey r).bins,.int .i64 (Ey r).passes,.slice AX nX cX,.slice AF s.day.fwds.length cF,.slice AH s.day.held.length cH,.int .i64 s.day.size,.slice AN s.net.length cN] false W->W.cell? ⟨w.heap.size,0,none⟩=some (.slice AL s.letters.length cL):=fun W h=>(Ac h.box).1.1
 have p1:∀W,duo w 36 #[.slice AL s.letters.length cL,.int .i64 (Ey r).bins,.int .i64 (Ey r).passes,.slice AX nX cX,.slice AF s.day.fwds.length cF,.slice AH s.day.held.length cH,.int .i64 s.day.size,.slice AN s.net.length cN] false W->W.cell? ⟨w.heap.size,1,none⟩=some (.int .i64 (Ey r).bins):=fun W h=>(Ac h.box).1.2.1
 have p2:∀W,duo w 36 #[.slice AL s.letters.length cL,.int .i64 (Ey r).bins,.int .i64 (Ey r).passes,.slice AX nX cX,.slice AF s.day.fwds.length cF,.slice AH s.day.held.length cH,.int .i64 s.day.size,.slice AN s.net.length cN] false W->W.cell? ⟨w.heap.size,2,none⟩=some (.int .i64 (Ey r).passes):=fun W h=>(Ac h.box).1.2.2.1
 have p3:∀W,duo w 36 #[.slice AL s.letters.length cL,.int .i64 (Ey r).bins,.int .i64 (Ey r).passes,.slice AX nX cX,.slice AF s.day.fwds.length cF,.slice AH s.day.held.length cH,.int .i64 s.day.size,.slice AN s.net.length cN] false W->W.cell? ⟨w.heap.size,3,none⟩=some (.slice AX nX cX):=fun W h=>(Ac h.box).1.2.2.2.1
 have p4:∀W,duo w 36 #[.slice AL s.letters.length cL,.int .i64 (Ey r).bins,.int .i64 (Ey r).passes,.slice AX nX cX,.slice AF s.day.fwds.length cF,.slice AH s.day.held.length cH,.int .i64 s.day.size,.slice AN s.net.length cN] false W->W.cell? ⟨w.heap.size,4,none⟩=some (.slice AF s.day.fwds.length cF):=fun W h=>(Ac h.box).1.2.2.2.2.1
 have p5:∀W,duo w 36 #[.slice AL s.letters.length cL,.int .i64 (Ey r).bins,.int .i64 (Ey r).passes,.slice AX nX cX,.slice AF s.day.fwds.length cF,.slice AH s.day.held.length cH,.int .i64 s.day.size,.slice AN s.net.length cN] false W->W.cell? ⟨w.heap.size,5,none⟩=some (.slice AH s.day.held.length cH):=fun W h=>(Ac h.box).1.2.2.2.2.2.1
 have p6:∀W,duo w 36 #[.slice AL s.letters.length cL,.int .i64 (Ey r).bins,.int .i64 (Ey r).passes,.slice AX nX cX,.slice AF s.day.fwds.length cF,.slice AH s.day.held.length cH,.int .i64 s.day.size,.slice AN s.net.length cN] false W->W.cell? ⟨w.heap.size,6,none⟩=some (.int .i64 s.day.size):=fun W h=>(Ac h.box).1.2.2.2.2.2.2.1
 have p7:∀W,duo w 36 #[.slice AL s.letters.length cL,.int .i64 (Ey r).bins,.int .i64 (Ey r).passes,.slice AX nX cX,.slice AF s.day.fwds.length cF,.slice AH s.day.held.length cH,.int .i64 s.day.size,.slice AN s.net.length cN] false W->W.cell? ⟨w.heap.size,7,none⟩=some (.slice AN s.net.length cN):=fun W h=>(Ac h.box).1.2.2.2.2.2.2.2
 go_region_held3 (fun W=>duo w 36 #[.slice AL s.letters.length cL,.int .i64 (Ey r).bins,.int .i64 (Ey r).passes,.slice AX nX cX,.slice AF s.day.fwds.length cF,.slice AH s.day.held.length cH,.int .i64 s.day.size,.slice AN s.net.length cN] false W) (first|(with_reducible exact fc)|(with_reducible exact k3)|exact gA|fail) (first|(refine' W9;refine' ZHF)|fail)
 all_goals refine' Tj;exact Bs.fin (s':={s with day:={s.day with plan:=Ey r}}) (stP (HS.out.cut L4.out) (RX.out.on (Ct.below _ kP.out))) L4.out
theorem AqY(R:Nat->Prop)(vL vO vF vH vN s r w)(hS:stN R w vL vO vF vH vN s)(hz:r.size<=1000000)(ho:Ge r=false):
 Calls Tryz.prog 12 #[y5 vL vO vF vH vN s,.string Df,.string r] w (Bs R s (⟨#[]⟩) w):=by
 refine' ZYs;have HC:Hid (∀W:World,Calls Tryz.prog 42 #[.string r] W fun e w'=>∃vo,e=.returned (.tuple #[.agg #[.int .i64 (Ey r).bins,.int .i64 (Ey r).passes,vo],.bool false])/\R_ w' vo (Ey r).order/\B_ W w'/\K_ W.heap.size vo):=fun W=>by have:=ZC8 r W hz;exact Xm
 refine' ZG9;refine' ZYt;refine' ZYv;clear oX z1 fX;have tw:=aA lf;clear lf VW VX VY EJ k0 aq k1
 refine' ZC;rw[<-tw.out];have fc:=kU.drew
 refine' ZYw;all_goals
  refine' Th;clear kU fc k3 hr e0 e1 e2 e3 e4 e5 e6 e7 f0 f1 f2 f3 f4 f5 f6 f7
  refine' N3;exact W6
theorem L_(R:Nat->Prop)(vL vO vF vH vN s wd r n ch w)(hS:stN R w vL vO vF vH vN s)(hz:r.size<=1000000)(h4:∀x∈[Cf,Df,Bg,Es],(wd.toList==x.data.toList)=false)(lO:∀W:World,ya 46 #[.string wd] W (.tuple #[.int .i64 n,.bool ch]))(hn:n<0\/((Aj 32 r).length:Int)≠n):
 Calls Tryz.prog 12 #[y5 vL vO vF vH vN s,.string wd,.string r] w (Bs R s (Hg) w):=by
 refine' ZLk;refine' ZYx;have dj:Hid (Em Hg=⟨#[119,104,97,116,10]⟩):=by show _=_;exact ZR
 generalize Aj 32 r=ps at *;refine' Vy;by_cases gx:n<0
 .clear hn
  have dy:decide (n<0)=true:=aL gx
  exact ZYy
 .have dy:decide (n<0)=false:=aP gx
  have lK:((ps.length:Int) != n)=true:=bne_iff_ne.2 ZA;clear hn
  exact ZYy
def BbN(am:Y_)(s s':Dsk)(a:Y_):Prop:=
 ∀(R:Nat->Prop) (vL vO vF vH vN:Value) (w:World),stN R w vL vO vF vH vN s->
  (Lib.indexByte am.data.toList 32<0->Calls Tryz.prog 11 #[y5 vL vO vF vH vN s,.string am] w (Bs R s' a w))/\
  (∀q:Nat,Lib.indexByte am.data.toList 32=(q:Int)->Calls Tryz.prog 12 #[y5 vL vO vF vH vN s,.string (am.extract 0 q),.string (am.extract (q+1) am.size)] w (Bs R s' a w))
theorem BaR{u W vL vO vF vH vN s}(h:stN (fun _=>True) u vL vO vF vH vN s)(hb:B_ u W):stN (fun j=>j≠u.heap.size) W vL vO vF vH vN s:=
 have k:∀{V:World},Ct (fun j=>j≠u.heap.size) W V->Ct (fun _=>True) u V:=fun hV=>⟨aI hb.size hV.1,fun j _ hj=>(hV.2 j (Nat.ne_of_lt hj) (bR hj hb.size)).trans (hb.block j hj)⟩
 ⟨fun V hV=>h.l V (k hV),fun V hV=>h.o V (k hV),fun V hV=>h.f V (k hV),fun V hV=>h.h V (k hV),fun V hV=>h.n V (k hV)⟩
def ApR(bS:Nat)(s:Dsk)(w:World):Prop:=∃AL cL AO cO AF cF AH cH AN cN,w.heap[bS]? =some (.cells (y_ s AL cL AO cO AF cF AH cH AN cN) 36 (0,0))/\stN (fun j=>j≠bS) w (.slice AL s.letters.length cL) (.slice AO s.day.plan.order.length cO) (.slice AF s.day.fwds.length cF) (.slice AH s.day.held.length cH) (.slice AN s.net.length cN) s
theorem ApR.below{bS s w w'}(h:ApR bS s w)(hb:B_ w w'):ApR bS s w':=by obtain⟨AL,cL,AO,cO,AF,cF,AH,cH,AN,cN,h1,h2⟩:=h;exact⟨AL,cL,AO,cO,AF,cF,AH,cH,AN,cN,(hb.block bS (Array.getElem?_eq_some_iff.1 h1).1).trans h1,h2.on (Ct.below _ hb)⟩
theorem Ct.set8b(w b x0 x1 x2 x3 x4 x5 x6 x7):Ct (fun j=>j≠b) w ((((((((w.setCell ⟨b,0,none⟩ x0).setCell ⟨b,1,none⟩ x1).setCell ⟨b,2,none⟩ x2).setCell ⟨b,3,none⟩ x3).setCell ⟨b,4,none⟩ x4).setCell ⟨b,5,none⟩ x5).setCell ⟨b,6,none⟩ x6).setCell ⟨b,7,none⟩ x7):=
 have k:∀(W:World) (i:Nat) (u:Value),Ct (fun j=>j≠b) W (W.setCell ⟨b,i,none⟩ u):=fun W i u=>Ct.set _ W b i u fun h=>h rfl
 (((((((k _ 0 x0).trans (k _ 1 x1)).trans (k _ 2 x2)).trans (k _ 3 x3)).trans (k _ 4 x4)).trans (k _ 5 x5)).trans (k _ 6 x6)).trans (k _ 7 x7)
theorem AoL{α:Type}[Flat α]{T base b:Nat}{w v}{xs:List α}(h:own T base w v xs)(hb:b<base)(x0 x1 x2 x3 x4 x5 x6 x7):own T base ((((((((w.setCell ⟨b,0,none⟩ x0).setCell ⟨b,1,none⟩ x1).setCell ⟨b,2,none⟩ x2).setCell ⟨b,3,none⟩ x3).setCell ⟨b,4,none⟩ x4).setCell ⟨b,5,none⟩ x5).setCell ⟨b,6,none⟩ x6).setCell ⟨b,7,none⟩ x7) v xs:=
 Bd (Bd (Bd (Bd (Bd (Bd (Bd (Bd h ⟨b,0,none⟩ x0 hb) ⟨b,1,none⟩ x1 hb) ⟨b,2,none⟩ x2 hb) ⟨b,3,none⟩ x3 hb) ⟨b,4,none⟩ x4 hb) ⟨b,5,none⟩ x5 hb) ⟨b,6,none⟩ x6 hb) ⟨b,7,none⟩ x7 hb
theorem Ae0(t w ls)(ds:Nat->Dsk)(ans:Nat->Y_)(ht:t.size<=20000)(q9:Aj 10 t=ls)(h0:ds 0=I5)
 (re:∀k (h:k<ls.length),ls[k].size≠0->BbN ls[k] (ds k) (ds (k+1)) (ans k)/\(ans k).size<=2000000000)
 (rf:∀k (h:k<ls.length),ls[k].size=0->ds (k+1)=ds k):
 C_ 5 #[.string t] w (.string (Qr ans 0 ⟨#[]⟩ ls)):=by
 have H0:=aA h0;have fx:=aA re;have uk:=aA rf;clear h0 re rf;refine' ZY4;have BS:Hid (∀W:World,Calls Tryz.prog 9 #[.string t,.int .u8 10] W fun e w'=>∃v,e=.returned v/\own (α:=Y_) 9 W.heap.size w' v ls/\B_ W w'):=by rw[<-q9];exact fun W=>I9 t 10 W ZA
 have bp:ls.length<=20001:=ZY5
 have UG:Hid (ls≠[]):=by rw[<-q9];exact AkK 10 t
 have HLZ:Hid (∀x∈ls,x.size<=20000):=by rw[<-q9];exact fun x hx=>aI (Hi hx) ht
 have yd:¬(20000:Int)<(t.size:Int):=ZA
 clear q9;go_enter func5,ntmps5
 refine' ZC;refine(AlW w).mono ?_;rw[<-H0.out];rintro e u1 ⟨AL,cL,AO,cO,AF,cF,AH,cH,AN,cN,rfl,S1,b1⟩;have ff:=aA S1;refine' eD;clear S1 b1
 refine' ZC;obtain⟨W1,qH⟩:∃W,W=u1.alloc (aB #[.slice AL (ds 0).letters.length cL,.int .i64 (ds 0).day.plan.bins,.int .i64 (ds 0).day.plan.passes,.slice AO (ds 0).day.plan.order.length cO,.slice AF (ds 0).day.fwds.length cF,.slice AH (ds 0).day.held.length cH,.int .i64 (ds 0).day.size,.slice AN (ds 0).net.length cN] 36):=⟨_,rfl⟩;rw[<-qH];have l1:B_ u1 W1:=by rw[qH];exact Zs
 have DZ:Hid (ApR u1.heap.size (ds 0) W1):=⟨AL,cL,AO,cO,AF,cF,AH,cH,AN,cN,by rw[qH];exact bC u1 _,BaR ff.out l1⟩;have L1:=aA (it.out.trans (l1.mono it.out.size));have kD:w.heap.size<=u1.heap.size:=it.out.size;have ar:W1.heap.size=u1.heap.size+1:=by rw[qH];simp
 clear qH l1 ff;obtain⟨bS,UZ⟩:∃b,b=u1.heap.size:=⟨_,rfl⟩;have HBS:=aA UZ;rw[<-UZ]at DZ kD ar;clear UZ
 refine(BS.out W1).mono ?_;refine' Y4;rw[ar]at o2;have KP:=aA (DZ.out.below b2);have ig:=aA (L1.out.trans (b2.mono L1.out.size));obtain⟨gl,cl,rfl,_⟩:=ZD3 o2 UG.out;have im:=aA o2;clear o2 b2 DZ;rw[<-HBS.out]
 refine' ZC;go_loopw[4,6] (fun o i wr=>∃k:Nat,k<=ls.length/\i=.int .i64 k/\o=.string (Sv ans ls k)/\Hid (B_ w wr)/\Hid (ApR bS (ds k) wr)/\Hid (own 9 (bS+1) wr (.slice (P_ gl) ls.length cl) ls)/\Hid (Qr ans k (Sv ans ls k) (ls.drop k)=KO)/\(Sv ans ls k).size<=2000050000) (fun _ i _=>ls.length - (intOf i).toNat)
 case atStart=>exact⟨0,aN _,rfl,rfl,ig.out,KP.out,im.out,DY.out,by show 0<=_;omega⟩
 case round=>
  obtain⟨k,hk,rfl,rfl,HL,kZ,HO,HQ,j6⟩:=hrel;obtain⟨W,rfl⟩:∃W:World,W=wr:=⟨_,rfl⟩;clear ig KP im;by_cases ab:k<ls.length
  .refine' ZY6;have pI:=HLZ.out _ (aS ab);obtain⟨o,ho⟩:∃o,Sv ans ls k=o:=⟨_,rfl⟩;rw[ho]at HQ j6 yg sE⊢;clear ho;generalize ls[k]=x at *;by_cases he:x.size=0
   .obtain⟨e1,e2⟩:=L6 he
    have HE:=aA he;clear he
    refine' ZC;go_roundw
    case rel=>exact⟨k+1,ZA,ZJ,by rw[yg.out HE.out],HL.out,by show ApR _ _ _;rw[EA.out HE.out];exact kZ.out,HO.out,ZY7,ZY8⟩
    case measure=>exact ZK
   obtain⟨e1,e2⟩:=G7 he;have rT:=aA he;have VA:¬9223372036854775807<o.size+5:=ZA
   by_cases VB:100<=k
   .have lv:(100:Int)<=(k:Int):=ZA
    refine' ZI;exact⟨B8 ZY9,HL.out⟩
   have lv:¬(100:Int)<=(k:Int):=ZA
   by_cases fd:40000<o.size
   .have cg:(40000:Int)<(o.size:Int):=ZA
    refine' ZI;exact⟨B8 ZY9,HL.out⟩
   have cg:¬(40000:Int)<(o.size:Int):=ZA
   obtain⟨KQ,KR⟩:=ye.out he;have QP:=ZAu (ans k);have hadd2:¬9223372036854775807<o.size+(Em (ans k)).size:=by{unfold Em;refine' zo;show¬_<o.size+(_+1);omega};obtain⟨AL,cL,AO,cO,AF,cF,AH,cH,AN,cN,lZ,SK⟩:=kZ.out;have av:=(Array.getElem?_eq_some_iff.1 lZ).1;obtain⟨⟨c0,c1,c2,c3,c4,c5,c6,c7⟩,_⟩:=Ac lZ;have QQ:=aA (KQ _ _ _ _ _ _ W.drew (SK.on (Ct.below _ (Ag (aF _ _)))));have QR:Hid (∀V:World,ya 10 #[.string x,.int .u8 32] V (.int .i64 (Lib.indexByte x.data.toList 32))):=fun V=>Nq x 32 V ZN
   have y1d:W.drew.cell? ⟨gl,k,none⟩=some (.string x):=y1;clear KQ SK;by_cases BT:Lib.indexByte x.data.toList 32<0
   .have HC:Hid (Calls Tryz.prog 11 #[.agg #[.slice AL (ds k).letters.length cL,.int .i64 (ds k).day.plan.bins,.int .i64 (ds k).day.plan.passes,.slice AO (ds k).day.plan.order.length cO,.slice AF (ds k).day.fwds.length cF,.slice AH (ds k).day.held.length cH,.int .i64 (ds k).day.size,.slice AN (ds k).net.length cN],.string x] W.drew (Bs (fun j=>j≠bS) (ds (k+1)) (ans k) W.drew)):=QQ.out.1 BT
    obtain⟨q,hq⟩:∃q,Lib.indexByte x.data.toList 32=q:=⟨_,rfl⟩;rw[hq]at QR BT;clear hq QQ
    go_wp2_with (go_at_call 10;refine(QR.out _).mono ?_;refine' ZP)
    go_region_law (first|((try go_simp);go_at_call 11;go_loud (refine' ZZA))|fail)
    all_goals exact ZZB
   .obtain⟨q,hq⟩:=aK (Int.not_lt.1 BT)
    have lS:=(Mr hq).2;have HC:Hid (Calls Tryz.prog 12 #[.agg #[.slice AL (ds k).letters.length cL,.int .i64 (ds k).day.plan.bins,.int .i64 (ds k).day.plan.passes,.slice AO (ds k).day.plan.order.length cO,.slice AF (ds k).day.fwds.length cF,.slice AH (ds k).day.held.length cH,.int .i64 (ds k).day.size,.slice AN (ds k).net.length cN],.string (x.extract 0 q),.string (x.extract (q+1) x.size)] W.drew (Bs (fun j=>j≠bS) (ds (k+1)) (ans k) W.drew)):=QQ.out.2 q hq;rw[hq]at QR;have ke:x.data.toList.length=x.size:=ZF
    rw[ke]at lS;have BU:(q:Int)+1<=(x.size:Int):=ZA
    have sF:(q:Int)<=(x.size:Int):=ZA
    have yi:¬(q:Int)<0:=ZA
    have hq4:(0:Int)<=(q:Int)+1:=ZA
    have KS:((q:Int)+1).toNat=q+1:=ZA
    have IR:aD.wrap ((q:Int)+1)=(q:Int)+1:=bG _ ZA;clear hq BT QQ ke
    go_wp2_with (go_at_call 10;refine(QR.out _).mono ?_;refine' ZP)
    go_region_law (first|(go_simp;go_at_call 12;refine' ZZA)|fail)
    all_goals exact ZZB
  .have bd:¬(k:Int)<(ls.length:Int):=ZA
   have HE:Hid (ls.drop k=[]):=dP ZA
   refine' ZI;exact⟨B8 (by rw[<-HQ.out,HE.out,Qr]),HL.out⟩
theorem Ad2(w):ya 46 #[.string He] w (.tuple #[.int .i64 ((1:Nat):Int),.bool false]):=by refine' ZIv;exact zg
theorem AcV(w):ya 46 #[.string Gn] w (.tuple #[.int .i64 ((1:Nat):Int),.bool false]):=by refine' ZXm;exact zg
theorem AcT(w):ya 46 #[.string Ga] w (.tuple #[.int .i64 ((1:Nat):Int),.bool false]):=by refine' ZXn;exact zg
theorem ZCR(w):ya 46 #[.string Eo] w (.tuple #[.int .i64 ((1:Nat):Int),.bool false]):=by refine' ZXo;exact zg
theorem AcL(w):ya 46 #[.string Fj] w (.tuple #[.int .i64 ((1:Nat):Int),.bool false]):=by refine' ZXp;exact zg
theorem Aa9(w):ya 46 #[.string Ds] w (.tuple #[.int .i64 ((1:Nat):Int),.bool false]):=by refine' ZXq;exact zg
theorem low(w):ya 46 #[.string Cc] w (.tuple #[.int .i64 ((1:Nat):Int),.bool false]):=by refine' ZXs;exact zg
theorem AdF(w):ya 46 #[.string Dl] w (.tuple #[.int .i64 ((1:Nat):Int),.bool false]):=by refine' ZXv;exact zg
theorem AeM(w):ya 46 #[.string B5] w (.tuple #[.int .i64 ((1:Nat):Int),.bool false]):=by refine' ZY2;refine' ZY3;exact zg
theorem AdK(w):ya 46 #[.string Fl] w (.tuple #[.int .i64 ((2:Nat):Int),.bool false]):=by
 refine' ZX3;have m6:(Fl.toList==[102,97,117,108,116,115])=false:=ZD
 refine' ZLc;exact zg
theorem Aa8(w):ya 46 #[.string Cz] w (.tuple #[.int .i64 ((3:Nat):Int),.bool false]):=by
 refine' ZX0;have m6:(Cz.toList==[102,97,117,108,116,115])=false:=ZD
 have pG:(Cz.toList==[112,97,116,104])=false:=ZD
 refine' ZX1;exact zg
theorem AlU(w):ya 46 #[.string Dk] w (.tuple #[.int .i64 ((1:Nat):Int),.bool true]):=by
 have ci:(Dk.toList==[99,111,100,101])=false:=ZD
 have dh:(Dk.toList==[98,97,114,115])=false:=ZD
 have eu:(Dk.toList==[114,101,97,100])=false:=ZD
 have fw:(Dk.toList==[99,111,117,110,116])=false:=ZD
 have iq:(Dk.toList==[114,97,110,107])=false:=ZD
 have jz:(Dk.toList==[108,111,97,100,115])=false:=ZD
 have kB:(Dk.toList==[114,101,115,111,108,118,101])=false:=ZD
 have lT:(Dk.toList==[102,97,116,101])=false:=ZD
 have m6:(Dk.toList==[102,97,117,108,116,115])=false:=ZD
 have pG:(Dk.toList==[112,97,116,104])=false:=ZD
 have lU:(Dk.toList==[102,97,117,108,116])=false:=ZD
 refine' ZKw;exact zg
theorem Qc(w):ya 46 #[.string Cy] w (.tuple #[.int .i64 ((1:Nat):Int),.bool true]):=by
 have ci:(Cy.toList==[99,111,100,101])=false:=ZD
 have dh:(Cy.toList==[98,97,114,115])=false:=ZD
 have eu:(Cy.toList==[114,101,97,100])=false:=ZD
 have fw:(Cy.toList==[99,111,117,110,116])=false:=ZD
 have iq:(Cy.toList==[114,97,110,107])=false:=ZD
 have jz:(Cy.toList==[108,111,97,100,115])=false:=ZD
 have kB:(Cy.toList==[114,101,115,111,108,118,101])=false:=ZD
 have lT:(Cy.toList==[102,97,116,101])=false:=ZD
 have m6:(Cy.toList==[102,97,117,108,116,115])=false:=ZD
 have pG:(Cy.toList==[112,97,116,104])=false:=ZD
 have lU:(Cy.toList==[102,97,117,108,116])=false:=ZD
 have oJ:(Cy.toList==[115,105,122,101])=false:=ZD
 refine' ZRv;exact zg
theorem AdI(w):ya 46 #[.string C4] w (.tuple #[.int .i64 ((1:Nat):Int),.bool true]):=by
 have ci:(C4.toList==[99,111,100,101])=false:=ZD
 have dh:(C4.toList==[98,97,114,115])=false:=ZD
 have eu:(C4.toList==[114,101,97,100])=false:=ZD
 have fw:(C4.toList==[99,111,117,110,116])=false:=ZD
 have iq:(C4.toList==[114,97,110,107])=false:=ZD
 have jz:(C4.toList==[108,111,97,100,115])=false:=ZD
 have kB:(C4.toList==[114,101,115,111,108,118,101])=false:=ZD
 have lT:(C4.toList==[102,97,116,101])=false:=ZD
 have m6:(C4.toList==[102,97,117,108,116,115])=false:=ZD
 have pG:(C4.toList==[112,97,116,104])=false:=ZD
 have lU:(C4.toList==[102,97,117,108,116])=false:=ZD
 have oJ:(C4.toList==[115,105,122,101])=false:=ZD
 have sS:(C4.toList==[104,111,108,100])=false:=ZD
 refine' ZKn;exact zg
theorem ZBg(w):ya 46 #[.string C8] w (.tuple #[.int .i64 ((1:Nat):Int),.bool true]):=by
 have ci:(C8.toList==[99,111,100,101])=false:=ZD
 have dh:(C8.toList==[98,97,114,115])=false:=ZD
 have eu:(C8.toList==[114,101,97,100])=false:=ZD
 have fw:(C8.toList==[99,111,117,110,116])=false:=ZD
 have iq:(C8.toList==[114,97,110,107])=false:=ZD
 have jz:(C8.toList==[108,111,97,100,115])=false:=ZD
 have kB:(C8.toList==[114,101,115,111,108,118,101])=false:=ZD
 have lT:(C8.toList==[102,97,116,101])=false:=ZD
 have m6:(C8.toList==[102,97,117,108,116,115])=false:=ZD
 have pG:(C8.toList==[112,97,116,104])=false:=ZD
 have lU:(C8.toList==[102,97,117,108,116])=false:=ZD
 have oJ:(C8.toList==[115,105,122,101])=false:=ZD
 have sS:(C8.toList==[104,111,108,100])=false:=ZD
 have IC:(C8.toList==[115,116,97,121])=false:=ZD
 refine' ZRu;exact zg
theorem ZCZ(w):ya 46 #[.string Bt] w (.tuple #[.int .i64 ((2:Nat):Int),.bool true]):=by
 have ci:(Bt.toList==[99,111,100,101])=false:=ZD
 have dh:(Bt.toList==[98,97,114,115])=false:=ZD
 have eu:(Bt.toList==[114,101,97,100])=false:=ZD
 have fw:(Bt.toList==[99,111,117,110,116])=false:=ZD
 have iq:(Bt.toList==[114,97,110,107])=false:=ZD
 have jz:(Bt.toList==[108,111,97,100,115])=false:=ZD
 have kB:(Bt.toList==[114,101,115,111,108,118,101])=false:=ZD
 have lT:(Bt.toList==[102,97,116,101])=false:=ZD
 have m6:(Bt.toList==[102,97,117,108,116,115])=false:=ZD
 have pG:(Bt.toList==[112,97,116,104])=false:=ZD
 have lU:(Bt.toList==[102,97,117,108,116])=false:=ZD
 have oJ:(Bt.toList==[115,105,122,101])=false:=ZD
 have sS:(Bt.toList==[104,111,108,100])=false:=ZD
 have IC:(Bt.toList==[115,116,97,121])=false:=ZD
 have PZ:(Bt.toList==[112,97,115,115])=false:=ZD
 refine' ZKo;exact zg
theorem ZEM(w):ya 46 #[.string C0] w (.tuple #[.int .i64 ((2:Nat):Int),.bool true]):=by
 have ci:(C0.toList==[99,111,100,101])=false:=ZD
 have dh:(C0.toList==[98,97,114,115])=false:=ZD
 have eu:(C0.toList==[114,101,97,100])=false:=ZD
 have fw:(C0.toList==[99,111,117,110,116])=false:=ZD
 have iq:(C0.toList==[114,97,110,107])=false:=ZD
 have jz:(C0.toList==[108,111,97,100,115])=false:=ZD
 have kB:(C0.toList==[114,101,115,111,108,118,101])=false:=ZD
 have lT:(C0.toList==[102,97,116,101])=false:=ZD
 have m6:(C0.toList==[102,97,117,108,116,115])=false:=ZD
 have pG:(C0.toList==[112,97,116,104])=false:=ZD
 have lU:(C0.toList==[102,97,117,108,116])=false:=ZD
 have oJ:(C0.toList==[115,105,122,101])=false:=ZD
 have sS:(C0.toList==[104,111,108,100])=false:=ZD
 have IC:(C0.toList==[115,116,97,121])=false:=ZD
 have PZ:(C0.toList==[112,97,115,115])=false:=ZD
 have q_15:(C0.toList==[102,111,114,119,97,114,100])=false:=ZD
 refine' ZKt;exact zg
theorem AnR(wd w)(h:∀x∈[He,Gn,Ga,Eo,Fj,Ds,Cc,Dl,B5,Fl,Cz,Dk,Cy,C4,C8,Bt,C0],(wd.toList==x.data.toList)=false):ya 46 #[.string wd] w (.tuple #[.int .i64 (-1),.bool false]):=by have ci:(wd.toList==[99,111,100,101])=false:=h He ZF;have dh:(wd.toList==[98,97,114,115])=false:=h Gn ZF;have eu:(wd.toList==[114,101,97,100])=false:=h Ga ZF;have fw:(wd.toList==[99,111,117,110,116])=false:=h Eo ZF;have iq:(wd.toList==[114,97,110,107])=false:=h Fj ZF;have jz:(wd.toList==[108,111,97,100,115])=false:=h Ds ZF;have kB:(wd.toList==[114,101,115,111,108,118,101])=false:=h Cc ZF;have lT:(wd.toList==[102,97,116,101])=false:=h Dl ZF;have m6:(wd.toList==[102,97,117,108,116,115])=false:=h B5 ZF;have pG:(wd.toList==[112,97,116,104])=false:=h Fl ZF;have lU:(wd.toList==[102,97,117,108,116])=false:=h Cz ZF;have oJ:(wd.toList==[115,105,122,101])=false:=h Dk ZF;have sS:(wd.toList==[104,111,108,100])=false:=h Cy ZF;have IC:(wd.toList==[115,116,97,121])=false:=h C4 ZF;have PZ:(wd.toList==[112,97,115,115])=false:=h C8 ZF;have q_15:(wd.toList==[102,111,114,119,97,114,100])=false:=h Bt ZF;have q_16:(wd.toList==[115,119,97,112])=false:=h C0 ZF;clear h;exact zg
theorem Gz(R:Nat->Prop)(vL vO vF vH vN s wd r n s' a w)(hS:stN R w vL vO vF vH vN s)(hz:r.size<=1000000)(h4:∀x∈[Cf,Df,Bg,Es],(wd.toList==x.data.toList)=false)(lO:∀W:World,ya 46 #[.string wd] W (.tuple #[.int .i64 (n:Nat),.bool true]))(hn:(Aj 32 r).length=n)(HCH:∀(R':Nat->Prop) (uL uO uF uH uN:Value) (g c B:Nat) (W:World),stN R' W uL uO uF uH uN s->own 9 B W (.slice (P_ g) n c) (Aj 32 r)->Calls Tryz.prog 47 #[y5 uL uO uF uH uN s,.string wd,.slice (P_ g) n c] W (Bs R' s' a W)):
 Calls Tryz.prog 12 #[y5 vL vO vF vH vN s,.string wd,.string r] w (Bs R s' (a) w):=by
 refine' ZLk;have HM:Hid (∀(g c B:Nat) W,B_ w W->own 9 B W (.slice (P_ g) n c) (Aj 32 r)->Calls Tryz.prog 47 #[.agg (y_ s AL cL AO cO AF cF AH cH AN cN),.string wd,.slice (P_ g) n c] W (Bs (cut R w.heap.size (w.heap.size+2)) s' a W)):=fun g c B W hW ho=>HCH _ _ _ _ _ _ g c B W (hS.cut hW) ho
 clear HCH;refine' ZYz;go_wp2_with (first|refine' ZLl|(go_at_call 47;refine(HM.out _ _ _ _ k1.lay O5.out).mono ?_;refine' ZY0)|(refine' ZLm;have ar:=k1.lt))
 refine' iH;refine' ZLn;exact Bs.fin f8.out L2.out
theorem Lb(R:Nat->Prop)(vL vO vF vH vN s wd r n a w)(hS:stN R w vL vO vF vH vN s)(hz:r.size<=1000000)(h4:∀x∈[Cf,Df,Bg,Es],(wd.toList==x.data.toList)=false)(lO:∀W:World,ya 46 #[.string wd] W (.tuple #[.int .i64 (n:Nat),.bool false]))(hn:(Aj 32 r).length=n)(RI:∀(R':Nat->Prop) (uL uO uF uH uN:Value) (g c B:Nat) (W:World),stN R' W uL uO uF uH uN s->own 9 B W (.slice (P_ g) n c) (Aj 32 r)->C_ 48 #[y5 uL uO uF uH uN s,.string wd,.slice (P_ g) n c] W (.string (Em a))):
 Calls Tryz.prog 12 #[y5 vL vO vF vH vN s,.string wd,.string r] w (Bs R s (a) w):=by
 refine' ZLk;have HM:Hid (∀(g c B:Nat) W,B_ w W->own 9 B W (.slice (P_ g) n c) (Aj 32 r)->C_ 48 #[.agg (y_ s AL cL AO cO AF cF AH cH AN cN),.string wd,.slice (P_ g) n c] W (.string (Em a))):=fun g c B W hW ho=>RI R _ _ _ _ _ g c B W (hS.on (Ct.below R hW)) ho
 clear RI;refine' ZYz;go_wp2_with (first|refine' ZLl|(refine' ZLm;have tC:=k1.drew))
 go_region_held3 (fun W=>duo w 36 (y_ s AL cL AO cO AF cF AH cH AN cN) false W) (first|(with_reducible exact tC)|(with_reducible exact k3)|exact gA|fail) (first|(go_at_call 48;(with_reducible refine(HM.out _ _ _ _ tC.lay O5.out.drew).mono ?_);refine' gX;have k3:=tC.below z3;refine' ZHG)|fail)
 all_goals
  refine' Th;clear k0 aq k1 tC k3 hr e0 e1 e2 e3 e4 e5 e6 e7 f0 f1 f2 f3 f4 f5 f6 f7
  refine' ZY1;exact W6
theorem ZDG(b w)(hz:b.size≠42):
 C_ 101 #[.string b] w (.tuple #[.string ⟨#[]⟩,.bool false]):=by
 have h1:¬(b.size:Int)=42:=ZA
 go_enter func101,ntmps101
 refine' ZQ;exact zv
theorem ZAn(b w)(hz:b.size=42):
 C_ 101 #[.string b] w (.tuple #[.string (Hr b),.bool (Fb b)]):=by
 have HG:Hid (∀(k:Nat) (W:World),B_ w W->Calls Tryz.prog 183 #[.string (b.extract (1+5*k) (6+5*k))] W fun e w'=>e=.returned (.int .i64 (if Gk b k=10 then -1 else(Gk b k:Int)))/\B_ w w'):=fun k W hW=>
  (Ah9 _ W).mono fun e W' h=>⟨h.1,hW.trans (h.2.mono hW.size)⟩
 have GV:Hid (∀(d:Nat) (_:d<10) (W:World),B_ w W->Calls Tryz.prog 28 #[.int .i64 (d:Int)] W fun e w'=>e=.returned (.string (xx d))/\B_ w w'):=fun d hd W hW=>
  (Vv hd (w:=W)).mono fun e W' h=>⟨h.1,hW.trans (h.2.mono hW.size)⟩
 have HTWO:Hid (∀k,k<=8->2<=Dn b k->Fb b=false):=fun k=>BcE
 have ca:Hid (Fb b=false->Hr b=⟨#[]⟩):=fun h=>by unfold Hr;rw[h];rfl
 have HZ:=aA hz;refine' zk;have qU:Hid (∀k,Gk b k<=10):=fun k=>ZD6 _
 go_enter func101,ntmps101
 refine' ZC;go_loopw[4,5,6] (fun t lo i wr=>∃(k:Nat) (L:Int),k<=8/\i=.int .i64 k/\t=.string (v_ (u_ b) k)/\lo=.int .i64 L/\Hid ((L= -1/\Dn b k=0)\/(∃u:Nat,L=u/\u<k/\Dn b k=1/\Gk b u=10))/\B_ w wr) (fun _ _ i _=>8 - (intOf i).toNat)
 case atStart=>exact⟨0, -1,aN _,rfl,rfl,rfl,.inl ⟨rfl,rfl⟩,l0⟩
 case round=>
  obtain⟨k,L,hk,rfl,rfl,rfl,HL,lr⟩:=hrel;refine' zd;clear l0;by_cases ab:k<8
  .have bd:(k:Int)<8:=ZA
   have PO:=aA (HG.out k);have DN:=qU.out k;have uk:Hid (Dn b (k+1)=Dn b k+if Gk b k=10 then 1 else 0):=rfl;have HDS:Hid (u_ b k=if Gk b k=10 then 0 else Gk b k):=rfl;have wU:=aA (AnL (u_ b) (n:=k) (AmW b k));have cm:=AfH (u_ b) k;have wm:aD.wrap (5*(k:Int))=5*(k:Int):=bG _ ZA;have wa:aD.wrap (1+5*(k:Int))=1+5*(k:Int):=bG _ ZA;have wb:aD.wrap (6+5*(k:Int))=6+5*(k:Int):=bG _ ZA;have n1:(1+5*(k:Int)).toNat=1+5*k:=ZA
   have n2:(6+5*(k:Int)).toNat=6+5*k:=ZA
   have i1:(0:Int)<=1+5*(k:Int):=ZA
   have i2:1+5*(k:Int)<=6+5*(k:Int):=ZA
   have i3:6+5*(k:Int)<=42:=ZA
   obtain⟨P,hP⟩:∃P,v_ (u_ b) k=P:=⟨_,rfl⟩;rw[hP]at wU cm⊢;obtain⟨G,hGE⟩:∃G,b.extract (1+5*k) (6+5*k)=G:=⟨_,rfl⟩;rw[hGE]at PO;clear hP;by_cases hg:Gk b k=10
   .have AG:Hid (∀W:World,B_ w W->Calls Tryz.prog 183 #[.string G] W fun e w'=>e=.returned (.int .i64 (-1))/\B_ w w'):=by{have h:=PO.out;rw[aQ hg]at h;exact h};have ie:Dn b (k+1)=Dn b k+1:=by{rw[uk.out,aQ hg]};have tM:u_ b k=0:=by{rw[HDS.out,aQ hg]};rw[tM]at wU;have HD0:=aA (GV.out 0 ZA);have tI:(xx 0).size=1:=rfl;have qj:¬9223372036854775807<P.size+(xx 0).size:=ZA
    have HGX:=aA hg;generalize xx 0=X at *;clear hg tM PO DN;rcases HL.out with⟨hL,h0⟩|⟨u,hL,hu,h1,SW⟩
    .subst hL
     have nG:Hid ((((k:Int)= -1/\Dn b (k+1)=0)\/(∃u:Nat,(k:Int)=u/\u<k+1/\Dn b (k+1)=1/\Gk b u=10))):=.inr ⟨k,rfl,ZA,ZA,HGX.out⟩;clear h0 ie
     refine' ZWs;go_roundw
     case rel=>exact⟨k+1,k,ZA,ZJ,by rw[wU.out],rfl,nG.out,l5⟩
     case measure=>exact ZK
    .subst hL
     have HR:Hid (Fb b=false):=HTWO.out (k+1) ZA ZA;have HT:=aA (ca.out HR.out);have MF:(0:Int)<=(u:Int):=ZA
     clear h1 ie SW
     go_wp2_with (refine' ZWt)
     go_ret2;exact⟨by rw[HR.out,HT.out]<;>rfl,l4⟩
   .have AG:Hid (∀W:World,B_ w W->Calls Tryz.prog 183 #[.string G] W fun e w'=>e=.returned (.int .i64 (Gk b k:Int))/\B_ w w'):=by{have h:=PO.out;rw[aM hg]at h;exact h};have ie:Dn b (k+1)=Dn b k:=by{rw[uk.out,aM hg];rfl};have tM:u_ b k=Gk b k:=by{rw[HDS.out,aM hg]};have PP:Gk b k<10:=ZA
    rw[tM]at wU;have nG:Hid ((L= -1/\Dn b (k+1)=0)\/(∃u:Nat,L=u/\u<k+1/\Dn b (k+1)=1/\Gk b u=10)):=by
     rcases HL.out with⟨h1,h2⟩|⟨u,h1,h2,h3,h4⟩
     .exact .inl ⟨h1,by rw[ie];exact h2⟩
     .exact .inr ⟨u,h1,ZA,by rw[ie];exact h3,h4⟩
    clear HL ie tM hg PO uk HDS;generalize Gk b k=d at *;have HD0:=aA (GV.out d PP);have tI:(xx d).size=1:=rfl;have qj:¬9223372036854775807<P.size+(xx d).size:=ZA
    generalize xx d=X at *
    refine' ZWs;go_roundw
    case rel=>exact⟨k+1,L,ZA,ZJ,by rw[wU.out],rfl,nG.out,l5⟩
    case measure=>exact ZK
  .have hk8:k=8:=ZA
   subst hk8;have jb:Ea (v_ (u_ b) 8).data.toList=true:=AoB fun k _=>AmW b k
   have cm:=AfH (u_ b) 8;rcases HL.out with⟨hL,h0⟩|⟨u,hL,hu,h1,SW⟩
   .subst hL
    obtain⟨r1,r2⟩:=BaZ HZ.out h0;have js:=aA (fun W=>ZBS (v_ (u_ b) 8) W jb cm);rw[<-r1]at js;have HX:=aA r2;have h7:(7:Int)<=((v_ (u_ b) 8).size:Int):=ZA
    generalize v_ (u_ b) 8=P at *;clear r1 r2 jb h0 HL cm;cases hr:Fb b
    .have HT:=aA (ca.out hr)
     exact ZWu
    .have HT:=aA (HX.out hr)
     exact ZWu
   .subst hL
    obtain⟨X,hX⟩:∃X,(v_ (u_ b) 8).extract 0 u++xx (Kv (v_ (u_ b) 8).data.toList)++(v_ (u_ b) 8).extract (u+1) 8=X:=⟨_,rfl⟩;obtain⟨r1,r2,r3,r4,r5⟩:=Bc9 HZ.out h1 hu SW X hX;have js:Hid (∀W,ya 184 #[.string X] W (.bool true)):=fun W=>by{have:=ZBS X W r3 r4;rw[aL r5]at this;exact this};have DB:=aA (fun W=>ZBW (v_ (u_ b) 8) W jb ZA);have SI:=AeV (v_ (u_ b) 8).data.toList;generalize Kv (v_ (u_ b) 8).data.toList=q at *;have HDQ:=aA (GV.out q SI);have hdq:(xx q).size=1:=rfl;have HXE:=aA hX;have GC:=aA r2;have z1:((v_ (u_ b) 8).extract 0 u).size=u:=zL
    generalize v_ (u_ b) 8=P at *;generalize xx q=D at *;have hu0:(0:Int)<=(u:Int):=ZA
    have hu1:(u:Int)<=(P.size:Int):=ZA
    have rx:(u:Int)+1<=(P.size:Int):=ZA
    have hu3:(0:Int)<=(u:Int)+1:=ZA
    have wu:aD.wrap ((u:Int)+1)=(u:Int)+1:=bG _ ZA;have nu:((u:Int)+1).toNat=u+1:=ZA
    have sn:¬9223372036854775807<(P.extract 0 u).size+D.size:=ZA
    have HZ3:Hid (P.extract (u+1) P.size=P.extract (u+1) 8):=by{show _=_;rw[show P.size=8 by omega]};have z3:(P.extract (u+1) P.size).size<=8:=zL
    have qj:¬9223372036854775807<(P.extract 0 u).size+D.size+(P.extract (u+1) P.size).size:=ZA
    have ld:=Ag lr;have hrX:Hid (P.extract 0 u++D++P.extract (u+1) P.size=X):=by{show _=_;rw[HZ3.out];exact HXE.out};have h7:(7:Int)<=(X.size:Int):=ZA
    obtain⟨P1,hP1⟩:∃P1,P.extract 0 u=P1:=⟨_,rfl⟩;obtain⟨P2,hP2⟩:∃P2,P.extract (u+1) P.size=P2:=⟨_,rfl⟩;rw[hP1,hP2]at hrX qj;rw[hP1]at sn;clear hX r2 r3 r5 jb h1 SW HL z1 z3 cm hdq;have i6:=aA r1;clear r1
    refine' ZC;go_region_held3 (fun W=>B_ w W) (first|exact ld|exact l4|fail) (first|(go_at_call 166;(with_reducible refine(DB.out _).mono ?_);refine' Zb)|(go_at_call 28;(with_reducible refine(HDQ.out _ ld).mono ?_);rintro e w4 ⟨rfl,l4⟩)|fail)
    all_goals
     rw[hrX.out]
     go_wp2_with (go_at_call 184;refine' iB)
     go_ret2;exact⟨by rw[GC.out,i6.out]<;>rfl,l4⟩
theorem AbN(b w):
 C_ 101 #[.string b] w (.tuple #[.string (Hr b),.bool (Fb b)]):=by
 by_cases hz:b.size=42
 .exact ZAn b w hz
 .have ho:Fb b=false:=by unfold Fb;rw[beq_eq_false_iff_ne.2 hz];rfl
  have ht:Hr b=⟨#[]⟩:=by unfold Hr;rw[ho];rfl
  rw[ho,ht];exact ZDG b w hz
theorem Ax1(p):(Hf p).extract 0 3++⟨#[45]⟩++(Hf p).extract 3 5++⟨#[45]⟩++(Hf p).extract 5 (Hf p).size=Pm p:=by obtain⟨x,y,z,u,v,r,s,e1,e2⟩:=ZDe p;rw[e1,e2];rfl
theorem BbS(c):Jk (jS c)=true:=by
 unfold jS
 split
 .rename_i h;exact(ZAs h).2
 .decide
theorem AcD(p w)(hp:Jk p=true):
 C_ 181 #[.agg #[.int .i64 p.area,.int .i64 p.walk,.int .i64 p.point]] w (.string (Pm p)):=by
 obtain⟨w0,ac⟩:∃u,u=w.alloc (aB #[.int .i64 p.area,.int .i64 p.walk,.int .i64 p.point] 147):=⟨_,rfl⟩;refine' Wn;have JX:=aA (Ar9 p w0 hp);have HF:=aA (Ax1 p);have hz:=ZB4 p;have HW:=aA ac;clear ac hp;generalize Hf p=c at *;generalize Pm p=F at *;have s1:(c.extract 0 3).size<=3:=zL
 have s2:(c.extract 3 5).size<=2:=zL
 have s3:(c.extract 5 c.size).size<=2:=zL
 have g0:(3:Int)<=(c.size:Int):=ZA
 have g1:(5:Int)<=(c.size:Int):=ZA
 obtain⟨a,ha⟩:∃a,c.extract 0 3=a:=⟨_,rfl⟩;obtain⟨b,hb⟩:∃a,c.extract 3 5=a:=⟨_,rfl⟩;obtain⟨d,hd⟩:∃a,c.extract 5 c.size=a:=⟨_,rfl⟩;rw[ha,hb,hd]at HF;rw[ha]at s1;rw[hb]at s2;rw[hd]at s3;have a1:¬9223372036854775807<a.size+1:=ZA
 have a2:¬9223372036854775807<a.size+1+b.size:=ZA
 have a3:¬9223372036854775807<a.size+1+b.size+1:=ZA
 have a4:¬9223372036854775807<a.size+1+b.size+1+d.size:=ZA
 clear hz;go_enter func181,ntmps181
 refine' ZC;rw[<-HW.out];refine JX.out.mono ?_;refine' ZU;have K1:=aA (Aa HT.out b1);clear b1
 refine' ZC;go_quiet (fail)
 refine' ZI;exact⟨B8 HF.out,Ba K1.out _⟩
theorem AmZ(c w)(hz:c.size=7):
 Calls Tryz.prog 180 #[.string c] w fun e w'=>∃o:Bool,e=.returned (.tuple #[.agg #[.int .i64 (jS c).area,.int .i64 (jS c).walk,.int .i64 (jS c).point],.bool o])/\B_ w w':=by
 unfold jS;cases hc:Ap c
 .have js:Hid (∀W:World,ya 94 #[.string c] W (.bool false)):=fun W=>ZQh
  refine' ZGY;clear hc;show Calls Tryz.prog _ _ _ fun e w'=>∃o:Bool,e=.returned (.tuple #[.agg #[.int .i64 0,.int .i64 0,.int .i64 0],.bool o])/\B_ w w'
  refine' ZQi;first
   |(refine Ax rfl rfl ga.out eC rfl Tryz.sizePlc rfl ?_;exact⟨false,rfl,kO.out⟩)
   |(refine Ax rfl rfl (Bp ga.out) eC rfl Tryz.sizePlc rfl ?_;exact⟨false,rfl,Ai (Ai (Ai kO.out (aC _) _) (aC _) _) (aC _) _⟩)
 .exact(Ac4 c w hc).mono fun e w' h=>⟨true,h.1,h.2⟩
theorem ZCj(t w)(hz:t.size≠9):
 C_ 99 #[.string t] w (.tuple #[.agg #[.int .i64 0,.int .i64 0,.int .i64 0],.bool false]):=by
 have h9:¬(t.size:Int)=9:=ZA
 refine' ZGY;clear hz;go_enter func99,ntmps99
 exact ZVX
theorem AaF(t w)(hz:t.size=9):
 Calls Tryz.prog 99 #[.string t] w fun e w'=>∃p:Plc,e=.returned (.tuple #[.agg #[.int .i64 p.area,.int .i64 p.walk,.int .i64 p.point],.bool (Fk t)])/\(Fk t=true->Hf p=c3 t)/\Jk p=true/\B_ w w':=by
 obtain⟨ie,jd⟩:=AxD hz;have gm:(c3 t).size=7:=by unfold c3;simp only[aY,dB];omega
 have QJ:Hid (t.extract 0 3++t.extract 4 6++t.extract 7 9=c3 t):=rfl;have z1:(t.extract 0 3).size<=3:=zL
 have z2:(t.extract 4 6).size<=2:=zL
 have z3:(t.extract 7 9).size<=2:=zL
 have mg:=aA (fun W=>AmZ (c3 t) W gm);have d9:=aA (BbS (c3 t));have LB:=aA (fun W=>AcD (jS (c3 t)) W d9.out);have ff:=aA ie;have f8:=aA jd;clear ie jd gm;obtain⟨a,ha⟩:∃a,t.extract 0 3=a:=⟨_,rfl⟩;obtain⟨b,hb⟩:∃a,t.extract 4 6=a:=⟨_,rfl⟩;obtain⟨d,hd⟩:∃a,t.extract 7 9=a:=⟨_,rfl⟩;rw[ha,hb,hd]at QJ;rw[ha]at z1;rw[hb]at z2;rw[hd]at z3;have a1:¬9223372036854775807<a.size+b.size:=ZA
 have a2:¬9223372036854775807<a.size+b.size+d.size:=ZA
 obtain⟨p,ED⟩:∃p,Hid (jS (c3 t)=p):=⟨_,rfl⟩;rw[ED.out]at mg LB d9 ff f8;generalize c3 t=c at *;refine' ZIr;have hzw:w0.heap.size=w.heap.size+1:=by rw[ac];simp
 have LC:=aA hzw;clear hzw;refine' Uh;have gp:a++b++d=c:=QJ.out;go_enter func99,ntmps99
 refine' ZC;rw[<-HW.out];have ld:=Ag (aF w0.heap.size w0)
 go_region_law (first|(go_simp;go_at_call 180;(with_reducible refine(mg.out _).mono ?_);rintro e w1 ⟨o,rfl,b1⟩;first|(have b1:=b1;have l1:=Aa (Ae ld (aB #[.int .i64 0,.int .i64 0,.int .i64 0] 147)) b1;have lR:w1.heap[w0.heap.size]? =some (.cells #[.int .i64 0,.int .i64 0,.int .i64 0] 147 (0,0)):=E3 (bC w0.drew (aB #[.int .i64 0,.int .i64 0,.int .i64 0] 147)) b1;obtain⟨c0,c1,c2,f0,f1,f2⟩:=B7 lR)|(have l1:=Aa ld b1)))
 .obtain⟨W2,bg⟩:∃u,u=w1.alloc (aB #[.int .i64 p.area,.int .i64 p.walk,.int .i64 p.point] 147):=⟨_,rfl⟩
  have ar:=l1.size;have ju:W2.heap[w1.heap.size]? =some (.cells #[.int .i64 p.area,.int .i64 p.walk,.int .i64 p.point] 147 (0,0)):=by rw[bg];exact bC w1 _
  have dq:W2.heap[w.heap.size]? =some (.cells #[.int .i64 0,.int .i64 0,.int .i64 0] 147 (0,0)):=by rw[bg];have ab:=(Array.getElem?_eq_some_iff.1 ga.out).1;exact(dL _ _ _ (bR ab ar)).trans ((l1.block _ ab).trans ga.out)
  have lw:B_ w W2:=by rw[bg];exact Aa HT.out (Ae l1 _)
  have LE:=aA lw;refine' YD;clear bg ar;refine' ZWv;obtain⟨c0,c1,c2,_,_,_⟩:=B7 ju;clear dq ju lw l1 b1 ld;cases hq:zU (Pm p) t
  .refine' ZWw;exact ZWx
  .refine' ZWy;exact ZWz
 .obtain⟨W2,bg⟩:∃u,u=((w1.setCell ⟨w0.heap.size,0,none⟩ (.int .i64 p.area)).setCell ⟨w0.heap.size,1,none⟩ (.int .i64 p.walk)).setCell ⟨w0.heap.size,2,none⟩ (.int .i64 p.point):=⟨_,rfl⟩
  have ar:=LC.out;have ju:W2.heap[w0.heap.size]? =some (.cells #[.int .i64 p.area,.int .i64 p.walk,.int .i64 p.point] 147 (0,0)):=by rw[bg];exact Bp lR
  have dq:W2.heap[w.heap.size]? =some (.cells #[.int .i64 0,.int .i64 0,.int .i64 0] 147 (0,0)):=by
   have ab:=(Array.getElem?_eq_some_iff.1 ga.out).1;have ay:w.heap.size≠w0.heap.size:=ZA
   rw[bg,bQ _ _ _ _ ay,bQ _ _ _ _ ay,bQ _ _ _ _ ay];exact(l1.block _ ab).trans ga.out
  have lw:B_ w W2:=by rw[bg];exact Ai (Ai (Ai (Aa HT.out l1) ZK2 _) ZK2 _) ZK2 _
  have LE:=aA lw;refine' YD;clear bg ar lR;refine' ZWv;clear dq ju lw l1 b1 ld;cases hq:zU (Pm p) t
  .refine' ZWw;clear f0 f1 f2;exact ZWx
  .refine' ZWy;clear f0 f1 f2;exact ZWz
theorem AeA(t w):
 Calls Tryz.prog 99 #[.string t] w fun e w'=>∃p:Plc,e=.returned (.tuple #[.agg #[.int .i64 p.area,.int .i64 p.walk,.int .i64 p.point],.bool (Fk t)])/\(Fk t=true->Hf p=c3 t)/\Jk p=true/\B_ w w':=by
 by_cases h:t.size=9
 .exact AaF t w h
 .have hp:Fk t=false:=by unfold Fk;rw[show(t.size==9)=false by exact zI];rfl
  refine(ZCj t w h).mono ?_;rintro e w' ⟨rfl,hb⟩;exact⟨⟨0,0,0⟩,by rw[hp],fun h=>absurd (hp.symm.trans h) ZF,ZE,hb⟩
theorem AdU(vb xs f w)(hb:R_ w vb xs)(i7:f.size<=maxLen):
 Calls Tryz.prog 185 #[vb,.string f] w fun e w'=>∃vA vB,e=.returned (.tuple #[vA,vB,.bool (Re f xs)])/\own 119 w.heap.size w' vA (Kw f xs)/\own 119 w.heap.size w' vB (Ts f xs)/\apart vA vB/\B_ w w':=by
 refine' Uz;refine' zm;refine' ZVY;obtain⟨wA,ae⟩:∃u,u=w.alloc (aB #[] 119):=⟨_,rfl⟩;obtain⟨wB,ai⟩:∃u,u=wA.alloc (aB #[] 119):=⟨_,rfl⟩;have oA:own (α:=Ltr) 119 w.heap.size wA (.slice (P_ w.heap.size) 0 0) []:=ZLD
 refine' ZLE;refine' O_;have oB:own (α:=Ltr) 119 w.heap.size wB (.slice (some ⟨w.heap.size+1,0,none⟩) 0 0) []:=ZXH
 have DL:own (α:=Ltr) 119 w.heap.size wB (.slice (P_ w.heap.size) 0 0) []:=by rw[ai];exact oA.alloc _
 refine' ZXI;have rR:=aA (C6 _ xs wB (HB.out.on lB));clear ae ai oA lA;go_enter func185,ntmps185;cases h1:z_ xs
 .have HF:Hid (Re f xs=false):=z7
  rw[h1]at rR;clear h1
  refine' ZLX;refine' zX;exact ZXl
 have kw:=Cq h1;refine' fE;rw[h1]at rR;clear h1;cases h2:Jr f
 .have HF:Hid (Re f xs=false):=Ww
  have HP:=aA (fun W=>dig f W i7);rw[h2]at HP;clear h2
  refine' ZLX;go_wp2_with (go_at_call 253;refine(HP.out _).mono ?_;refine' ZP)
  go_ret3
  exact ZXl
 have HP:=aA (fun W=>dig f W i7);rw[h2]at HP;refine' ZVZ;refine' ZLX;clear DL oB lB b1
 go_wp2_with (go_at_call 253;refine(HP.out _).mono ?_;refine' ZP)
 go_loopw[7,8,9] (fun a b i wr=>∃k:Nat,k<=xs.length/\i=.int .i64 k/\B_ w wr/\own 119 w.heap.size wr a (jI f (xs.take k))/\own 119 w.heap.size wr b (jJ f (xs.take k))/\Hid (apart a b)) (fun _ _ i _=>xs.length - (intOf i).toNat)
 case atStart=>exact⟨0,aN _,rfl,l1.out,o1.out,o2.out,lp.out⟩
 case round=>
  refine' Uy;clear l1 o1 o2;by_cases ab:k<xs.length
  .refine' ZVa;have y0:=c1 w3 lr;have y1:=c2 w3 lr;have l4:=lr;have jm:=HA;have bu:=HB;refine' ZIF;clear c1 c2
   refine' ZC;refine(ZCo x.code f _ fj i7).mono ?_;cases hf:pre x.code f
   rotate_left
   .refine' fO;refine' Ux;clear hf
    go_wp2_with (at_builtin;refine An (α:=Ltr) rfl (.tmp 35) (.tmp 40) 27 rfl w.heap.size 119 i1 _ 24 aV ji dr du dw rfl ZE (.slice AA sa.length cA) sa x rfl (jm.out.alloc _) ⟨w3.heap.size,0,none⟩ 1 (Ltr.cells x) rfl ⟨⟨fq,fj⟩,rfl⟩ (Bz w3 _ (Ltr.cells x)) ZN ZA ZH ?_;refine' zH)
    exact ZIE
   .refine' fO;refine' ZEz;clear hf
    go_wp2_with (at_builtin;refine An (α:=Ltr) rfl (.tmp 42) (.tmp 47) 27 rfl w.heap.size 119 i1 _ 24 aV ji dr du dw rfl ZE (.slice AB bs.length cB) bs x rfl (bu.out.alloc _) ⟨w3.heap.size,0,none⟩ 1 (Ltr.cells x) rfl ⟨⟨fq,fj⟩,rfl⟩ (Bz w3 _ (Ltr.cells x)) ZN ZA ZH ?_;refine' zH)
    exact R7
  exact R6
theorem AcC(vb xs f w)(hb:R_ w vb xs)(i7:f.size<=maxLen):
 C_ 102 #[vb,.string f] w (.int .i64 (Fw xs f)):=by
 have HS:=aA (AdU vb xs f w hb i7);refine' ZVb;cases ag:Re f xs
 all_goals
  rw[ag]at HS;clear ag;go_enter func102,ntmps102
  refine' ZVc
 .exact⟨rfl,B1.out⟩
 .exact⟨Bo (by rw[HN.out]),B1.out⟩
theorem ArU(p xs k):(Fz p xs k).length<=16/\(Fz p xs k).flatten.length<=60/\(Li p xs k).length<=60:=by
 unfold Fz Li
 split
 .rename_i h
  refine' ZVx;refine⟨by rw[Hz];omega,Cq (Lq _ _ h.2),?_⟩;unfold Bn;exact aI (bL _ _) h2
 .exact⟨ZE,ZE,ZE⟩
theorem ZDx(v vb p xs k w)(hv:rdP w w.heap.size v p)(hb:R_ w vb xs):
 Calls Tryz.prog 256 #[v,vb,.int .i64 k] w fun e w'=>∃vB vO,e=.returned (.tuple #[vB,vO,.bool (Qm p xs k)])/\R_ w' vB (Fz p xs k)/\R_ w' vO (Li p xs k)/\B_ w w':=by
 refine' ZK6;clear ac ah;have ca:Hid (∀h:Qm p xs k=false,Fz p xs k=[]/\Li p xs k=[]):=fun h=>by unfold Fz Li;rw[h];exact ZW
 have HQ:Hid (Qm p xs k=((Bq p&&(decide (0<=k)&&decide (k<p.passes)))&&z_ xs)):=rfl;obtain⟨AL,nL,cL,rfl, -, -, -, -⟩:=HB.out;have LG:=aA (Ok _ _ p xs _ HP.out HB.out);go_enter func256,ntmps256;cases h1:(Bq p&&z_ xs)
 .have HF:Hid (Qm p xs k=false):=ZNM
  rw[h1]at LG;clear h1;refine' ZW5;refine' zX;exact ZW6
 refine' ZHZ;have kw:=Cq hh.2;have H1:=aA hh;rw[h1]at LG;clear h1 hh;have wp:aD.wrap (p.passes - 1)=p.passes - 1:=bG _ ZA;have rj:=aA (fun W=>D0 k 0 (p.passes - 1) W);cases h2:(decide (0<=k)&&decide (k<=p.passes - 1))
 .have HF:Hid (Qm p xs k=false):=ZNN
  rw[h2]at rj;clear h2;refine' ZW5;go_wp2_with (refine' ZGs)
  go_ret3
  exact ZW6
 have HF:Hid (Qm p xs k=true):=ZNO
 have fp:0<=k/\k<=p.passes - 1:=by rw[aO,bD,bD]at h2;exact h2
 rw[h2]at rj;clear h2;obtain⟨k,rfl⟩:=aK fp.1;have HY:Hid (Fz p xs (k:Int)=Bm (fun x=>Dm p x.code k) p.bins.toNat xs/\Li p xs (k:Int)=Bn (fun x=>Dm p x.code k) xs):=ZNp
 refine' zG;refine LG.out.mono ?_;refine' zh;go_wp2_with (refine' ZGs)
 refine(Np _ _ p xs k _ (HP.out.on l1) (HB.out.on l1) g1 g2 ZA ZA ZA).mono ?_;refine' ZH0;have l3:=Aa l1 b3;have j8:=aA (Fu.rd ⟨vs,hB⟩);have ak:=aA hR.rd;obtain⟨A1,n1,c1,rfl, -, -, -, -⟩:=hB.1.rd;obtain⟨A2,n2,c2,rfl, -, -, -, -⟩:=hR.rd;refine' zX;exact⟨_,_,Bf ZX,by rw[HY.out.1];exact j8.out,by rw[HY.out.2];exact ak.out,Aa HT.out l3⟩
theorem AiM(v vb p xs k w)(hv:rdP w w.heap.size v p)(hb:R_ w vb xs):
 Calls Tryz.prog 186 #[v,vb,.int .i64 k] w fun e w'=>∃vB vO vs,e=.returned (.tuple #[vB,vO,.bool (Qm p xs k)])/\Fi 27 119 w.heap.size w' vB (Fz p xs k) vs/\own 119 w.heap.size w' vO (Li p xs k)/\D7 vO vB vs/\B_ w w':=by
 refine' ZK6;refine' Zl;obtain⟨LH,LI,LJ⟩:=ArU p xs k;have mP:Hid ((Fz p xs k).length<=16/\(Fz p xs k).flatten.length<=60):=⟨LH,LI⟩;have xu:Hid ((Li p xs k).length<=60):=LJ;go_enter func186,ntmps186
 refine' zG;refine(ZDx _ _ p xs k _ HP.out HB.out).mono ?_;rintro e w1 ⟨vB,vO,rfl,rB,rO,b1⟩;have l1:=Aa l0 b1;obtain⟨xv,tt⟩:∃z,Hid (Fz p xs k=z):=⟨_,rfl⟩;obtain⟨zs,BY⟩:∃z,Hid (Li p xs k=z):=⟨_,rfl⟩;rw[tt.out]at rB mP;rw[BY.out]at rO xu;have RB:=aA rB;have RO:=aA rO;obtain⟨AO,nO,cO,rfl,hnO,_,_,_⟩:=rO;subst hnO;have mK:=mP.out;have hlr:=xu.out
 refine' ZC;refine(ZCb _ xv _ RB.out ZA ZA).mono ?_;rintro e w2 ⟨vB2,ir,rfl,vz,b2⟩;have l2:=Aa l1 b2;have kV:=aA vz;have BZ:Hid (own (α:=Ltr) 119 w2.heap.size (w2.alloc (aB #[] 119)) (.slice (P_ w2.heap.size) 0 0) []):=own.made0 w2 _ (aC _);have la:B_ w2 (w2.alloc (aB #[] 119)):=Ae (aF _ _) _;have EE:=aA ((RO.out.on b2).on la)
 go_wp2_with (at_builtin;refine Cu (α:=Ltr) rfl (.tmp 22) (.tmp 23) 27 rfl w2.heap.size 119 i1 _ 24 aV ji dr du dw rfl ZE (.slice (P_ w2.heap.size) 0 0) [] rfl BZ.out (.slice AO zs.length cO) zs rfl (w2.alloc (aB #[] 119)).heap.size EE.out V5 ZH la.size ?_;intro v' w3 mz er _)
 have b3:B_ w2 w3:=la.trans (Ay BZ.out er la.size);rw[bT]at mz;have ez:=aA mz;have tG:Hid (D7 v' vB2 ir):=⟨Dd ez.out kV.out.1 (aC _),fun i hi=>Dd ez.out (kV.out.2.2.1 i hi (by have:=kV.out.2.1;omega)) (aC _)⟩;have ep:=aA (kV.out.below b3);refine' YG;go_ret3
 exact⟨_,_,ir,rfl,by rw[tt.out];exact ep.out.base_ (aI bj l1.size),by rw[BY.out];exact ez.out.base_ (aI bj l2.size),tG.out,Aa HT.out l3⟩
theorem AiV(v vb p xs k w)(hv:rdP w w.heap.size v p)(hb:R_ w vb xs):
 Calls Tryz.prog 104 #[v,vb,.int .i64 k] w fun e w'=>∃v',e=.returned v'/\own 3 w.heap.size w' v' ((Gs p xs k).map fun n:Nat=>(n:Int))/\B_ w w':=by
 refine' ZK6;refine' ZVy;obtain⟨wE,QW⟩:∃u,u=w0.alloc (aB #[] 3):=⟨_,rfl⟩;have oE:own (α:=Int) 3 w0.heap.size wE (.slice (P_ w0.heap.size) 0 0) []:=by rw[QW];exact own.made0 w0 _ (aC _)
 have lE:B_ w0 wE:=by rw[QW];exact Ae l0 _
 have ED:=aA (AiM _ _ p xs k wE (HP.out.on lE) (HB.out.on lE));obtain⟨AL,nL,cL,rfl, -, -, -, -⟩:=HB.out;have HWE:=aA QW;have cm:(Value.slice (P_ w0.heap.size) 0 0)=.slice (some ⟨w.heap.size+1,0,none⟩) 0 0:=by rw[kA.out]
 rw[cm]at oE;refine' ZVz;go_enter func104,ntmps104
 refine' ZC;rw[<-di.out,<-HWE.out];refine ED.out.mono ?_;cases ag:Qm p xs k
 .have HL:Hid (L=[]):=ZV0
  refine' ZK7;have l1:=Aa lE b1;have QX:=aA (oE.below b1);obtain⟨A1,n1,c1,rfl, -, -, -, -⟩:=qc.1.rd;refine' ZGe;have dc:=aA (Aa HT.out l1);refine' ZC;go_loopw[7,11] (fun t i wr=>i=.int .i64 0/\t=.slice (some ⟨w.heap.size+1,0,none⟩) 0 0/\wr=w1) (fun _ _ _=>0)
  case atStart=>exact⟨rfl,rfl,rfl⟩
  case round=>
   obtain⟨rfl,rfl,rfl⟩:=hrel
   go_wp2_with fail
   all_goals go_ret;exact⟨_,rfl,by rw[HL.out];exact QX.out.base_ bj,dc.out⟩
 .have mK:bins.length<=16:=ZV2
  refine' ZK7;have l1:=Aa lE b1;have QX:=oE.below b1;refine' ZGe;have CA:Hid (D7 (.slice (some ⟨w.heap.size+1,0,none⟩) 0 0) vB vs):=⟨R8 oE qc.1 (aC _),fun i hi=>R8 oE (qc.2.2.1 i hi (by have:=qc.2.1;omega)) (aC _)⟩;have av:=qc.base_ lE.size;obtain⟨A1,n1,c1,rfl,dy, -, -, -⟩:=(Fu.rd ⟨vs,qc⟩:R_ w1 vB bins);subst dy;have ga:=aA av;have sK:=aA QX;refine' ZV3;refine' ZC;go_loopw[7,11] (fun t i wr=>∃j:Nat,j<=bins.length/\i=.int .i64 j/\B_ w0 wr/\own 3 w0.heap.size wr t ((L.map fun n:Nat=>(n:Int)).take j)/\Fi 27 119 w0.heap.size wr (.slice A1 bins.length c1) bins vs/\Hid (D7 t (.slice A1 bins.length c1) vs)) (fun _ i _=>bins.length - (intOf i).toNat)
  case atStart=>exact⟨0,aN _,rfl,l1,by rw[dH];exact sK.out,ga.out,CA.out⟩
  case round=>
   obtain⟨j,hj,rfl,lr,ho,hB,f9⟩:=hrel;refine' zO;have j8:=aA hB;by_cases ab:j<bins.length
   .obtain⟨A1',n1',qi,EF,j9,gp,xw,cj⟩:=(Fu.rd ⟨vs,hB⟩:R_ w2 _ bins)
    cases EF;obtain⟨b,o,u,jr,hb,hu,y1⟩:=cj.rowU j ab;subst jr;replace y1:=y1 w2 (aF _ _);have nt:Hid ((L.map fun n:Nat=>(n:Int)).take (j+1)=(L.map fun n:Nat=>(n:Int)).take j++[((bins[j].length:Nat):Int)]):=by
     show _=_;rw[aJ za]
     congr 2
     simp[HE.out]
    have BJ:bins[j].length<=60:=um.out.2 _ ZV4;generalize bins[j]=ys at *;obtain⟨A3,m3,c3,rfl,vE,_,_,_⟩:=hu;subst vE;have jV:((L.map fun n:Nat=>(n:Int)).take j).length<=16:=zF
    generalize(L.map fun n:Nat=>(n:Int)).take j=D at *;refine' ZK8;have jd:=lr.size;have ly:(j:Int)<(bins.length:Int):=ZA
    refine' ZGE;go_wp2_with (at_builtin;refine An (α:=Int) rfl (.tmp 30) (.tmp 36) 61 rfl w0.heap.size 3 i0 _ 8 iP hi ah ar ap rfl ZE (.slice Ad D.length cd) D ((ys.length:Nat):Int) rfl (HO.out.alloc _) ⟨w2.heap.size,0,none⟩ 1 [.int .i64 ((ys.length:Nat):Int)] rfl ⟨ZS,rfl⟩ (Bz w2 _ [.int .i64 ((ys.length:Nat):Int)]) ZN ZA ZH ?_;refine' zH)
    have l5:B_ w0 w5:=(lr.alloc lr.size (aB #[.int .i64 ((ys.length:Nat):Int)] 3)).grown aj ZH fun r e=>(HO.out.blk r e).1
    have kX:=aA (Aq6 (j8.out.below ((aF _ _).alloc (aC _) _)) f9.out aj);have mC:=aA (Kj (n:=D.length+1) (c:=cap) j8.out f9.out cy ZF);refine' Xz;go_roundw
    case rel=>exact⟨j+1,ZA,ZJ,l5,by rw[nt.out];exact iu.out,kX.out,mC.out⟩
    case measure=>exact ZK
   .have LL:Hid ((L.map fun n:Nat=>(n:Int)).take j=L.map fun n:Nat=>(n:Int)):=bB Uq
    have ly:¬(j:Int)<(bins.length:Int):=ZA
    rw[LL.out]at ho;refine' zY;refine' ZK9;refine' ZI;exact⟨_,rfl,HO.out.base_ bj,Aa HT.out lr⟩
theorem stS.made{w wA}{T:TypeId}{cs}(h:wA=w.alloc (.cells cs T)):stS w w.heap.size T cs wA:=by subst h;exact⟨(aF _ _).alloc (aC _) _,bC w _⟩
theorem BaH(R:Nat->Prop)(vL vO vF vH vN s f B g c w)(hS:stN R w vL vO vF vH vN s)(hf:own 9 B w (.slice (P_ g) 1 c) [f])(hz:f.size<=maxLen)(hp:Ap f=true->1<=(Kz f).size)(hl:(Kz f).size<=1000)(hi:(if Ap f then Kz f else⟨#[]⟩)=Kz f):
 C_ 48 #[y5 vL vO vF vH vN s,.string Gn,.slice (P_ g) 1 c] w (.string (Em (Kz f))):=by
 refine' Zo;show Calls Tryz.prog _ #[.agg (y_ s AL cL AO cO AF cF AH cH AN cN),.string Gn,.slice (P_ g) 1 c] w _;refine' YL;have HC:Hid (∀W,stS w w.heap.size 36 (y_ s AL cL AO cO AF cF AH cH AN cN) W->C_ 66 #[.string f] W (.tuple #[.string (Kz f),.bool (Ap f)])):=fun W h0=>have hW:=h0.lay;ApD f W hz
 have eo:Hid (∀W,ya 43 #[.bool (Ap f),.string (Kz f)] W (.string (Em (if Ap f then Kz f else⟨#[]⟩)))):=fun W=>Lt (Ap f) (Kz f) W ZA hp
 refine' Z0;rw[hi]at eo;clear hz hp hl hi;generalize Kz f=V at *;generalize Ap f=O at *;refine' gI;refine' ZXm;refine' gB;go_wp2_with (go_at_call 66;refine' ZLY)
 refine' ZGy;exact⟨rfl,K.out⟩
theorem BaU(R:Nat->Prop)(vL vO vF vH vN s f B g c w)(hS:stN R w vL vO vF vH vN s)(hf:own 9 B w (.slice (P_ g) 1 c) [f])(hz:f.size<=maxLen)(hp:Fb f=true->1<=(Hr f).size)(hl:(Hr f).size<=1000)(hi:(if Fb f then Hr f else⟨#[]⟩)=Hr f):
 C_ 48 #[y5 vL vO vF vH vN s,.string Ga,.slice (P_ g) 1 c] w (.string (Em (Hr f))):=by
 refine' Zo;show Calls Tryz.prog _ #[.agg (y_ s AL cL AO cO AF cF AH cH AN cN),.string Ga,.slice (P_ g) 1 c] w _;refine' YL;have HC:Hid (∀W,stS w w.heap.size 36 (y_ s AL cL AO cO AF cF AH cH AN cN) W->C_ 101 #[.string f] W (.tuple #[.string (Hr f),.bool (Fb f)])):=fun W h0=>have hW:=h0.lay;AbN f W
 have eo:Hid (∀W,ya 43 #[.bool (Fb f),.string (Hr f)] W (.string (Em (if Fb f then Hr f else⟨#[]⟩)))):=fun W=>Lt (Fb f) (Hr f) W ZA hp
 refine' Z0;rw[hi]at eo;clear hz hp hl hi;generalize Hr f=V at *;generalize Fb f=O at *;refine' gI;refine' ZXn;refine' gB;go_wp2_with (go_at_call 101;refine' ZLY)
 refine' ZGy;exact⟨rfl,K.out⟩
theorem BaA(R:Nat->Prop)(vL vO vF vH vN s f B g c w)(hS:stN R w vL vO vF vH vN s)(hf:own 9 B w (.slice (P_ g) 1 c) [f])(hz:f.size<=maxLen):
 C_ 48 #[y5 vL vO vF vH vN s,.string He,.slice (P_ g) 1 c] w (.string (Em (Yt f))):=by
 refine' Zo;show Calls Tryz.prog _ #[.agg (y_ s AL cL AO cO AF cF AH cH AN cN),.string He,.slice (P_ g) 1 c] w _;refine' YL;have HC:Hid (∀W,Calls Tryz.prog 99 #[.string f] W fun e w'=>∃p:Plc,e=.returned (.tuple #[.agg #[.int .i64 p.area,.int .i64 p.walk,.int .i64 p.point],.bool (Fk f)])/\(Fk f=true->Hf p=c3 f)/\Jk p=true/\B_ W w'):=fun W=>AeA f W
 have JX:Hid (∀(p:Plc) W,Jk p=true->C_ 100 #[.agg #[.int .i64 p.area,.int .i64 p.walk,.int .i64 p.point]] W (.tuple #[.string (Hf p),.bool true])):=fun p W h=>Ar9 p W h
 have eo:Hid (∀(p:Plc) W,ya 43 #[.bool (Fk f),.string (Hf p)] W (.string (Em (if Fk f then Hf p else⟨#[]⟩)))):=fun p W=>Lt (Fk f) (Hf p) W (by have:=ZB4 p;omega) (fun _=>by have:=ZB4 p;omega)
 have HV:Hid (∀p:Plc,(Fk f=true->Hf p=c3 f)->(if Fk f then Hf p else⟨#[]⟩)=Yt f):=fun p h=>by
  unfold Yt
  split
  .rename_i h2;exact h h2
  .rfl
 refine' Z0;clear hz;generalize Fk f=O at *;refine' gI;refine' ZIv;refine' gB;go_wp2_with (go_at_call 99;go_loud (refine' Wf;rintro e u1 ⟨p,rfl,hcp,ag,z1⟩;have k1:=k0.below z1;obtain⟨uP,hP⟩:∃u,u=u1.alloc (aB #[.int .i64 p.area,.int .i64 p.walk,.int .i64 p.point] 147):=⟨_,rfl⟩;have lR:uP.heap[u1.heap.size]? =some (.cells #[.int .i64 p.area,.int .i64 p.walk,.int .i64 p.point] 147 (0,0)):=(by subst hP;exact bC u1 _);have k2:stS w w.heap.size 36 (y_ s AL cL AO cO AF cF AH cH AN cN) uP:=(by subst hP;exact k1.alloc _);obtain⟨c0,c1,c2,f0,f1,f2⟩:=B7 lR;have HUP:=aA hP;clear hP))
 rw[<-HUP.out];refine(JX.out p _ ag).mono ?_;refine' gX;have k3:=k2.below z3;have IN:=aA (eo.out p);rw[HV.out p hcp]at IN;clear k2 c0 c1 c2 f0 f1 f2 lR hcp ag
 go_wp2_with (go_at_call 43;refine(IN.out _).mono ?_;refine' ZP)
 have K:=aA k3.lay;exact WH
theorem AyB(R:Nat->Prop)(vL vO vF vH vN s f B g c w)(hS:stN R w vL vO vF vH vN s)(hf:own 9 B w (.slice (P_ g) 1 c) [f])(hz:f.size<=maxLen)(gx: -1<=Fw s.letters f)(dy:Fw s.letters f<=9999):
 C_ 48 #[y5 vL vO vF vH vN s,.string Eo,.slice (P_ g) 1 c] w (.string (Em (G1 (Fw s.letters f)))):=by
 refine' Zo;show Calls Tryz.prog _ #[.agg (y_ s AL cL AO cO AF cF AH cH AN cN),.string Eo,.slice (P_ g) 1 c] w _;refine' YL;have HC:Hid (∀W,stS w w.heap.size 36 (y_ s AL cL AO cO AF cF AH cH AN cN) W->C_ 102 #[.slice AL s.letters.length cL,.string f] W (.int .i64 (Fw s.letters f))):=fun W h0=>have hW:=h0.lay;AcC _ s.letters f W (hS.l.rd.on hW) hz
 have tJ:=aA (fun W=>Ji (Fw s.letters f) W gx dy);have eo:=aA (fun W=>Lt (decide (0<=Fw s.letters f)) (jL (Fw s.letters f)) W (by have:=(BdF _ dy).2;omega) (fun _=>(BdF _ dy).1));rw[Ap7 _ gx]at eo;refine' Nb;refine' WD;refine' Z0;clear hz gx dy;generalize G1 (Fw s.letters f)=NT at *;generalize Fw s.letters f=n at *;generalize jL n=D at *;refine' gI;refine' ZXo;refine' gB;go_region_held3 (fun W=>stS w w.heap.size 36 (y_ s AL cL AO cO AF cF AH cH AN cN) W) (first|exact aq|exact k1|fail) (first|(go_at_call 102;refine' ZGz)|fail)
 all_goals refine' ZLZ
 all_goals have K:=aA k2.lay;exact WH
theorem AzN(R:Nat->Prop)(vL vO vF vH vN s f B g c w)(hS:stN R w vL vO vF vH vN s)(hf:own 9 B w (.slice (P_ g) 1 c) [f])(hz:f.size<=maxLen)(hi:Bj s.day.plan.bins/\Bj s.day.plan.passes)(gx: -1<=Hl s.day.plan f)(dy:Hl s.day.plan f<=9999):
 C_ 48 #[y5 vL vO vF vH vN s,.string Fj,.slice (P_ g) 1 c] w (.string (Em (G1 (Hl s.day.plan f)))):=by
 refine' Zo;show Calls Tryz.prog _ #[.agg (y_ s AL cL AO cO AF cF AH cH AN cN),.string Fj,.slice (P_ g) 1 c] w _;refine' YL;refine' Vc;have HC:Hid (∀W,stS w w.heap.size 36 (y_ s AL cL AO cO AF cF AH cH AN cN) W->C_ 103 #[.agg #[.int .i64 s.day.plan.bins,.int .i64 s.day.plan.passes,.slice AO s.day.plan.order.length cO],.string f] W (.int .i64 (Hl s.day.plan f))):=fun W h0=>have hW:=h0.lay;Ai7 _ s.day.plan f W (pU.on hW)
 have tJ:=aA (fun W=>Ji (Hl s.day.plan f) W gx dy);have eo:=aA (fun W=>Lt (decide (0<=Hl s.day.plan f)) (jL (Hl s.day.plan f)) W (by have:=(BdF _ dy).2;omega) (fun _=>(BdF _ dy).1));rw[Ap7 _ gx]at eo;refine' Nb;refine' WD;refine' Z0;clear hz gx dy hi pU;generalize G1 (Hl s.day.plan f)=NT at *;generalize Hl s.day.plan f=n at *;generalize jL n=D at *;refine' gI;refine' ZXp;refine' gB;go_region_held3 (fun W=>stS w w.heap.size 36 (y_ s AL cL AO cO AF cF AH cH AN cN) W) (first|exact aq|exact k1|fail) (first|(go_at_call 103;refine' ZGz)|fail)
 all_goals refine' ZLZ
 all_goals have K:=aA k2.lay;exact WH
theorem Aw8{L:List Nat}{LT}(h:LT=if L.length=0 then⟨#[]⟩else Cb (L.map Cl)):Em (if decide (0<L.length)then Cb (L.map Cl)else⟨#[]⟩)=Em LT:=by
 rw[h];by_cases h0:L.length=0
 .rw[aQ h0,aM (by simp[h0])]
 .rw[aM h0,aQ (aL ZA)]
theorem BbU{b:Y_}(h:b.size=0):(b.toList==[])=true:=by rw[bU,dI];exact List.length_eq_zero_iff.1 zI
theorem AwO(R:Nat->Prop)(vL vO vF vH vN s f B g c w)(hS:stN R w vL vO vF vH vN s)(hf:own 9 B w (.slice (P_ g) 1 c) [f])(hz:f.size<=maxLen)(hi:Bj s.day.plan.bins/\Bj s.day.plan.passes):
 C_ 48 #[y5 vL vO vF vH vN s,.string Ds,.slice (P_ g) 1 c] w (.string (Em (Vs s.day.plan s.letters (Am f)))):=by
 refine' Zo;show Calls Tryz.prog _ #[.agg (y_ s AL cL AO cO AF cF AH cH AN cN),.string Ds,.slice (P_ g) 1 c] w _;refine' YL;refine' Vc;have HI:Hid (∀W,stS w w.heap.size 36 (y_ s AL cL AO cO AF cF AH cH AN cN) W->C_ 93 #[.string f] W (.int .i64 (Am f))):=fun W h0=>have hW:=h0.lay;by refine(Gh f W hz).mono ?_;refine' ZP;exact zv
 have HC:Hid (∀W,stS w w.heap.size 36 (y_ s AL cL AO cO AF cF AH cH AN cN) W->Calls Tryz.prog 104 #[.agg #[.int .i64 s.day.plan.bins,.int .i64 s.day.plan.passes,.slice AO s.day.plan.order.length cO],.slice AL s.letters.length cL,.int .i64 (Am f)] W fun e w'=>∃v',e=.returned v'/\own 3 W.heap.size w' v' ((Gs s.day.plan s.letters (Am f)).map fun n:Nat=>(n:Int))/\B_ W w'):=fun W h0=>have hW:=h0.lay;AiV _ _ s.day.plan s.letters (Am f) W (pU.on hW) (hS.l.rd.on hW)
 have qE:=Oy s.day.plan s.letters (Am f);have HNU:=aA (fun(v:Value) (W:World) (h:R_ W v ((Gs s.day.plan s.letters (Am f)).map fun n:Nat=>(n:Int)))=>AfI v (Gs s.day.plan s.letters (Am f)) W h ZA (fun n hn=>by have:=qE.2 n hn;omega));have ma:Hid (Vs s.day.plan s.letters (Am f)=if(Gs s.day.plan s.letters (Am f)).length=0 then⟨#[]⟩else Cb ((Gs s.day.plan s.letters (Am f)).map Cl)):=rfl;have sj:=Aj4 (Gs s.day.plan s.letters (Am f)) ZA (fun n hn=>by have:=qE.2 n hn;omega);refine' Nb;refine' WD;refine' Z0;clear hz hi pU;have eo:=aA (fun W=>Lt (decide (0<(Gs s.day.plan s.letters (Am f)).length)) (Cb ((Gs s.day.plan s.letters (Am f)).map Cl)) W ZA (fun _=>sj.1));rw[Aw8 ma.out]at eo;generalize Vs s.day.plan s.letters (Am f)=LT at *;generalize Gs s.day.plan s.letters (Am f)=L at *;generalize Am f=k at *;refine' gI;refine' ZXq;refine' gB;go_region_held3 (fun W=>stS w w.heap.size 36 (y_ s AL cL AO cO AF cF AH cH AN cN) W) (first|exact aq|exact k2|exact k1|fail) (first|(go_at_call 93;first|((with_reducible refine(HI.out _ (by first|exact aq)).mono ?_);refine' Zy;have k1:=stS.below (by first|exact aq) z1)|fail)|(go_at_call 104;first|((with_reducible refine(HC.out _ (by first|exact k1|exact aq)).mono ?_);rintro e u2 ⟨v5,rfl,o5,z2⟩;have k2:=stS.below (by first|exact k1|exact aq) z2;obtain⟨A5,n5,c5,rfl,DE,_,_,_⟩:=o5.rd;have JS:n5=L.length:=(by rw[DE,bI]);subst JS;have O5:=aA o5;clear o5 DE)|fail)|fail)
 all_goals
  have DF:=O5.out.rd;have QH:=aA (HNU.out _ _ DF);clear DF
  go_wp2_with (first|(go_at_call 105;refine QH.out.mono ?_;refine' gX;have k3:=k2.below z3)|(refine' ZG0))
 all_goals have K:=aA k3.lay;exact WH
theorem AqX(R:Nat->Prop)(vL vO vF vH vN s f B g c w)(hS:stN R w vL vO vF vH vN s)(hf:own 9 B w (.slice (P_ g) 1 c) [f])(hz:f.size<=maxLen)(hk:Be s.day.fwds=true):
 C_ 48 #[y5 vL vO vF vH vN s,.string Cc,.slice (P_ g) 1 c] w (.string (Em (Nv s.day.fwds f))):=by
 refine' Zo;show Calls Tryz.prog _ #[.agg (y_ s AL cL AO cO AF cF AH cH AN cN),.string Cc,.slice (P_ g) 1 c] w _;refine' YL;have HC:Hid (∀W,stS w w.heap.size 36 (y_ s AL cL AO cO AF cF AH cH AN cN) W->C_ 106 #[.slice AF s.day.fwds.length cF,.string f] W (.tuple #[.string (rSv s.day.fwds f).1,.int .i64 ((rSv s.day.fwds f).2.1:Nat),.bool (rSv s.day.fwds f).2.2])):=fun W h0=>have hW:=h0.lay;AbP _ s.day.fwds f W (hS.f.rd.on hW) hz hk
 have h31:=ZEE (c:=f) hk;have h7:=ZDg (c:=f) hk;have BD:Hid (Nv s.day.fwds f=if(rSv s.day.fwds f).2.2 then(rSv s.day.fwds f).1++⟨#[32]⟩++Cl (rSv s.day.fwds f).2.1 else⟨#[]⟩):=rfl;refine' ZXr;refine' Z0;clear hz hk;generalize Nv s.day.fwds f=RT at *;generalize(rSv s.day.fwds f).2.2=R3 at *;generalize(rSv s.day.fwds f).2.1=R2 at *;generalize(rSv s.day.fwds f).1=R1 at *;have tI:=C9 (n:=R2) ZA;have tJ:=aA (fun W=>Hy R2 W ZA);have eo:=aA (fun W=>Lt R3 (R1++⟨#[32]⟩++Cl R2) W Xt (fun _=>Zp));rw[<-BD.out]at eo;generalize Cl R2=D at *;have a1:¬9223372036854775807<R1.size+1:=ZA
 have a2:¬9223372036854775807<R1.size+1+D.size:=ZA
 refine' gI;refine' ZXs;refine' gB;go_region_held3 (fun W=>stS w w.heap.size 36 (y_ s AL cL AO cO AF cF AH cH AN cN) W) (first|exact aq|exact k1|fail) (first|(go_at_call 106;refine' ZGz)|fail)
 all_goals refine' ZLZ
 all_goals have K:=aA k2.lay;exact WH
theorem Ba8(R:Nat->Prop)(vL vO vF vH vN s f B g c w)(hS:stN R w vL vO vF vH vN s)(hf:own 9 B w (.slice (P_ g) 1 c) [f])(hz:f.size<=maxLen)(hi:Bj s.day.plan.bins/\Bj s.day.plan.passes/\Bj s.day.size)(hk:Be s.day.fwds=true):
 C_ 48 #[y5 vL vO vF vH vN s,.string Dl,.slice (P_ g) 1 c] w (.string (Em (Ys s.day f))):=by
 refine' Zo;show Calls Tryz.prog _ #[.agg (y_ s AL cL AO cO AF cF AH cH AN cN),.string Dl,.slice (P_ g) 1 c] w _;refine' YL;refine' ZLW;have HC:Hid (∀W,stS w w.heap.size 36 (y_ s AL cL AO cO AF cF AH cH AN cN) W->C_ 107 #[.agg #[.int .i64 s.day.plan.bins,.int .i64 s.day.plan.passes,.slice AO s.day.plan.order.length cO,.slice AF s.day.fwds.length cF,.slice AH s.day.held.length cH,.int .i64 s.day.size],.string f] W (.tuple #[.string (Nh s.day f).1,.string (Nh s.day f).2])):=fun W h0=>have hW:=h0.lay;ApT _ s.day f W (BF.on hW) hz
 have h7:=AbA (c:=f) hk;have BD:Hid (Ys s.day f=if(Nh s.day f).2.size=0 then⟨#[]⟩else(Nh s.day f).1++⟨#[32]⟩++(Nh s.day f).2):=rfl;refine' ZXt;refine' ZXu;refine' Z0;clear hz hk hi BF;generalize Ys s.day f=RT at *;generalize(Nh s.day f).2=R2 at *;generalize(Nh s.day f).1=R1 at *;have a1:¬9223372036854775807<R1.size+1:=ZA
 have a2:¬9223372036854775807<R1.size+1+R2.size:=ZA
 refine' gI;refine' ZXv;refine' gB;go_region_held3 (fun W=>stS w w.heap.size 36 (y_ s AL cL AO cO AF cF AH cH AN cN) W) (first|exact aq|exact k1|fail) (first|(go_at_call 107;refine' ZGz)|fail)
 all_goals
  cases hq:(R2.toList==[])
  .have ay:¬R2.size=0:=fun h=>by rw[BbU h]at hq;cases hq
   have eo:=aA (fun W=>D4 (R1++⟨#[32]⟩++R2) W Xt);have DG:Hid (Em RT=R1++⟨#[32]⟩++R2++⟨#[10]⟩):=by{show _=_;rw[BD.out,aM ay];exact Fh Zp};clear ay
   refine' ZGy;exact⟨B8 (by rw[DG.out]),K.out⟩
  .have ah:R2.size=0:=by rw[bU,dI]at hq;have:=aU List.length hq;exact zV
   have eo:=aA (fun W=>Fa (R1++⟨#[32]⟩++R2) W);have DG:Hid (Em RT=⟨#[110,111,10]⟩):=by{show _=_;rw[BD.out,aQ ah];exact Jw};clear ah
   refine' ZGy;exact⟨B8 (by rw[DG.out]),K.out⟩
end Go.Proofs.YtfadhdacjpmmeaaGreatDoor
namespace Go.Proofs
open Go.Proofs.YtfadhdacjpmmeaaGreatDoor
open Go.Shelf
def Tryz.laysIns2_ren:Go.Shelf.Ren:=⟨fun|22=>241|29=>298|30=>299|36=>341|17=>361|n=>n,fun|24=>28|9=>9|3=>3|4=>4|0=>0|n=>n,fun|n=>n⟩
theorem Tryz.laysIns2:Go.Proofs.Lays2.n22 Tryz.prog Tryz.laysIns2_ren:={
 mixed:=ZB
 f17:=func361.trans (aU some ZB)
 f22:=func241.trans (aU some ZB)
 f29:=func298.trans (aU some ZB)
 f30:=func299.trans (aU some ZB)
 f36:=func341.trans (aU some ZB)
 t0:=ZB2
 a0:=ZD5
 z0:=AtK
 v0:=AhQ
 t3:=AqT
 a3:=ZB3
 z3:=ZDZ
 v3:=ZBH
 t4:=ZCP
 a4:=ZDK
 z4:=ZD1
 v4:=ZBc
 t9:=ZBl
 a9:=ZCT
 z9:=ZCv
 v9:=ZDn
 t24:=aW
 a24:=isAgg28
 z24:=sizeOf28
 v24:=zeroValue28
 i9:=ZB}
end Go.Proofs
namespace Go.Proofs.YtfadhdacjpmmeaaGreatDoor
open Go.RowKit
theorem ZEW{α:Type}[Flat α]{P w ops rest o a}{Q:Exit->Act->World->Prop}(nW:o.guard=none)(s x:Operand)(t:TypeId)
 (ho:o.op=.call {callee:=.builtin .append,args:=#[s,x],argTypes:=#[t,t]})
 (base) (e:TypeId) (i:TypeInfo) (ht:P.underlying t=some (.slice e)) (hi:P.info? e=some i)
 (cw:i.size=El.size α) (g c xs) (y:α) (hs:a.eval s=.slice (P_ g) xs.length c) (ft:own e base w (.slice (P_ g) xs.length c) xs)
 (ad c' cs) (hx:a.eval x=.slice (some ad) 1 c') (lx:El.el w w.heap.size y cs) (fa:∀j u,cs[j]? =some u->w.cell? (ad.add j)=some u)
 (qh:xs.length+1<=c)
 (h:∀w',own e base w' (.slice (P_ g) (xs.length+1) c) (xs++[y])->w.grownBy w' (some g)->wpList P ops Q rest (a.put o.dst (.slice (P_ g) (xs.length+1) c)) w'):wpList P ops Q (o::rest) a w:=by
 refine' Tz;refine' ZWH;have uw:cs.length=1*i.size:=by rw[El.len lx,cw,iT]
 have hfit:xs.length*i.size+cs.length<=bw.size:=by rw[uw,ax,<-eW,cw];exact ZCf _ qh
 have hr:=run_append_room (P:=P) w t o.type e i ht hi g xs.length c bw hg ad 1 c' cs uw fa (El.one lx) qh hfit;have bp:(ic.flatten++cs).length=(xs.length+1)*El.size α:=by rw[aT,hrow.1,uw,cw,eW]
 refine wpList_plain nW fun K hK=>?_
 unfold Oper.wp execOp;simp only[ho,Go.resolve,Go.invoke,Go.builtin,Sem.run_bind,Sem.run_pure,Result.andThen_ok,List.map_toArray,cD,gE,hs,hx,hr];refine hK _ _ (h _ ⟨ic++[cs],⟨by simpa using bp,.inr ⟨g,c,_,ZF,hbg,setRow_heap w g bw _ e _ hg,by simpa using qh,bf,?_,?_⟩⟩,X2,fun k h1 h2=>?_⟩ ⟨rfl,rfl,rfl,ZF,fun k _ hk=>setRow_other w g k _ (fun e=>hk (by rw[e]))⟩)
 .simp only[dX,aT,bJ,dV,ZCa]
  omega
 .rw[cw,DA,bX,List.flatten_singleton,aT,cE,<-bp]
  exact List.take_left
 .exact Sq
theorem Og{g}{T:TypeId}:∀(vs:List Value) (o:Nat) (w:World) (bw:Array Value),w.heap[g]? =some (.cells bw T (0,0))->∃ub,(w.setCells g o vs).heap[g]? =some (.cells ub T (0,0))/\ub.size=bw.size
 |[],_,w,bw,h=>⟨bw,h,rfl⟩
 |v::r,o,w,bw,h=>by obtain⟨c',h1,h2⟩:=Og r (o+1) (w.setCell ⟨g,o,none⟩ v) _ (bO w g o bw T v h);exact⟨c',h1,by rw[h2];simp⟩
theorem AmV{T B g c:Nat}{w bw}(ys:List Y_)(hg:w.heap[g]? =some (.cells bw T (0,0)))(hB:B<=g)(hs:bw.size=c)(hm:c<=maxLen)(hl:ys.length<=c)
 (hc:∀k (h:k<ys.length),w.cell? ⟨g,k,none⟩=some (.string ys[k])) (hz:∀y∈ys,y.size<=maxLen):own T B w (.slice (P_ g) ys.length c) ys:=by
 have hf:(ys.map fun y=>[aG y]).flatten=ys.map aG:=by
  clear hc hz hl
  induction ys with
  |nil=>rfl
  |cons y ys ih=>rw[cD,dC,cD,ih];rfl
 refine⟨ys.map fun y=>[aG y],⟨by rw[hf,bI];show _=_*1;omega,.inr ⟨g,c,bw,rfl,hB,hg,hl,hm,by rw[hs];show _=_*1;omega,?_⟩⟩,ZF,fun k h1 h2=>?_⟩
 .rw[hf]
  show bw.toList.take (ys.length*1)=_;apply ZB8;intro k;rw[ZCy,iI];by_cases hk:k<ys.length
  .rw[aQ ZA,aR hk]
   have h1:=hc k hk;rw[eG _ _ _ _ _ _ hg]at h1;exact Xu
  .rw[aM ZA,eZ ZA]
   rfl
 .rw[fD]
  exact⟨hz _ (aS h1),rfl⟩
theorem Mg{a:World}{g}:∀{w:World},a.grownBy w (some g)->∀(vs:List Value) (o:Nat),a.grownBy (w.setCells g o vs) (some g)
 |_,h,[],_=>h
 |_,h,v::r,o=>Mg (Gc (p:=⟨g,o,none⟩) h (.inl rfl) v) r (o+1)
theorem Aq0(B g c t w xs x)(ft:own 9 B w (.slice (P_ g) xs.length c) xs)(hx:x.size<=maxLen)(qh:xs.length+1<=c)(ht:t<=xs.length):
 Calls Tryz.prog 241 #[.slice (P_ g) xs.length c,.int .i64 t,.slice (P_ w.heap.size) 1 1] (w.alloc (aB #[.string x] 9)) fun e w'=>e=.returned (.slice (P_ g) (xs.length+1) c)/\own 9 B w' (.slice (P_ g) (xs.length+1) c) (xs.take t++x::xs.drop t)/\(w.alloc (aB #[.string x] 9)).grownBy w' (some g):=by
 obtain⟨W,hW⟩:∃W,W=w.alloc (aB #[.string x] 9):=⟨_,rfl⟩;have hO:own 9 B W (.slice (P_ g) xs.length c) xs:=by rw[hW];exact ft.alloc _
 have hN:W.heap[w.heap.size]? =some (.cells #[.string x] 9 (0,0)):=by rw[hW];exact X1
 have ay:w.heap.size≠g:=by have:=(ft.blk g rfl).2;omega
 rw[<-hW];clear hW;have hz:∀y∈xs,y.size<=maxLen:=fun y hy=>by obtain⟨k,hk,rfl⟩:=bP hy;obtain⟨A,n',c',_,_,_,_,hr⟩:=hO.rd;obtain⟨_,_,_,_,h1,_⟩:=hr.str k hk;exact h1
 have jc:∀k (h:k<xs.length),W.cell? ⟨g,k,none⟩=some (.string xs[k]):=fun k h=>Bx hO k h
 have xH:∀k,W.frozen? ⟨g,k,none⟩=false:=fun k=>hO.freeAt k
 obtain⟨bw,hg,ax,hBg,bf⟩:∃bw,W.heap[g]? =some (.cells bw 9 (0,0))/\bw.size=c/\B<=g/\c<=maxLen:=by obtain⟨ic,hrow,_,_⟩:=hO;refine' ZWH;exact⟨bw,hg,by rw[ax];show c*1=c;omega,hbg,bf⟩
 have QE:∀j,j<c->(W.cell? ⟨g,0+j,none⟩).isSome=true:=fun j hj=>by rw[eG _ _ _ _ _ _ hg,bV];simp[ax,hj]
 have hl:(xs.take t++x::xs.drop t).length=xs.length+1:=ZH
 have CL:∀j v,[aG x][j]? =some v->W.cell? ⟨w.heap.size,0+j,none⟩=some v:=fun j v hv=>by rw[eG _ _ _ _ _ _ hN,bV];simpa using hv
 have h1v:∀v∈[aG x],v.oneCell'=true:=fun v hv=>by simp at hv;subst hv;rfl
 have GO:∀y∈xs.take t++x::xs.drop t,y.size<=maxLen:=fun y hy=>by
  rw[eJ,List.mem_cons]at hy;rcases hy with h|rfl|h
  .exact hz _ (eA h)
  .exact hx
  .exact hz _ (List.mem_of_mem_drop h)
 have done:∀w',(∃ub,w'.heap[g]? =some (.cells ub 9 (0,0))/\ub.size=bw.size)->(∀k (h:k<(xs.take t++x::xs.drop t).length),w'.cell? ⟨g,k,none⟩=some (.string (xs.take t++x::xs.drop t)[k]))->own 9 B w' (.slice (P_ g) (xs.length+1) c) (xs.take t++x::xs.drop t):=fun w' h1 h2=>by
  obtain⟨ub,h1,h3⟩:=h1;have:=AmV (T:=9) (B:=B) (g:=g) (c:=c) (w:=w') (xs.take t++x::xs.drop t) h1 hBg (h3.trans ax) bf ZA h2 GO
  rwa [hl]at this
 rcases gG t xs.length with ab|tX
 .have h:=Any2.slices_Insert_string_shift Tryz.laysIns2 g 0 xs.length c t w.heap.size 0 1 1 (xs.map aG) [.string x] W ab ZE qh (by unfold maxLen at bf;omega) ay ZF rfl
   (fun j v hv=>by rw[iI]at hv;obtain⟨y,hy,rfl⟩:=Option.map_eq_some_iff.1 hv;obtain⟨hj,rfl⟩:=List.getElem?_eq_some_iff.1 hy;rw[bV];exact jc j hj) (fun j hj=>QE j ZA) (fun j _=>by rw[bV];exact xH j) CL (fun v hv=>by obtain⟨y,_,rfl⟩:=List.mem_map.1 hv;rfl) h1v 9 9 1 bw.size (by simp[World.shape?,hN]) (by simp[World.shape?,hg]) ZA (frozen_of_row _ _ _ _ _ hN) (frozen_of_row _ _ _ _ _ hN)
  refine Calls.mono h ?_;refine' zW;rw[show 0+(t+1)=t+1 from bV _,show 0+t=t from bV _];have rQ:((xs.map aG).drop t).length=xs.length - t:=ZF
  have pT:∀j,j<((xs.map aG).drop t).length->(W.drew.cell? ⟨g,(t+1)+j,none⟩).isSome=true:=fun j hj=>by have:=QE (t+1+j) ZA;exact Sb
  refine⟨rfl,done _ ?_ (fun k hk=>?_),?_⟩
  .obtain⟨c1,a1,a2⟩:=Og ((xs.map aG).drop t) (t+1) W.drew bw hg
   obtain⟨c2,b1,b2⟩:=Og [.string x] t _ c1 a1;exact⟨c2,b1,b2.trans a2⟩
  .rw[hl]at hk
   rcases eT k t with h|h|h
   .rw[fI g _ _ _ _ (fun _ _=>by show k<t\/_;omega),fI g _ _ _ _ (fun _ _=>by show k<t+1\/_;omega)]
    have e:(xs.take t++x::xs.drop t)[k]=xs[k]' ZA:=ZWI
    rw[e];exact jc k ZA
   .subst h
    have e:(xs.take k++x::xs.drop k)[k]=x:=by
     rw[cC ZH];have h0:k - (xs.take k).length=0:=ZH
     simp only[h0,dE]
    rw[e];have:=ZCw g [aG x] k (W.drew.setCells g (k+1) ((xs.map aG).drop k)) (fun j hj=>by simp at hj;subst hj;rw[fI g _ _ _ _ (fun _ _=>by show k+0<k+1\/_;omega)];have:=QE k ZA;exact Sb) 0 ZF
    exact zV
   .rw[fI g _ _ _ _ (fun _ _=>by show k<t\/t+1<=k;omega)]
    have:=ZCw g ((xs.map aG).drop t) (t+1) W.drew pT (k - (t+1)) ZA;rw[show t+1+(k - (t+1))=k by omega]at this;rw[this];have e:(xs.take t++x::xs.drop t)[k]=xs[k - 1]' ZA:=by
     rw[cC ZH];have jp:k - (xs.take t).length=(k - t - 1)+1:=ZH
     simp only[jp,ZBi,iJ]
     congr 1;omega
    rw[e];simp only[iJ,fD]
    congr 3;omega
  .have hd:W.grownBy W.drew (some g):=⟨rfl,rfl,rfl,aC _,fun _ _ _=>rfl⟩
   exact Mg (Mg hd _ _) _ _
 .obtain rfl:t=xs.length:=ZA
  have h:=Any2.slices_Insert_string_end_room Tryz.laysIns2 g 0 xs.length c w.heap.size 0 1 1 [.string x] W ZE qh (by unfold maxLen at bf;omega) rfl
   (fun j hj=>by
   have:=QE (xs.length+j) ZA
   rwa [<-jT]at this) (fun j _=>xH _) CL h1v
  refine Calls.mono h ?_;refine' zW;rw[show 0+xs.length=xs.length from bV _];refine⟨rfl,done _ ?_ (fun k hk=>?_),Mg (bK _ _) _ _⟩
  .obtain⟨c1,a1,a2⟩:=Og [.string x] xs.length W bw hg
   exact⟨c1,a1,a2⟩
  .rw[hl]at hk
   rcases gG k xs.length with h|h
   .rw[fI g _ _ _ _ (fun _ _=>by show k<xs.length\/_;omega)]
    have e:(xs.take xs.length++x::xs.drop xs.length)[k]=xs[k]:=ZWI
    rw[e];exact jc k h
   .obtain rfl:k=xs.length:=ZA
    have e:(xs.take xs.length++x::xs.drop xs.length)[xs.length]=x:=by{rw[cC ZF];simp};rw[e];have:=ZCw g [aG x] xs.length W (fun j hj=>by simp at hj;subst hj;have:=QE xs.length ZA;exact Sb) 0 ZF
    exact zV
theorem AcS{α:Type}(xs:List α)(f:Nat):∀k,k<=xs.length->(wo (xs.take k) (f:Int)).length=if f<k then k - 1 else k
 |0,_=>by rw[aM (aX _)];rfl
 |k+1,h=>by
  have ih:=AcS xs f k ZA;rw[Z7 (show k<xs.length by omega)];by_cases hk:(k:Int)=(f:Int)
  .rw[aQ hk,ih,aM ZA,aQ ZA]
   omega
  .rw[aM hk,aT,cE,ih]
   by_cases h1:f<k
   .rw[aQ h1,aQ ZA];omega
   .rw[aM h1,aM ZA]
theorem Ag1(v p f t w)(hv:rdP w w.heap.size v p):
 Calls Tryz.prog 154 #[v,.int .i64 f,.int .i64 t] w fun e w'=>∃vo,e=.returned (.tuple #[.agg #[.int .i64 (Ei p f t).bins,.int .i64 (Ei p f t).passes,vo],.bool (Eg p f t)])/\own 9 w.heap.size w' vo (Ei p f t).order/\B_ w w':=by
 refine' zR;obtain⟨vo,rfl,hib,hip,jv⟩:=hv;obtain⟨A0,n0,c0,rfl,gx,wI,tV,fi⟩:=jv;subst gx;unfold maxLen at tV;have ux:=aA fi;clear fi;refine' ZKq;have Q0:=aA (Af ac 0 (.int .i64 p.bins) rfl);have Q1:=aA (Af ac 1 (.int .i64 p.passes) rfl);have Q2:=aA (Af ac 2 (.slice A0 p.order.length c0) rfl);have ah:w0.heap.size=w.heap.size+1:=by rw[ac];simp
 have j5:B_ w w0:=(Aw ac).1;obtain⟨wA,ae⟩:∃u,u=w0.alloc (aB #[.int .i64 0,.int .i64 0,.slice none 0 0] 30):=⟨_,rfl⟩;have GU:B_ w0 wA:=(Aw ae).1;have hlA:B_ w wA:=Aa j5 GU;have j4:wA.heap.size=w.heap.size+2:=by rw[ae];exact ZH
 have ml:wA.heap[w.heap.size+1]? =some (.cells #[.int .i64 0,.int .i64 0,.slice none 0 0] 30 (0,0)):=by rw[ae,<-ah];exact bC w0 _
 have mS:=aA (Fq _ p wA (HV.out.on hlA));refine' d_;refine' zT;have AE:=aA GU;have HLA:=aA hlA;have WJ:=aA ml;clear ac ae j5 GU hlA ml;have ca:Hid (Bq p=false\/f<0\/(p.order.length:Int)<=f\/t<0\/(p.order.length:Int)<=t->Eg p f t=false):=fun h=>by
  unfold Eg;rcases h with h|h|h|h|h
  .rw[h];rfl
  .rw[aP (show¬0<=f by omega)];simp
  .rw[aP (show¬f<p.order.length by omega)];simp
  .rw[aP (show¬0<=t by omega)];simp
  .rw[aP (show¬t<p.order.length by omega)];simp
 have q0:=Q0.out wA AE.out;have q1:=Q1.out wA AE.out;have q2:=Q2.out wA AE.out;go_enter func154,ntmps154
 refine' ZC;rw[<-di.out,<-au.out];refine mS.out.mono ?_;refine' ZU;have ie:=b1.size;have bv:=(b1.block (w.heap.size+1) ZA).trans WJ.out;have mF:B_ w w1:=Aa HLA.out b1;have PM:B_ w0 w1:=Aa AE.out b1;clear q0 q1 q2;have q0:=Q0.out w1 PM;have q1:=Q1.out w1 PM;have q2:=Q2.out w1 PM;have ga:=aA PM;clear b1 PM;cases hk:Bq p
 .have HQ:Hid (Eg p f t=false):=ca.out (.inl hk)
  exact Oh
 by_cases lk:f<0
 .have HQ:Hid (Eg p f t=false):=ca.out (.inr (.inl lk))
  refine' gV;exact Oh
 by_cases rY:(p.order.length:Int)<=f
 .have HQ:Hid (Eg p f t=false):=ca.out (.inr (.inr (.inl rY)))
  refine' gV;exact Oh
 by_cases ht0:t<0
 .have HQ:Hid (Eg p f t=false):=ca.out (.inr (.inr (.inr (.inl ht0))))
  refine' gV;exact Oh
 by_cases yd:(p.order.length:Int)<=t
 .have HQ:Hid (Eg p f t=false):=ca.out (.inr (.inr (.inr (.inr yd))))
  refine' gV;exact Oh
 obtain⟨fn,rfl⟩:=aK (show 0<=f by omega);obtain⟨tn,rfl⟩:=aK (show 0<=t by omega);have wF:fn<p.order.length:=ZA
 have KU:tn<p.order.length:=ZA
 have HQ:Hid (Eg p (fn:Int) (tn:Int)=true):=by show _=_;unfold Eg;rw[hk,aL (show(0:Int)<=(fn:Int) by omega),aL (show(fn:Int)<p.order.length by omega),aL (show(0:Int)<=(tn:Int) by omega),aL (show(tn:Int)<p.order.length by omega)];rfl
 have HR:Hid (Ei p (fn:Int) (tn:Int)=⟨p.bins,p.passes,Ju p.order fn tn⟩):=Ac6 HQ.out;have JJ:=(De.1 hk).2.1.2;clear hk;obtain⟨pb,pp,po⟩:=p;simp only at HR HQ Q0 Q1 Q2 ux hib hip wF KU JJ rY yd q0 q1 q2;obtain⟨i0,hi,hz00,ar,ap⟩:=dD Tryz.infoStr;have fo:∀W:World,Sem.run Tryz.prog (Instr.makeSlice 28 (.int .i64 0) (.int .i64 (po.length:Int))) W=.ok (.slice (P_ W.heap.size) 0 po.length) (W.alloc (aB (bF #[.string ⟨#[]⟩] po.length) 9)):=fun W=>by have h:=run_make (P:=Tryz.prog) (w:=W) 28 9 i0 _ aW hi hz00 .i64 .i64 0 (po.length:Int) ZA ZA zi ZA;rw[ar,eF]at h;simp only[bE]at h;exact h
 have me:Hid ((bF #[aG ⟨#[]⟩] po.length).size=po.length):=size_madeCells _ _;have th:Hid (Ju po fn tn=(wo po (fn:Int)).take tn++(po.getD fn ⟨#[]⟩::(wo po (fn:Int)).drop tn)):=rfl;have ma:=aA (AcS po fn);have nt:=aA (fun k (h:k<po.length)=>Z7 h (fn:Int));have it:=aA bv;have IX:=aA mF;have jr:decide ((fn:Int)<0)=false:=aP ZA;have j3:decide (po.length<=fn)=false:=aP ZA;have hA3:decide ((tn:Int)<0)=false:=aP ZA;have hA4:decide (po.length<=tn)=false:=aP ZA;have HFN:=aA wF;have HTN:=aA KU;clear wF KU rY yd lk ht0;clear bv mF;have vW:=Q2.out (w1.alloc (aB (bF #[aG ⟨#[]⟩] po.length) 9)) (Ae ga.out _)
 refine' ZC;have qd:own (α:=Y_) 9 w1.heap.size (w1.alloc (aB (bF #[aG ⟨#[]⟩] po.length) 9)) (.slice (P_ w1.heap.size) 0 po.length) (wo (po.take 0) (fn:Int)):=own.madeCap w1 _ (aC _) _ po.length ZN (by rw[me.out];exact(eF _).symm);have l0:B_ w1 (w1.alloc (aB (bF #[aG ⟨#[]⟩] po.length) 9)):=(aF _ _).alloc (aC _) _;have sK:=aA qd;clear fo qd q0 q1 q2 vW;generalize w1.alloc (aB (bF #[aG ⟨#[]⟩] po.length) 9)=wz at *
 go_loopw[8,44] (fun a i wr=>∃k:Nat,k<=po.length/\i=.int .i64 k/\a=.slice (P_ w1.heap.size) (wo (po.take k) (fn:Int)).length po.length/\own 9 w1.heap.size wr (.slice (P_ w1.heap.size) (wo (po.take k) (fn:Int)).length po.length) (wo (po.take k) (fn:Int))/\B_ w1 wr) (fun _ i _=>po.length - (intOf i).toNat)
 case atStart=>exact⟨0,aN _,rfl,rfl,sK.out,l0⟩
 case round=>
  obtain⟨k,hk,rfl,rfl,hA,lr⟩:=hrel;refine' zd;clear l0 sK;have mQ:=lr.size;by_cases ab:k<po.length
  .obtain⟨b,o,rfl,hb,pI,y1⟩:=rdA.strU ux.out k ab
   have y1:=y1 w3 (Aa IX.out lr);have HT:=aA (nt.out k ab);have bp:(wo (po.take k) (fn:Int)).length+1<=po.length:=by
    have:=ma.out k hk
    split at this<;>omega
   generalize po[k]=x at *;generalize wo (po.take k) (fn:Int)=sa at *;have HA:=aA hA;clear hA;have bd:(k:Int)<(po.length:Int):=ZA
   by_cases he:(k:Int)=(fn:Int)
   .have hkf:k=fn:=ZA
    have HS:Hid (wo (po.take (k+1)) (fn:Int)=sa):=ZVf
    clear HT he;subst hkf
    refine' ZC;go_roundw
    case rel=>exact⟨k+1,ZA,ZJ,ZFL,by rw[HS.out];exact HA.out,lr⟩
    case measure=>exact ZK
   .have hkf:¬k=fn:=ZA
    have HS:Hid (wo (po.take (k+1)) (fn:Int)=sa++[x]):=ZVg
    clear HT
    go_wp2_with (at_builtin;refine ZEW (α:=Y_) rfl (.tmp 52) (.tmp 54) 28 rfl w1.heap.size 9 i0 aW hi ar w1.heap.size po.length sa x rfl (HA.out.alloc _) ⟨w3.heap.size,0,none⟩ 1 [.string x] rfl ⟨pI,rfl⟩ (Bz w3 _ [.string x]) bp ?_;intro w5 cg aj)
    have l5:B_ w1 w5:=(Ae lr (aB #[aG x] 9)).grown aj ZH fun q hq=>by{injection hq with hq;omega};refine' Xz;clear cg aj;go_roundw
    case rel=>exact⟨k+1,ZA,ZJ,by rw[HS.out,aT,cE],by rw[HS.out,aT,cE];exact iu.out,l5⟩
    case measure=>exact ZK
  .have HE:=aA (show k=po.length by omega)
   have wF:=HFN.out;have KU:=HTN.out;have HA:Hid (own 9 w1.heap.size w3 (.slice (P_ w1.heap.size) (wo po (fn:Int)).length po.length) (wo po (fn:Int))):=by{have h:=hA;rw[HE.out,bA]at h;exact h};have HEL:Hid (wo (po.take k) (fn:Int)=wo po (fn:Int)):=by{show _=_;rw[HE.out,bA]};rw[HEL.out];have de:(wo po (fn:Int)).length+1<=po.length/\po.length<=(wo po (fn:Int)).length+1:=by{have:=ma.out po.length (aC _);rw[bA,aQ wF]at this;omega};obtain⟨hwl1,hwl2⟩:=de;obtain⟨b,o,rfl,hb,pI,y1⟩:=rdA.strU ux.out fn wF;have y1:=y1 w3 (Aa IX.out lr);have HX:Hid (po.getD fn ⟨#[]⟩=po[fn]):=by{show _=_;rw[bH,aR wF];rfl};generalize po[fn]=x at *;generalize wo po (fn:Int)=sa at *;have HINS:=aA (Aq0 w1.heap.size w1.heap.size po.length tn w3 sa x HA.out pI ZA ZA);have q0:=Q0.out w3 (Aa ga.out lr);have q1:=Q1.out w3 (Aa ga.out lr);have q2:=Q2.out w3 (Aa ga.out lr);have bd:(fn:Int)<(po.length:Int):=ZA
   clear hA HEL
   go_wp2_with (go_at_call 241;(with_reducible refine HINS.out.mono ?_);rintro e w4 ⟨rfl,o4,g4⟩;have l4:B_ w1 w4:=(Ae lr (aB #[aG x] 9)).grown g4 ZH (fun q hq=>by injection hq with hq;omega);have ju:=(l4.block (w.heap.size+1) ZA).trans it.out;obtain⟨a0,a1,a2,e0,e1,e2⟩:=B7 ju;have bu:=aA ju;have O4:=aA o4;have L4:=aA l4;clear q0 q1 q2;have q0:=Q0.out w4 (Aa ga.out l4);have q1:=Q1.out w4 (Aa ga.out l4);have q2:=Q2.out w4 (Aa ga.out l4);clear ju o4 l4 g4)
   refine Ax rfl rfl (Bp bu.out) iM rfl Tryz.sizePlK rfl ?_;exact⟨_,ZKx,by rw[HR.out];show own _ _ _ _ (Ju po fn tn);rw[th.out,HX.out];exact own.base_ (Bd (Bd (Bd O4.out ⟨w.heap.size+1,0,none⟩ _ (show w.heap.size+1<w1.heap.size by omega)) ⟨w.heap.size+1,1,none⟩ _ (show w.heap.size+1<w1.heap.size by omega)) ⟨w.heap.size+1,2,none⟩ _ (show w.heap.size+1<w1.heap.size by omega)) (show w.heap.size<=w1.heap.size by omega),Ai (Ai (Ai (Aa IX.out L4.out) Tm _) Tm _) Tm _⟩
theorem Bd4(f):Bj (Am f):=by
 unfold Am
 split
 .have h:=Lp (d:=Mj f) (ng:=Kn f)
  show Bj (N5 (Mj f) (Kn f));exact ZS
 .exact ZS
theorem AyS(B d s vH f g w)(hD:Bv B w d s vH)(hB:B<=w.heap.size)(hT:I4 w)(i7:f.size<=maxLen)(JA:g.size<=maxLen)(hi:Bj s.day.plan.bins/\Bj s.day.plan.passes):
 Calls Tryz.prog 59 #[.pointer (P_ d),.string C0,.string f,.string g] w (Bb B d (if Eg s.day.plan (Am f) (Am g)then{s with day:={s.day with plan:=Ei s.day.plan (Am f) (Am g)}}else s) vH (if Eg s.day.plan (Am f) (Am g)then E7 (Ei s.day.plan (Am f) (Am g))else⟨#[]⟩) w):=by
 refine' zJ;have HT:=aA hT;obtain⟨vL,vO,vF,vN,os,⟨c0,c1,c2,c3,c4,c5,c6,c7⟩,xH,hL,hO,hF,hH,hN,hAP⟩:=Ca hD;obtain⟨AO,nO,cO,rfl, -, -, -, -⟩:=hO.rd;have rQ:=hD.lt;have qW:=aA (fun W=>Fg f W i7);have uM:=aA (fun W=>Fg g W JA);generalize Am f=n1 at *;generalize Am g=n2 at *;refine' ZKs;have HM:Hid (∀W,B_ w W->Calls Tryz.prog 154 #[.agg #[.int .i64 s.day.plan.bins,.int .i64 s.day.plan.passes,.slice AO nO cO],.int .i64 n1,.int .i64 n2] W fun e w'=>∃vo,e=.returned (.tuple #[.agg #[.int .i64 (Ei s.day.plan n1 n2).bins,.int .i64 (Ei s.day.plan n1 n2).passes,vo],.bool (Eg s.day.plan n1 n2)])/\own 9 W.heap.size w' vo (Ei s.day.plan n1 n2).order/\B_ W w'):=fun W hW=>Ag1 _ s.day.plan n1 n2 W (qX.on hW)
 have ND:Hid (Eg s.day.plan n1 n2=true->Bj (Ei s.day.plan n1 n2).bins/\Bj (Ei s.day.plan n1 n2).passes):=fun h=>by rw[Ac6 h];exact hi
 refine' ZV8;refine' Y2;generalize Ei s.day.plan n1 n2=mv at *;obtain⟨mb,mp,mo⟩:=mv;generalize Eg s.day.plan n1 n2=ok at *;simp only at HM ND;obtain⟨s',rS⟩:∃z:Dsk,z=(if ok then{s with day:={s.day with plan:=⟨mb,mp,mo⟩}}else s):=⟨_,rfl⟩;obtain⟨an,tK⟩:∃z:Y_,z=(if ok then E7 ⟨mb,mp,mo⟩else⟨#[]⟩):=⟨_,rfl⟩;rw[<-rS,<-tK];have ef:=aA rS;have RZ:=aA tK;clear rS tK;clear hD hT i7 JA hi qX hL hO hF hH hN hAP xH c0 c1 c2 c3 c4 c5 c6 c7;refine' ZKt;refine' ZGd;refine' ZC;have la:B_ w (w.alloc (aB #[.int .i64 0,.int .i64 0,.slice none 0 0] 30)).drew:=Ag (Ae (aF _ _) _)
 go_region_held3 (fun W=>B_ w W) (first|exact ld|exact la|exact Ae ld _|exact k1|exact Ae k1 _|exact k3 _ _ _|fail) (first|(go_at_call 140;refine' ZKu)|(go_at_call 154;first|((with_reducible refine(HM.out _ la).mono ?_);refine' Zw;have k1:=Aa la z1;have k3:=fun(a0 a1 a2:Value)=>Ai (Ai (Ai k1 (p:=⟨w.heap.size,0,none⟩) (aC _) a0) (p:=⟨w.heap.size,1,none⟩) (aC _) a1) (p:=⟨w.heap.size,2,none⟩) (aC _) a2;have BJ:=E3 (w:=(w.alloc (aB #[.int .i64 0,.int .i64 0,.slice none 0 0] 30)).drew) (bC w _) z1;obtain⟨b0,b1,b2,g0,g1,g2⟩:=B7 BJ;have HBK:=aA BJ;have O1:=aA o1;obtain⟨AV,nV,cV,rfl, -, -, -, -⟩:=o1.rd;clear o1 BJ)|((with_reducible refine(HM.out _ ld).mono ?_);refine' Zw;have k1:=Aa ld z1;have O1:=aA o1;obtain⟨AV,nV,cV,rfl, -, -, -, -⟩:=o1.rd;clear o1)|fail)|fail)
 all_goals first
  |(have ie:=k1.size;have kV:Hid ((((u1.setCell ⟨w.heap.size,0,none⟩ (.int .i64 mb)).setCell ⟨w.heap.size,1,none⟩ (.int .i64 mp)).setCell ⟨w.heap.size,2,none⟩ (.slice AV nV cV)).heap[w.heap.size]? =some (.cells #[.int .i64 mb,.int .i64 mp,.slice AV nV cV] 30 (0,0))):=Bp HBK.out;have K2:=aA (k3 (.int .i64 mb) (.int .i64 mp) (.slice AV nV cV));have O2:Hid (own 9 w.heap.size (((u1.setCell ⟨w.heap.size,0,none⟩ (.int .i64 mb)).setCell ⟨w.heap.size,1,none⟩ (.int .i64 mp)).setCell ⟨w.heap.size,2,none⟩ (.slice AV nV cV)) (.slice AV nV cV) mo):=own.base_ (Bd (Bd (Bd O1.out ⟨w.heap.size,0,none⟩ _ ZF) ⟨w.heap.size,1,none⟩ _ ZF) ⟨w.heap.size,2,none⟩ _ ZF) ZF;clear k1 k3 z1 ld la q1 q2 q3 b0 b1 b2 g0 g1 g2 O1 HBK;generalize((u1.setCell ⟨w.heap.size,0,none⟩ (.int .i64 mb)).setCell ⟨w.heap.size,1,none⟩ (.int .i64 mp)).setCell ⟨w.heap.size,2,none⟩ (.slice AV nV cV)=W2 at *;obtain⟨gb,NE⟩:∃gb,gb=w.heap.size:=⟨_,rfl⟩;exact ZV9
   )
  |(have ie:=k1.size;have kV:Hid ((u1.alloc (aB #[.int .i64 mb,.int .i64 mp,.slice AV nV cV] 30)).heap[u1.heap.size]? =some (.cells #[.int .i64 mb,.int .i64 mp,.slice AV nV cV] 30 (0,0))):=bC u1 _;have K2:=aA (Ae k1 (aB #[.int .i64 mb,.int .i64 mp,.slice AV nV cV] 30));have O2:Hid (own 9 w.heap.size (u1.alloc (aB #[.int .i64 mb,.int .i64 mp,.slice AV nV cV] 30)) (.slice AV nV cV) mo):=(O1.out.base_ (aC _)).alloc _;clear k1 z1 ld la q1 q2 q3 O1;generalize u1.alloc (aB #[.int .i64 mb,.int .i64 mp,.slice AV nV cV] 30)=W2 at *;obtain⟨gb,NE⟩:∃gb,gb=u1.heap.size:=⟨_,rfl⟩;exact ZV9
   )
theorem AmN(R:Nat->Prop)(vL vO vF vH vN s f0 f1 f2 w)(hS:stN R w vL vO vF vH vN s)(B g c)(hf:own 9 B w (.slice (P_ g) 3 c) [f0,f1,f2])(z0:f0.size<=maxLen)(z1:f1.size<=maxLen)(z2:f2.size<=maxLen)(hi:Bj s.day.plan.bins/\Bj s.day.plan.passes):
 C_ 108 #[y5 vL vO vF vH vN s,.slice (P_ g) 3 c] w (.string (Em (Jp s.day.plan s.letters (Am f0) (Am f1) (Am f2)))):=by
 refine' ZXw;show Calls Tryz.prog _ #[.agg (y_ s AL cL AO cO AF cF AH cH AN cN),.slice (P_ g) 3 c] w _;refine' YL;have qX:rdP w w.heap.size (.agg #[.int .i64 s.day.plan.bins,.int .i64 s.day.plan.passes,.slice AO s.day.plan.order.length cO]) s.day.plan:=⟨_,rfl,hi.1,hi.2,hS.o.rd⟩;have tj:=aA (fun W=>Gh f0 W z0);have qW:=aA (fun W=>Gh f1 W z1);have uM:=aA (fun W=>Gh f2 W z2);refine' ZWE;have HM:Hid (∀(vm:Value) (W:World),B_ w W->R_ W vm [(⟨n1,n2⟩:Mis)]->Calls Tryz.prog 187 #[.agg #[.int .i64 s.day.plan.bins,.int .i64 s.day.plan.passes,.slice AO s.day.plan.order.length cO],.slice AL s.letters.length cL,.int .i64 n0,vm] W fun e w'=>∃vL,e=.returned (.tuple #[vL,.bool (Lo s.day.plan s.letters n0 [⟨n1,n2⟩])])/\own 119 W.heap.size w' vL (Fr s.day.plan s.letters n0 [⟨n1,n2⟩])/\B_ W w'):=fun vm W hW hm=>Ab2 _ _ vm s.day.plan s.letters n0 [⟨n1,n2⟩] W (qX.on hW) (hS.l.rd.on hW) hm
 refine' ZWF;have q_:Lo s.day.plan s.letters n0 [⟨n1,n2⟩]=true->1<=(Co (Fr s.day.plan s.letters n0 [⟨n1,n2⟩])).size:=fun h=>Ui (BaB h)
 refine' ZWG;have BM:=aA (fun(v:Value) (W:World) (h:R_ W v L)=>D6 v L W h);have i7:=Du L;have eo:=aA (fun W=>Lt ok (Co L) W ZA q_);rw[<-HQ.out]at eo;generalize Co L=F at *;refine' Nb;refine' ZXx;refine' ZXy;clear z0 z1 z2 hi qX bv dq tK i7 q_;go_enter func108,ntmps108
 refine' Zx;have ka:=stS.alloc aq (aB #[.int .i64 n1,.int .i64 n2] 170)
 go_region_held3 (fun W=>stS w w.heap.size 36 (y_ s AL cL AO cO AF cF AH cH AN cN) W) (first|(with_reducible exact aq)|(with_reducible exact ka)|(exact stS.alloc aq _)|fail) (first|(go_at_call 93;refine' ZKu)|fail)
 all_goals
  obtain⟨W2,bg⟩:∃u,u=(wA.alloc (aB #[.int .i64 n1,.int .i64 n2] 170)).drew:=⟨_,rfl⟩;rw[<-bg];have k2:stS w w.heap.size 36 (y_ s AL cL AO cO AF cF AH cH AN cN) W2:=by rw[bg];exact(k0.alloc _).drew
  have TC:R_ W2 (.slice (P_ wA.heap.size) 1 1) [(⟨n1,n2⟩:Mis)]:=by rw[bg];exact UB.out wA
  have OO:=aA (fun W (hW:B_ W2 W)=>HM.out _ W (k2.below hW).lay (TC.on hW));replace q0:=fun W (hW:B_ W2 W)=>q0 W (k2.below hW)
  replace q1:=fun W (hW:B_ W2 W)=>q1 W (k2.below hW)
  replace q2:=fun W (hW:B_ W2 W)=>q2 W (k2.below hW)
  replace q3:=fun W (hW:B_ W2 W)=>q3 W (k2.below hW)
  replace y0:=fun W (hW:B_ W2 W)=>y0 W (k2.below hW)
  refine' YD;clear bg TC y1 y2 k0 aq ka;have ld:=Ag (aF W2.heap.size W2)
  refine' ZC;go_region_held3 (fun W=>B_ W2 W) (first|(with_reducible exact ld)|(with_reducible exact l9)|fail) (first|(go_at_call 93;(with_reducible refine(tj.out _).mono ?_);refine' ZP)|(go_at_call 187;(with_reducible refine(OO.out _ ld).mono ?_);rintro e u9 ⟨v9,rfl,o9,z9⟩;have l9:=Aa ld z9;have R9:=aA o9.rd;obtain⟨A9,n9,m9,rfl, -, -, -, -⟩:=o9.rd;clear o9)|fail)
  all_goals
   have HFB9:=aA (BM.out _ _ R9.out);have k9:=k2.below l9;clear l9 z9 ld q0 q1 q2 q3 y0
   go_wp2_with (first|(go_at_call 23;refine HFB9.out.mono ?_;rintro e u10 ⟨rfl,z10⟩;have k10:=k9.below z10)|(refine' ZG0))
   have K:=aA k10.lay;exact WH
theorem AiH(R:Nat->Prop)(vL vO vF vH vN s st c w)(hS:stN R w vL vO vF vH vN s)(hz:c.size<=maxLen)(hn:(Cs s.net st c).2=0)(hl:((Cs s.net st c).1.map (Bw s.net)).length<=1000)(hq:∀p∈(Cs s.net st c).1.map (Bw s.net),1<=p.size/\p.size<=1000)(sj:(Cb ((Cs s.net st c).1.map (Bw s.net))).size<=1000000):
 C_ 109 #[y5 vL vO vF vH vN s,.string st,.string c] w (.string (Em (Cb ((Cs s.net st c).1.map (Bw s.net))++⟨#[32]⟩++⟨#[104,111,109,101]⟩))):=by
 refine' ZG1;have HC:Hid (∀W,stS w w.heap.size 36 (y_ s AL cL AO cO AF cF AH cH AN cN) W->Calls Tryz.prog 188 #[.slice AN s.net.length cN,.string st,.string c] W fun e w'=>∃v',e=.returned (.tuple #[v',.int .i64 0])/\own 9 W.heap.size w' v' ((Cs s.net st c).1.map (Bw s.net))/\B_ W w'):=fun W h0=>ZG2
 refine' ZG3;have rU:Hid (Em (Cb ((Cs s.net st c).1.map (Bw s.net))++⟨#[32]⟩++⟨#[104,111,109,101]⟩)=Cb ((Cs s.net st c).1.map (Bw s.net))++⟨#[32]⟩++⟨#[104,111,109,101]⟩++⟨#[10]⟩):=Fh Zp;refine' ZG4;have eo:=aA (fun W=>D4 (F++⟨#[32]⟩++⟨#[104,111,109,101]⟩) W ZLa);exact ZG5
theorem AiG(R:Nat->Prop)(vL vO vF vH vN s st c w)(hS:stN R w vL vO vF vH vN s)(hz:c.size<=maxLen)(hn:(Cs s.net st c).2=1)(hl:((Cs s.net st c).1.map (Bw s.net)).length<=1000)(hq:∀p∈(Cs s.net st c).1.map (Bw s.net),1<=p.size/\p.size<=1000)(sj:(Cb ((Cs s.net st c).1.map (Bw s.net))).size<=1000000):
 C_ 109 #[y5 vL vO vF vH vN s,.string st,.string c] w (.string (Em (Cb ((Cs s.net st c).1.map (Bw s.net))++⟨#[32]⟩++⟨#[108,111,115,116]⟩))):=by
 refine' ZG1;have HC:Hid (∀W,stS w w.heap.size 36 (y_ s AL cL AO cO AF cF AH cH AN cN) W->Calls Tryz.prog 188 #[.slice AN s.net.length cN,.string st,.string c] W fun e w'=>∃v',e=.returned (.tuple #[v',.int .i64 1])/\own 9 W.heap.size w' v' ((Cs s.net st c).1.map (Bw s.net))/\B_ W w'):=fun W h0=>ZG2
 refine' ZG3;have rU:Hid (Em (Cb ((Cs s.net st c).1.map (Bw s.net))++⟨#[32]⟩++⟨#[108,111,115,116]⟩)=Cb ((Cs s.net st c).1.map (Bw s.net))++⟨#[32]⟩++⟨#[108,111,115,116]⟩++⟨#[10]⟩):=Fh Zp;refine' ZG4;have eo:=aA (fun W=>D4 (F++⟨#[32]⟩++⟨#[108,111,115,116]⟩) W ZLa);exact ZG5
theorem AiA(R:Nat->Prop)(vL vO vF vH vN s st c w)(hS:stN R w vL vO vF vH vN s)(hz:c.size<=maxLen)(hn:(Cs s.net st c).2=2)(hl:((Cs s.net st c).1.map (Bw s.net)).length<=1000)(hq:∀p∈(Cs s.net st c).1.map (Bw s.net),1<=p.size/\p.size<=1000)(sj:(Cb ((Cs s.net st c).1.map (Bw s.net))).size<=1000000):
 C_ 109 #[y5 vL vO vF vH vN s,.string st,.string c] w (.string (Em (Cb ((Cs s.net st c).1.map (Bw s.net))++⟨#[32]⟩++⟨#[108,111,111,112]⟩))):=by
 refine' ZG1;have HC:Hid (∀W,stS w w.heap.size 36 (y_ s AL cL AO cO AF cF AH cH AN cN) W->Calls Tryz.prog 188 #[.slice AN s.net.length cN,.string st,.string c] W fun e w'=>∃v',e=.returned (.tuple #[v',.int .i64 2])/\own 9 W.heap.size w' v' ((Cs s.net st c).1.map (Bw s.net))/\B_ W w'):=fun W h0=>ZG2
 refine' ZG3;have rU:Hid (Em (Cb ((Cs s.net st c).1.map (Bw s.net))++⟨#[32]⟩++⟨#[108,111,111,112]⟩)=Cb ((Cs s.net st c).1.map (Bw s.net))++⟨#[32]⟩++⟨#[108,111,111,112]⟩++⟨#[10]⟩):=Fh Zp;refine' ZG4;have eo:=aA (fun W=>D4 (F++⟨#[32]⟩++⟨#[108,111,111,112]⟩) W ZLa);exact ZG5
theorem AiL(R:Nat->Prop)(vL vO vF vH vN s st c w)(hS:stN R w vL vO vF vH vN s)(hz:c.size<=maxLen)(hn:(Cs s.net st c).2=3)(hl:((Cs s.net st c).1.map (Bw s.net)).length<=1000)(hq:∀p∈(Cs s.net st c).1.map (Bw s.net),1<=p.size/\p.size<=1000)(sj:(Cb ((Cs s.net st c).1.map (Bw s.net))).size<=1000000):
 C_ 109 #[y5 vL vO vF vH vN s,.string st,.string c] w (.string (Em (⟨#[]⟩))):=by
 refine' ZG1;have HC:Hid (∀W,stS w w.heap.size 36 (y_ s AL cL AO cO AF cF AH cH AN cN) W->Calls Tryz.prog 188 #[.slice AN s.net.length cN,.string st,.string c] W fun e w'=>∃v',e=.returned (.tuple #[v',.int .i64 3])/\own 9 W.heap.size w' v' ((Cs s.net st c).1.map (Bw s.net))/\B_ W w'):=fun W h0=>ZG2
 refine' ZG3;have rU:Hid (Em (⟨#[]⟩)=⟨#[110,111,10]⟩):=Jw;refine' ZG4;have eo:=aA (fun W=>Fa (F++⟨#[32]⟩++⟨#[]⟩) W);exact ZG5
theorem ApU(R:Nat->Prop)(vL vO vF vH vN s st c w)(hS:stN R w vL vO vF vH vN s)(hz:c.size<=maxLen):
 C_ 109 #[y5 vL vO vF vH vN s,.string st,.string c] w (.string (Em (Xe s.net st c))):=by
 unfold Xe;cases h:Na s.net st c
 .have e0:=AaH h
  have e1:(Cs s.net st c).1.map (Bw s.net)=[]:=by rw[e0];rfl
  exact AiL R vL vO vF vH vN s st c w hS hz (by rw[e0]) (by rw[e1];decide) (by rw[e1];simp) (by rw[e1];decide)
 .refine' ZV6;unfold Wb at f2 f3 q9;rw[aQ rfl];rcases f1 with hn|hn|hn
  .rw[hn]
   exact AiH R vL vO vF vH vN s st c w hS hz hn ZA (fun p hp=>ZLb) ZA
  .rw[hn]
   exact AiG R vL vO vF vH vN s st c w hS hz hn ZA (fun p hp=>ZLb) ZA
  .rw[hn]
   exact AiA R vL vO vF vH vN s st c w hS hz hn ZA (fun p hp=>ZLb) ZA
theorem Ay8(R:Nat->Prop)(vL vO vF vH vN s f0 f1 f2 B g c w)(hS:stN R w vL vO vF vH vN s)(hf:own 9 B w (.slice (P_ g) 3 c) [f0,f1,f2])(z0:f0.size<=maxLen)(z1:f1.size<=maxLen)(z2:f2.size<=maxLen)(hi:Bj s.day.plan.bins/\Bj s.day.plan.passes):
 C_ 48 #[y5 vL vO vF vH vN s,.string Cz,.slice (P_ g) 3 c] w (.string (Em (Jp s.day.plan s.letters (Am f0) (Am f1) (Am f2)))):=by
 refine' ZXw;show Calls Tryz.prog _ #[.agg (y_ s AL cL AO cO AF cF AH cH AN cN),.string Cz,.slice (P_ g) 3 c] w _;refine' YL;have HC:Hid (∀W,stS w w.heap.size 36 (y_ s AL cL AO cO AF cF AH cH AN cN) W->C_ 108 #[.agg (y_ s AL cL AO cO AF cF AH cH AN cN),.slice (P_ g) 3 c] W (.string (Em (Jp s.day.plan s.letters (Am f0) (Am f1) (Am f2))))):=fun W h0=>AmN _ _ _ _ _ _ s f0 f1 f2 W (hS.on (Ct.below R h0.lay)) B g c (hf.below h0.lay) z0 z1 z2 hi
 refine' ZXz;refine' ZXy;clear z0 z1 z2 hi;generalize Jp s.day.plan s.letters (Am f0) (Am f1) (Am f2)=FT at *;have yq:=q0 _ k0;rw[au.out]at yq;have yr:=q1 _ k0;rw[au.out]at yr;have vW:=q2 _ k0;rw[au.out]at vW;have yt:=q3 _ k0;rw[au.out]at yt;have yu:=q4 _ k0;rw[au.out]at yu;have yv:=q5 _ k0;rw[au.out]at yv;have yw:=q6 _ k0;rw[au.out]at yw;have rr:=q7 _ k0;rw[au.out]at rr;refine' gI;have y1b:=y1 _ k0;rw[au.out]at y1b;have y2b:=y2 _ k0;rw[au.out]at y2b;refine' ZX0;refine' ZX1;refine' gB;go_wp2_with (go_at_call 108;refine' ZLY)
 have K:=aA k1.lay;exact WH
theorem Bb1(R:Nat->Prop)(vL vO vF vH vN s f0 f1 B g c w)(hS:stN R w vL vO vF vH vN s)(hf:own 9 B w (.slice (P_ g) 2 c) [f0,f1])(z1:f1.size<=maxLen):
 C_ 48 #[y5 vL vO vF vH vN s,.string Fl,.slice (P_ g) 2 c] w (.string (Em (Xe s.net f0 f1))):=by
 refine' Xq;refine' ZX2;show Calls Tryz.prog _ #[.agg (y_ s AL cL AO cO AF cF AH cH AN cN),.string Fl,.slice (P_ g) 2 c] w _;refine' YL;have HC:Hid (∀W,stS w w.heap.size 36 (y_ s AL cL AO cO AF cF AH cH AN cN) W->C_ 109 #[.agg (y_ s AL cL AO cO AF cF AH cH AN cN),.string f0,.string f1] W (.string (Em (Xe s.net f0 f1)))):=fun W h0=>ApU _ _ _ _ _ _ s f0 f1 W (hS.on (Ct.below R h0.lay)) z1
 refine' ZXz;clear hS hf x0 x1;clear z1;generalize Xe s.net f0 f1=FT at *;refine' gI;have y1b:=y1 _ k0;rw[au.out]at y1b;refine' ZX3;have m6:(Fl.toList==[102,97,117,108,116])=false:=ZD
 refine' ZLc;refine' gB;go_region_held3 (fun W=>stS w w.heap.size 36 (y_ s AL cL AO cO AF cF AH cH AN cN) W) (first|(with_reducible exact aq)|exact N_|fail) (first|(go_at_call 109;(with_reducible refine(HC.out _ aq).mono ?_);refine' Zy;have k1:=aq.below z1)|fail)
 all_goals
  have K:=aA k1.lay;clear k1
  refine' ZI;exact⟨rfl,K.out⟩
def jK(xs:List Y_)(k:Nat):List Y_:=(xs.take k).map (·++⟨#[42]⟩)++xs.drop k
theorem Az7(xs):jK xs 0=xs:=by unfold jK;simp
theorem AzH(xs){k}(h:xs.length<=k):jK xs k=xs.map (·++⟨#[42]⟩):=by unfold jK;rw[bB h,dP h,eI]
theorem At6(xs k):(jK xs k).length=xs.length:=by unfold jK;rw[aT,bI,bJ,dV];omega
theorem Bc1{xs k}(h:k<xs.length):(jK xs k)[k]'(by rw[At6];exact h)=xs[k]:=by
 unfold jK;rw[cC ZX4];simp only[bI,bJ,iJ]
 congr 1
 omega
theorem AzC{xs k}(h:k<xs.length):(jK xs k).set k (xs[k]++⟨#[42]⟩)=jK xs (k+1):=by
 unfold jK;have hl:((xs.take k).map (·++(⟨#[42]⟩:Y_))).length=k:=ZX4
 rw[List.set_append_right _ _ (eS hl),hl,Nat.sub_self,aJ h,cG,cZ,cU h];rfl
theorem AlH(R:Nat->Prop)(vL vO vF vH vN s f B g c w)(hS:stN R w vL vO vF vH vN s)(hf:own 9 B w (.slice (P_ g) 1 c) [f])(hn:Gq s.net f<0):
 C_ 48 #[y5 vL vO vF vH vN s,.string B5,.slice (P_ g) 1 c] w (.string (Em (⟨#[]⟩))):=by
 refine' ZX5;refine' WD;refine' Z0;generalize Gq s.net f=r at *;refine' ZX6;all_goals
  have tC:=k1.drew;clear DE
  refine' ZX7;all_goals
   have K:=aA k2.lay;have HT:=aA Jw;clear k2 k1 tC z1 z2
   refine' ZI;exact⟨B8 HT.out.symm,K.out⟩
theorem Ai8(R:Nat->Prop)(vL vO vF vH vN s f B g c w)(hS:stN R w vL vO vF vH vN s)(hf:own 9 B w (.slice (P_ g) 1 c) [f])(hn:0<=Gq s.net f):
 C_ 48 #[y5 vL vO vF vH vN s,.string B5,.slice (P_ g) 1 c] w (.string (Em (Cb ((n_ s.net f).map (·++⟨#[42]⟩))))):=by
 refine' ZX5;obtain⟨sf1,sf2,ST⟩:=ZC4 s.net f;have uD:=aA (fun(v:Value) (W:World) (h:R_ W v (Qb s.net f))=>Fn v (Qb s.net f) W h (fun p hp=>by have:=ST p hp;omega) ZA);have sj:=Lm (n:=100000000) sf1 fun p hp=>(ST p hp).2
 have dj:=aA (Fh (Q6 fun p hp=>(ST p hp).1));have me:=aA sf2;unfold Qb at uD sj dj;have kw:=sf1;unfold Qb at kw;rw[bI]at kw;refine' WD;refine' ZLd;clear hf x0;clear hS sf1 sf2 ST;generalize Cb ((n_ s.net f).map (·++⟨#[42]⟩))=F at *
 generalize n_ s.net f=xs at *;generalize Gq s.net f=r at *;have lK:decide (r<0)=false:=aP ZA;refine' YE;refine' ZX6;all_goals
  have tC:=k1.drew
  refine' ZX7;all_goals
   have O2:=aA (O5.out.drew.below z2);have SM:n5=xs.length:=DE;subst SM;have l2:=k2.lay;have dq:w.heap.size<=wA.heap.size:=k0.lay.size;clear k0 aq k1 tC z1 z2 q7 y0 mr DE
   refine' ZC;go_loopw[24] (fun i wr=>∃k:Nat,k<=xs.length/\i=.int .i64 k/\B_ w wr/\own 9 w.heap.size wr (.slice A5 xs.length c5) (jK xs k)) (fun i _=>xs.length - (intOf i).toNat)
   case atStart=>exact⟨0,aN _,rfl,l2,by rw[Az7];exact O2.out.base_ (show w.heap.size<=wA.drew.heap.size from dq)⟩
   case round=>
    refine' Wu;refine' zd;clear l2 O2;by_cases ab:k<xs.length
    .have hlk:k<(jK xs k).length:=by{rw[At6];exact ab};rcases ho.form with⟨e,vT⟩|⟨g5,c6,e,aj,vV,uw,bf⟩
     .rw[vT]at hlk
      exact absurd hlk (aX _)
     .injection e with e1 e2 e3
      subst e1 e3;clear e2;have y:=Bx ho k hlk;rw[Bc1 ab]at y;have fx:=aA (AzC ab);have hz:=me.out _ (aS ab);refine' zu;have SC:(x++⟨#[42]⟩).size<=maxLen:=by{refine' zo;show _+1<=maxLen;exact ZN};have xH:w3.frozen? ⟨g5,k,none⟩=false:=ho.freeAt k;have O4:=aA (Ad6 ho hlk (x++⟨#[42]⟩) SC);have L4:=aA (Ai lr aj (.string (x++⟨#[42]⟩)) (p:=⟨g5,k,none⟩));refine' YN;refine' zQ;have sn:¬9223372036854775807<x.size+1:=ZA
      clear ho lr SC
      refine' ZC;go_roundw
      case rel=>exact⟨k+1,ZA,ZJ,L4.out,by rw[<-fx.out];exact O4.out⟩
      case measure=>exact ZK
    .have LL:=aA (AzH xs (k:=k) ZA)
     have bd:¬(k:Int)<(xs.length:Int):=ZA
     rw[LL.out]at ho;have yS:=aA (uD.out _ w3 ho.rd);clear ho
     refine' ZC;refine yS.out.mono ?_;refine' Tn;exact⟨B8 dj.out.symm,lr⟩
theorem AoJ(R:Nat->Prop)(vL vO vF vH vN s f B g c w)(hS:stN R w vL vO vF vH vN s)(hf:own 9 B w (.slice (P_ g) 1 c) [f])(hz:f.size<=maxLen)(ho:Ap f=true)(ab:s.day.held.length<30)(hq:∀p∈s.day.held++[f],1<=p.size/\p.size<=1000)(sj:(Cb (s.day.held++[f])).size<=1000000):
 Calls Tryz.prog 47 #[y5 vL vO vF vH vN s,.string Cy,.slice (P_ g) 1 c] w (Bs R {s with day:={s.day with held:=s.day.held++[f]}} (Cb (s.day.held++[f])) w):=by
 refine' ZYO;have HX:=aA (fun(v:Value) (W:World) (h:R_ W v (s.day.held++[f]))=>ifB (Fn v (s.day.held++[f]) W h hq Px));have eo:=aA (fun W=>D4 (Cb (s.day.held++[f])) W ZA);have dj:Hid (Em (Cb (s.day.held++[f]))=Cb (s.day.held++[f])++⟨#[10]⟩):=Fh (Q6 fun p h=>(hq p h).1);have WR:Hid (∀W,B_ wB W->R_ W (.slice AH s.day.held.length cH) s.day.held):=fun W hW=>hS.h.rd.on (k0.lay.trans (hW.mono k0.lay.size))
 have ah:=k0.lt;refine' W7;refine' ZLg;have hzf:=hz;clear hz ho hq;have WS:f.size<=maxLen:=hzf;have sR:(s.day.held.length:Int)<30:=ZA
 have ru:s.day.held.length+1<=maxLen:=ZN
 have lC:(s.day.held.length+1)*16<=140737488355328:=ZA
 have lD:([]:List Y_).length+s.day.held.length<=maxLen:=by unfold maxLen;simp only[cT];omega
 have lF:(([]:List Y_).length+s.day.held.length)*16<=140737488355328:=by simp only[cT];omega
 generalize Cb (s.day.held++[f])=F at *;refine' ZYP;have ki:=(aF wB.heap.size wB).drew;have la:B_ wB (wB.alloc (aB #[] 9)):=(aF wB.heap.size wB).alloc (aC _) _;have ea:own (α:=Y_) 9 wB.heap.size (wB.alloc (aB #[] 9)) (.slice (P_ wB.heap.size) 0 0) []:=own.made0 wB _ (aC _);refine' ZLL;have lt:B_ wB (wB.alloc (aB #[.string f] 9)):=(aF wB.heap.size wB).alloc (aC _) _;have lb:B_ wB ((wB.alloc (aB #[] 9)).alloc (aB #[.string f] 9)):=la.alloc ZF _;have lc:B_ wB ((wB.alloc (aB #[.string f] 9)).alloc (aB #[] 9)):=lt.alloc ZF _;have eb:=ea.alloc (aB #[.string f] 9);have ec:own (α:=Y_) 9 wB.heap.size ((wB.alloc (aB #[.string f] 9)).alloc (aB #[] 9)) (.slice (some ⟨wB.heap.size+1,0,none⟩) 0 0) []:=by
  have:=own.made0 (α:=Y_) (wB.alloc (aB #[.string f] 9)) 9 (base:=wB.heap.size) ZF
  rwa [show(wB.alloc (aB #[.string f] 9)).heap.size=wB.heap.size+1 by simp]at this
 have rb:((wB.alloc (aB #[] 9)).alloc (aB #[.string f] 9)).heap[wB.heap.size+1]? =some (.cells (#[.string f]:Array Value) 9 (0,0)):=by
  have:=bC (wB.alloc (aB #[] 9)) (aB #[.string f] 9)
  rwa [show(wB.alloc (aB #[] 9)).heap.size=wB.heap.size+1 by simp]at this
 have rc:((wB.alloc (aB #[.string f] 9)).alloc (aB #[] 9)).heap[wB.heap.size]? =some (.cells (#[.string f]:Array Value) 9 (0,0)):=(dL (wB.alloc (aB #[.string f] 9)) _ _ ZF).trans (bC wB (aB #[.string f] 9));refine' ZYQ;replace q5:=fun W (h:B_ wB W)=>q5 W (k0.below h)
 replace y0:=fun W (h:B_ wB W)=>y0 W (k0.below h)
 have uf:=fun W (h:B_ wB W)=>(k0.below h).frozenS 5
 refine Hs (S:=fun W=>B_ wB W) 12 ZB ki (fun aa=>?_);refine' ZXQ;refine' ZLM;refine' ZXR;refine' ZLN;refine' ZXS;show Bu _ _ _ _ _ _ _ _ (Act.put _ (some 53) _) _
 refine' ZV;refine Bh (i:=5) (v:=?zv4) rfl rfl ZB ZB ZB ZB (fun _ _ _ h=>h) (aZ ⟨ZG,?zy4⟩) ZL ?zr4
 case zy4=> exact ZM
 show Bu _ _ _ _ _ _ _ _ (Act.put _ (some 55) _) _
 refine' ZXT;refine' YI;refine' ZXU;refine' YJ;refine Bk (rs:=[0,8]) ZB ZF ?_;refine Bi.cons rfl (fun K hK=>?_) ?_
 ·
  refine' OG;refine Bk (rs:=[4,8]) ZB ZF ?_;refine Bi.cons rfl (fun K hK=>?_) ?_
  ·
   (refine Bl (α:=Y_) ZG (.tmp 50) (.tmp 53) 28 ZG wB.heap.size 9 i0 _ 16 aW hi ah ar ap rfl ZE (.slice (P_ wB.heap.size) 0 0) [] ZG oa _ s.day.held ZG _ (WR.out _ lP) lD lF zw ?_;refine' Z_;have l7:B_ wB w7:=lP.trans (Ay oa ce zw);refine' Y6)
   refine' W5;refine Bk (rs:=[8]) ZB ZF ?_;refine' V9;refine' ZHA;(refine Ce (α:=Y_) ZG (.tmp 54) (.tmp 58) 28 ZG wB.heap.size 9 i0 _ 16 aW hi ah ar ap rfl ZE v7 s.day.held f ZG (o7.alloc _) ⟨w7.heap.size,0,none⟩ 1 [.string f] ZG ⟨WS,rfl⟩ (Bz w7 _ [.string f]) ru lC ZH ?_;refine' ZHB;have l8:B_ wB w8:=(l7.alloc gm _).trans (Ay (o7.alloc _) il ZH))
   refine' N7;refine As6 (i:=10) 11 (v:=?zv7) rfl rfl ZB ZB ZB ZB ZB ZB (fun _ _ _ h=>h) (aZ ⟨ZG,?zy7⟩) ZL ?zr7
   case zy7=> exact ZM
   refine' zz;refine Bh (i:=11) (v:=?zv8) rfl rfl ZB ZB ZB ZB (fun _ _ _ h=>h) (aZ ⟨ZG,?zy8⟩) ZL ?zr8
   case zy8=> exact ZM
   exact ZLh
  refine' V9;refine' ZHC;(refine Bl (α:=Y_) ZG (.tmp 50) (.tmp 53) 28 ZG wB.heap.size 9 i0 _ 16 aW hi ah ar ap rfl ZE (.slice (P_ wB.heap.size) 0 0) [] ZG rA _ s.day.held ZG _ (WR.out _ nc) lD lF zw ?_;refine' Z_;have l7:B_ wB w7:=nc.trans (Ay rA ce zw);refine' Y6;have wv:=(ce.block (wB.heap.size+1) ZF (fun e=>ZHD)).trans rb)
  refine' W5;refine' ZHA;(refine Ce (α:=Y_) ZG (.tmp 54) (.tmp 58) 28 ZG wB.heap.size 9 i0 _ 16 aW hi ah ar ap rfl ZE v7 s.day.held f ZG o7 ⟨wB.heap.size+1,0,none⟩ 1 [.string f] ZG ⟨WS,rfl⟩ (Oo wv) ru lC gm ?_;refine' ZYR)
  refine' N7;refine As6 (i:=10) 11 (v:=?zv9) rfl rfl ZB ZB ZB ZB ZB ZB (fun _ _ _ h=>h) (aZ ⟨ZG,?zy9⟩) ZL ?zr9
  case zy9=> exact ZM
  refine' zz;refine Bh (i:=11) (v:=?zv10) rfl rfl ZB ZB ZB ZB (fun _ _ _ h=>h) (aZ ⟨ZG,?zy10⟩) ZL ?zr10
  case zy10=> exact ZM
  exact ZLh
 refine' V9;refine' ZLi;refine' OG;refine' ZHC;(refine Bl (α:=Y_) ZG (.tmp 50) (.tmp 53) 28 ZG wB.heap.size 9 i0 _ 16 aW hi ah ar ap rfl ZE (.slice (some ⟨wB.heap.size+1,0,none⟩) 0 0) [] ZG rC _ s.day.held ZG _ (WR.out _ oO) lD lF zw ?_;refine' Z_;have l7:B_ wB w7:=oO.trans (Ay rC ce zw);refine' Y6;have wv:=(ce.block wB.heap.size ZH (fun e=>ZHD)).trans rc)
 refine' W5;refine' ZHA;(refine Ce (α:=Y_) ZG (.tmp 54) (.tmp 58) 28 ZG wB.heap.size 9 i0 _ 16 aW hi ah ar ap rfl ZE v7 s.day.held f ZG o7 ⟨wB.heap.size,0,none⟩ 1 [.string f] ZG ⟨WS,rfl⟩ (Oo wv) ru lC gm ?_;refine' ZYR)
 refine' N7;refine As6 (i:=10) 11 (v:=?zv11) rfl rfl ZB ZB ZB ZB ZB ZB (fun _ _ _ h=>h) (aZ ⟨ZG,?zy11⟩) ZL ?zr11
 case zy11=> exact ZM
 refine' zz;refine Bh (i:=11) (v:=?zv12) rfl rfl ZB ZB ZB ZB (fun _ _ _ h=>h) (aZ ⟨ZG,?zy12⟩) ZL ?zr12
 case zy12=> exact ZM
 exact ZLh
theorem AoQ(R:Nat->Prop)(vL vO vF vH vN s f B g c w)(hS:stN R w vL vO vF vH vN s)(hf:own 9 B w (.slice (P_ g) 1 c) [f])(hz:f.size<=maxLen)(ho:Ap f=false)(hl:s.day.held.length<=1000)(hq:∀p∈s.day.held,1<=p.size/\p.size<=1000):
 Calls Tryz.prog 47 #[y5 vL vO vF vH vN s,.string Cy,.slice (P_ g) 1 c] w (Bs R s (⟨#[]⟩) w):=by
 refine' ZYS;have js:Hid (∀W:World,ya 94 #[.string f] W (.bool false)):=fun W=>ZYT
 refine' ZYU;exact ZYV
theorem AoU(R:Nat->Prop)(vL vO vF vH vN s f B g c w)(hS:stN R w vL vO vF vH vN s)(hf:own 9 B w (.slice (P_ g) 1 c) [f])(hz:f.size<=maxLen)(ho:Ap f=true)(tX:30<=s.day.held.length)(hl:s.day.held.length<=1000)(hq:∀p∈s.day.held,1<=p.size/\p.size<=1000):
 Calls Tryz.prog 47 #[y5 vL vO vF vH vN s,.string Cy,.slice (P_ g) 1 c] w (Bs R s (⟨#[]⟩) w):=by
 refine' ZYO;refine' ZYU;have sR:decide ((s.day.held.length:Int)<30)=false:=aP ZA;have q5b:((w.alloc (aB (y_ s AL cL AO cO AF cF AH cH AN cN) 36)).alloc (aB #[.slice none 0 0,.int .i64 0,.int .i64 0,.slice none 0 0,.slice none 0 0,.slice none 0 0,.int .i64 0,.slice none 0 0] 36)).cell? ⟨w.heap.size,5,none⟩=some (.slice AH s.day.held.length cH):=by have:=q5 _ k0;rw[bt.out,au.out]at this;exact this
 exact ZYV
def K6(wd:Y_):Int:=if wd=He\/wd=Gn\/wd=Ga\/wd=Eo\/wd=Fj\/wd=Ds\/wd=Cc\/wd=Dl\/wd=B5\/wd=Dk\/wd=Cy\/wd=C4\/wd=C8 then 1 else if wd=Fl\/wd=Bt\/wd=C0 then 2 else if wd=Cz then 3 else -1
def Of(wd:Y_):Bool:=decide (wd=Dk\/wd=Cy\/wd=C4\/wd=C8\/wd=Bt\/wd=C0)
theorem ZDa(wd w):ya 46 #[.string wd] w (.tuple #[.int .i64 (K6 wd),.bool (Of wd)]):=by
 by_cases hm:wd∈[He,Gn,Ga,Eo,Fj,Ds,Cc,Dl,B5,Fl,Cz,Dk,Cy,C4,C8,Bt,C0]
 .simp only[List.mem_cons,List.not_mem_nil,or_false]at hm
  rcases hm with rfl|rfl|rfl|rfl|rfl|rfl|rfl|rfl|rfl|rfl|rfl|rfl|rfl|rfl|rfl|rfl|rfl
  .rw[show K6 He=((1:Nat):Int) by exact ZR,show Of He=false by exact ZR];exact Ad2 w
  .rw[show K6 Gn=((1:Nat):Int) by exact ZR,show Of Gn=false by exact ZR];exact AcV w
  .rw[show K6 Ga=((1:Nat):Int) by exact ZR,show Of Ga=false by exact ZR];exact AcT w
  .rw[show K6 Eo=((1:Nat):Int) by exact ZR,show Of Eo=false by exact ZR];exact ZCR w
  .rw[show K6 Fj=((1:Nat):Int) by exact ZR,show Of Fj=false by exact ZR];exact AcL w
  .rw[show K6 Ds=((1:Nat):Int) by exact ZR,show Of Ds=false by exact ZR];exact Aa9 w
  .rw[show K6 Cc=((1:Nat):Int) by exact ZR,show Of Cc=false by exact ZR];exact low w
  .rw[show K6 Dl=((1:Nat):Int) by exact ZR,show Of Dl=false by exact ZR];exact AdF w
  .rw[show K6 B5=((1:Nat):Int) by exact ZR,show Of B5=false by exact ZR];exact AeM w
  .rw[show K6 Fl=((2:Nat):Int) by exact ZR,show Of Fl=false by exact ZR];exact AdK w
  .rw[show K6 Cz=((3:Nat):Int) by exact ZR,show Of Cz=false by exact ZR];exact Aa8 w
  .rw[show K6 Dk=((1:Nat):Int) by exact ZR,show Of Dk=true by exact ZR];exact AlU w
  .rw[show K6 Cy=((1:Nat):Int) by exact ZR,show Of Cy=true by exact ZR];exact Qc w
  .rw[show K6 C4=((1:Nat):Int) by exact ZR,show Of C4=true by exact ZR];exact AdI w
  .rw[show K6 C8=((1:Nat):Int) by exact ZR,show Of C8=true by exact ZR];exact ZBg w
  .rw[show K6 Bt=((2:Nat):Int) by exact ZR,show Of Bt=true by exact ZR];exact ZCZ w
  .rw[show K6 C0=((2:Nat):Int) by exact ZR,show Of C0=true by exact ZR];exact ZEM w
 .have jy:∀x∈[He,Gn,Ga,Eo,Fj,Ds,Cc,Dl,B5,Fl,Cz,Dk,Cy,C4,C8,Bt,C0],wd≠x:=fun x hx e=>hm (e▸hx)
  have e1:K6 wd= -1:=by
   unfold K6;rw[aM,aM,aM (jy _ ZF)]
   .intro h
    rcases h with h|h|h
    all_goals exact jy _ ZF h
   .intro h
    rcases h with h|h|h|h|h|h|h|h|h|h|h|h|h
    all_goals exact jy _ ZF h
  have e2:Of wd=false:=by
   unfold Of;refine aP fun h=>?_
   rcases h with h|h|h|h|h|h
   all_goals exact jy _ ZF h
  rw[e1,e2];exact AnR wd w fun x hx=>Fy (jy x hx)
theorem AjZ{xs f}: -1<=Fw xs f/\Fw xs f<=9999:=by
 unfold Fw
 split
 .rename_i h
  refine' ZVr;omega
 .omega
theorem ApM{p c}: -1<=Hl p c/\Hl p c<=9999:=by
 unfold Hl
 split
 .rename_i h
  have:=(De.1 h).2.1.2;unfold y6
  split<;>omega
 .omega
theorem ArB(l):1<=(Sj l).size:=by unfold Sj;refine' YU;show 1<=_+_+1;omega
theorem AwW(ds:Nat->Nat):1<=(c_ ds).size:=by show 1<=7;omega
theorem AzP(f):(if Ap f then Kz f else⟨#[]⟩)=Kz f:=by
 unfold Kz
 exact gU
theorem AzG(f):(if Fb f then Hr f else⟨#[]⟩)=Hr f:=by
 unfold Hr
 exact gU
theorem AuL(R:Nat->Prop)(vL vO vF vH vN s wd r f w)(h:Inv s)(hS:stN R w vL vO vF vH vN s)(hz:r.size<=1000000)(ev:Aj 32 r=[f])(i7:f.size<=maxLen)(h4:∀x∈[Cf,Df,Bg,Es],(wd.toList==x.data.toList)=false):
 Calls Tryz.prog 12 #[y5 vL vO vF vH vN s,.string wd,.string r] w (Bs R (i_ s wd f).1 (i_ s wd f).2 w):=by
 have dy:(Aj 32 r).length=1:=by rw[ev];rfl
 unfold i_;by_cases e0:wd=C8
 .refine' ZGk;cases ho:Jo s.letters (Am f)
  .exact Gz R _ _ _ _ _ s _ r 1 s ⟨#[]⟩ w hS hz h4 (ZBg) dy fun R' uL uO uF uH uN g c B W iz dm=>by rw[ev]at dm;exact ArA R' uL uO uF uH uN s f B g c W iz dm i7 ho
  .exact Gz R _ _ _ _ _ s _ r 1 _ _ w hS hz h4 (ZBg) dy fun R' uL uO uF uH uN g c B W iz dm=>by rw[ev]at dm;exact Ao2 R' uL uO uF uH uN s f B g c W iz dm i7 ho (Ui (AsY ho))
 rw[aM e0];by_cases e1:wd=Eo
 .subst e1
  refine' ZT;exact Lb R _ _ _ _ _ s _ r 1 _ w hS hz h4 (ZCR) dy fun R' uL uO uF uH uN g c B W iz dm=>by rw[ev]at dm;exact AyB R' uL uO uF uH uN s f B g c W iz dm i7 AjZ.1 AjZ.2
 rw[aM e1];by_cases e2:wd=Fj
 .subst e2
  refine' ZT;exact Lb R _ _ _ _ _ s _ r 1 _ w hS hz h4 (AcL) dy fun R' uL uO uF uH uN g c B W iz dm=>by rw[ev]at dm;exact AzN R' uL uO uF uH uN s f B g c W iz dm i7 (Ss h) ApM.1 ApM.2
 rw[aM e2];by_cases e3:wd=Ds
 .subst e3
  refine' ZT;exact Lb R _ _ _ _ _ s _ r 1 _ w hS hz h4 (Aa9) dy fun R' uL uO uF uH uN g c B W iz dm=>by rw[ev]at dm;exact AwO R' uL uO uF uH uN s f B g c W iz dm i7 (Ss h)
 rw[aM e3];by_cases e4:wd=C4
 .subst e4
  refine' ZT;rw[Ip,Ij];have cm:=Pc (N6 s.day.fwds f);cases ho:Jy s.day.fwds f
  .exact Gz R _ _ _ _ _ s _ r 1 s ⟨#[]⟩ w hS hz h4 (AdI) dy fun R' uL uO uF uH uN g c B W iz dm=>by rw[ev]at dm;exact ArI R' uL uO uF uH uN s f B g c W iz dm h.fwds ho ZA
  .exact Gz R _ _ _ _ _ s _ r 1 _ _ w hS hz h4 (AdI) dy fun R' uL uO uF uH uN g c B W iz dm=>by rw[ev]at dm;exact Ap8 R' uL uO uF uH uN s f B g c W iz dm h.fwds ho (ZC5 (AgD ho)) ZA
 rw[aM e4];by_cases e5:wd=Cc
 .subst e5
  refine' ZT;exact Lb R _ _ _ _ _ s _ r 1 _ w hS hz h4 (low) dy fun R' uL uO uF uH uN g c B W iz dm=>by rw[ev]at dm;exact AqX R' uL uO uF uH uN s f B g c W iz dm i7 h.fwds
 rw[aM e5];by_cases e6:wd=Cy
 .subst e6
  refine' ZT;have hk:=Hc h.held;have hq:∀p∈s.day.held,1<=p.size/\p.size<=1000:=fun p hp=>by have:=Cp (hk.2 p hp);omega
  cases ho:Ap f
  .rw[aM ZF]
   exact Gz R _ _ _ _ _ s _ r 1 s ⟨#[]⟩ w hS hz h4 (Qc) dy fun R' uL uO uF uH uN g c B W iz dm=>by rw[ev]at dm;exact AoQ R' uL uO uF uH uN s f B g c W iz dm i7 ho ZA hq
  .by_cases ab:s.day.held.length<30
   .rw[aQ (by simp[ab])]
    have jp:=Hc (Aa2 h.held ho ab);have q9:=(BdQ jp.1 jp.2).1;exact Gz R _ _ _ _ _ s _ r 1 _ _ w hS hz h4 (Qc) dy fun R' uL uO uF uH uN g c B W iz dm=>by rw[ev]at dm;exact AoJ R' uL uO uF uH uN s f B g c W iz dm i7 ho ab (fun p hp=>by have:=Cp (jp.2 p hp);omega) ZA
   .rw[aM (by simp[ab])]
    exact Gz R _ _ _ _ _ s _ r 1 s ⟨#[]⟩ w hS hz h4 (Qc) dy fun R' uL uO uF uH uN g c B W iz dm=>by rw[ev]at dm;exact AoU R' uL uO uF uH uN s f B g c W iz dm i7 ho ZA ZA hq
 rw[aM e6];by_cases e7:wd=Dk
 .subst e7
  refine' ZT;cases ho:Fp (Am f)
  .rw[aM ZF]
   exact Gz R _ _ _ _ _ s _ r 1 s ⟨#[]⟩ w hS hz h4 (AlU) dy fun R' uL uO uF uH uN g c B W iz dm=>by rw[ev]at dm;exact ArX R' uL uO uF uH uN s f B g c W iz dm i7 ho
  .rw[aQ rfl]
   exact Gz R _ _ _ _ _ s _ r 1 _ kR w hS hz h4 (AlU) dy fun R' uL uO uF uH uN g c B W iz dm=>by rw[ev]at dm;exact AnP R' uL uO uF uH uN s f B g c W iz dm i7 ho
 rw[aM e7];by_cases e8:wd=Dl
 .subst e8
  refine' ZT;exact Lb R _ _ _ _ _ s _ r 1 _ w hS hz h4 (AdF) dy fun R' uL uO uF uH uN g c B W iz dm=>by rw[ev]at dm;exact Ba8 R' uL uO uF uH uN s f B g c W iz dm i7 (Ta h) h.fwds
 rw[aM e8];by_cases e9:wd=B5
 .subst e9
  refine' ZT;unfold Wh;by_cases ho:Gq s.net f<0
  .rw[aQ ho]
   exact Lb R _ _ _ _ _ s _ r 1 ⟨#[]⟩ w hS hz h4 (AeM) dy fun R' uL uO uF uH uN g c B W iz dm=>by rw[ev]at dm;exact AlH R' uL uO uF uH uN s f B g c W iz dm ho
  .rw[aM ho]
   exact Lb R _ _ _ _ _ s _ r 1 _ w hS hz h4 (AeM) dy fun R' uL uO uF uH uN g c B W iz dm=>by rw[ev]at dm;exact Ai8 R' uL uO uF uH uN s f B g c W iz dm ZA
 rw[aM e9];by_cases sU:wd=He
 .subst sU
  refine' ZT;exact Lb R _ _ _ _ _ s _ r 1 _ w hS hz h4 (Ad2) dy fun R' uL uO uF uH uN g c B W iz dm=>by rw[ev]at dm;exact BaA R' uL uO uF uH uN s f B g c W iz dm i7
 rw[aM sU];by_cases sV:wd=Gn
 .subst sV
  refine' ZT;have hb:=AhA f;exact Lb R _ _ _ _ _ s _ r 1 _ w hS hz h4 (AcV) dy fun R' uL uO uF uH uN g c B W iz dm=>by rw[ev]at dm;exact BaH R' uL uO uF uH uN s f B g c W iz dm i7 (fun ho=>by unfold Kz;rw[aQ ho];exact ArB _) ZA (AzP f)
 rw[aM sV];by_cases sW:wd=Ga
 .subst sW
  refine' ZT;have hb:=AfX f;exact Lb R _ _ _ _ _ s _ r 1 _ w hS hz h4 (AcT) dy fun R' uL uO uF uH uN g c B W iz dm=>by rw[ev]at dm;exact BaU R' uL uO uF uH uN s f B g c W iz dm i7 (fun ho=>by unfold Hr;rw[aQ ho];exact AwW _) ZA (AzG f)
 rw[aM sW];have ay:K6 wd≠1:=by
  unfold K6;rw[aM]
  .split
   .omega
   .split<;>omega
  .intro hm
   rcases hm with hm|hm|hm|hm|hm|hm|hm|hm|hm|hm|hm|hm|hm
   .exact sU hm
   .exact sV hm
   .exact sW hm
   .exact e1 hm
   .exact e2 hm
   .exact e3 hm
   .exact e5 hm
   .exact e8 hm
   .exact e9 hm
   .exact e7 hm
   .exact e6 hm
   .exact e4 hm
   .exact e0 hm
 exact L_ R _ _ _ _ _ s wd r (K6 wd) (Of wd) w hS hz h4 (ZDa wd) (.inr (by rw[dy];exact fun e=>ay e.symm))
end Go.Proofs.YtfadhdacjpmmeaaGreatDoor
