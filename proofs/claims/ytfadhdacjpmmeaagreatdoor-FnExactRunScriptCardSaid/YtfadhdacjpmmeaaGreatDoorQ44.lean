/- Parts. -/
import Derived.Test.YtfadhdacjpmmeaaGreatDoorQ41
set_option linter.unusedVariables false
set_option linter.unusedSimpArgs false
namespace Go.Proofs.YtfadhdacjpmmeaaGreatDoor
set_option maxRecDepth 100000
set_option maxHeartbeats 16000000
open Go.IntKind renaming i64→aI
open Go.Obj renaming cells→aC
open Go.Proofs.Tryz renaming prog→aB
open Go.Value renaming string→aK,int→bC
open Go.RowKit
theorem AeB(R:Nat→Prop)(vL vO vF vH vN s r w)(hS:stN R w vL vO vF vH vN s)(hz:r.size≤1000000)(ho:Tf r=true):
 Calls aB 12 #[stV vL vO vF vH vN s,.string Bg,.string r] w (Bs R {s with day:={s.day with fwds:=pfF r}} (okW) w):=by
 refine' ZT7;have HC:Hid (∀W:World,Calls aB 44 #[.string r] W fun e w'=>∃v',e=.returned (.tuple #[v',.bool true])∧own 128 W.heap.size w' v' (pfF r)∧Below W.heap.size W w'):=fun W=>by have:=Pa r W ZA;exact ZAT
 refine' ZGQ;refine' ZC1;refine' ZI6;refine' ZBc;go_wp2_with (go_at_call 44;refine' ZGV;have e4:=q4 _ k1;have f4:=k1.frozenS 4)
 refine' ZT8;refine' ZT9;have RX:Hid (rdN (cut R w.heap.size (w.heap.size+2)) W2 (.slice AX nX cX) (pfF r)):=by
  have h:rdN (cut R w.heap.size (w.heap.size+2)) u1 (.slice AX nX cX) (pfF r):=rdN.of_own OX.out fun k hk=>.inr ZA
  rw[be];exact h.on (Ct.set_cut R _ _ _ _ _ _ (aD _) ZA)
 refine' z7;clear be e4 f4 q0 q1 q2 q3 q4 q5 q6 q7 k0 ao k1 z1 OX ah;refine' ZJn;go_region_held3 (fun W=>duo w 36 #[.slice AL s.letters.length cL,.int .i64 s.day.plan.bins,.int .i64 s.day.plan.passes,.slice AO s.day.plan.order.length cO,.slice AX nX cX,.slice AH s.day.held.length cH,.int .i64 s.day.size,.slice AN s.net.length cN] false W) (first|(with_reducible exact er)|(with_reducible exact k3)|exact ZAR|fail) (first|(refine' ZB7;refine' ZGW)|fail)
 all_goals refine' ZC2;exact Bs.fin (s':={s with day:={s.day with fwds:=pfF r}}) ((HS.out.cut L4.out).setF (RX.out.on (Ct.below _ j7.out))) L4.out
theorem AfG(R:Nat→Prop)(vL vO vF vH vN s r w)(hS:stN R w vL vO vF vH vN s)(hz:r.size≤1000000)(ho:Tf r=false):
 Calls aB 12 #[stV vL vO vF vH vN s,.string Bg,.string r] w (Bs R s (⟨#[]⟩) w):=by
 refine' ZT7;have HC:Hid (∀W:World,Calls aB 44 #[.string r] W fun e w'=>∃v',e=.returned (.tuple #[v',.bool false])∧own 128 W.heap.size w' v' (pfF r)∧Below W.heap.size W w'):=fun W=>by have:=Pa r W ZA;exact ZAT
 refine' ZGR;refine' ZC1;refine' ZI6;refine' ZBc;go_wp2_with (go_at_call 44;refine' ZGV)
 exact ZUA
theorem As9(R:Nat→Prop)(vL vO vF vH vN s r w)(hS:stN R w vL vO vF vH vN s)(hz:r.size≤1000000)(ho:Kx r=true):
 Calls aB 12 #[stV vL vO vF vH vN s,.string Es,.string r] w (Bs R {s with net:=pnN r} (okW) w):=by
 refine' ZUB;have HC:Hid (∀W:World,Calls aB 45 #[.string r] W fun e w'=>∃v',e=.returned (.tuple #[v',.bool true])∧AoW 45 181 W.heap.size w' v' (pnN r)∧Below W.heap.size W w'):=fun W=>by have:=P0 r W ZA;exact ZAT
 refine' ZGQ;refine' ZC1;refine' ZJ1;refine' ZBc;go_wp2_with (go_at_call 45;refine' ZGV;have e7:=q7 _ k1;have f7:=k1.frozenS 7)
 obtain⟨W2,be⟩:∃u,u=u1.setCell ⟨w.heap.size,7,none⟩ (.slice AX nX cX):=⟨_,rfl⟩;rw[←be];have k2:duo w 36 #[.slice AL s.letters.length cL,.int .i64 s.day.plan.bins,.int .i64 s.day.plan.passes,.slice AO s.day.plan.order.length cO,.slice AF s.day.fwds.length cF,.slice AH s.day.held.length cH,.int .i64 s.day.size,.slice AX nX cX] false W2:=by rw[be];exact k1.put 7 _
 have RX:Hid (rdN (cut R w.heap.size (w.heap.size+2)) W2 (.slice AX nX cX) (pnN r)):=by
  have h:rdN (cut R w.heap.size (w.heap.size+2)) u1 (.slice AX nX cX) (pnN r):=rdN.of_ownN OX.out fun k hk=>.inr ZA
  rw[be];exact h.on (Ct.set_cut R _ _ _ _ _ _ (aD _) ZA)
 refine' z7;clear be e7 f7 q0 q1 q2 q3 q4 q5 q6 q7 k0 ao k1 z1 OX ah;refine' ZBX;have p0:∀W,duo w 36 #[.slice AL s.letters.length cL,.int .i64 s.day.plan.bins,.int .i64 s.day.plan.passes,.slice AO s.day.plan.order.length cO,.slice AF s.day.fwds.length cF,.slice AH s.day.held.length cH,.int .i64 s.day.size,.slice AX nX cX] false W→W.cell? ⟨w.heap.size,0,none⟩=some (.slice AL s.letters.length cL):=fun W h=>(Ac h.box).1.1
 have p1:∀W,duo w 36 #[.slice AL s.letters.length cL,.int .i64 s.day.plan.bins,.int .i64 s.day.plan.passes,.slice AO s.day.plan.order.length cO,.slice AF s.day.fwds.length cF,.slice AH s.day.held.length cH,.int .i64 s.day.size,.slice AX nX cX] false W→W.cell? ⟨w.heap.size,1,none⟩=some (.int .i64 s.day.plan.bins):=fun W h=>(Ac h.box).1.2.1
 have p2:∀W,duo w 36 #[.slice AL s.letters.length cL,.int .i64 s.day.plan.bins,.int .i64 s.day.plan.passes,.slice AO s.day.plan.order.length cO,.slice AF s.day.fwds.length cF,.slice AH s.day.held.length cH,.int .i64 s.day.size,.slice AX nX cX] false W→W.cell? ⟨w.heap.size,2,none⟩=some (.int .i64 s.day.plan.passes):=fun W h=>(Ac h.box).1.2.2.1
 have p3:∀W,duo w 36 #[.slice AL s.letters.length cL,.int .i64 s.day.plan.bins,.int .i64 s.day.plan.passes,.slice AO s.day.plan.order.length cO,.slice AF s.day.fwds.length cF,.slice AH s.day.held.length cH,.int .i64 s.day.size,.slice AX nX cX] false W→W.cell? ⟨w.heap.size,3,none⟩=some (.slice AO s.day.plan.order.length cO):=fun W h=>(Ac h.box).1.2.2.2.1
 have p4:∀W,duo w 36 #[.slice AL s.letters.length cL,.int .i64 s.day.plan.bins,.int .i64 s.day.plan.passes,.slice AO s.day.plan.order.length cO,.slice AF s.day.fwds.length cF,.slice AH s.day.held.length cH,.int .i64 s.day.size,.slice AX nX cX] false W→W.cell? ⟨w.heap.size,4,none⟩=some (.slice AF s.day.fwds.length cF):=fun W h=>(Ac h.box).1.2.2.2.2.1
 have p5:∀W,duo w 36 #[.slice AL s.letters.length cL,.int .i64 s.day.plan.bins,.int .i64 s.day.plan.passes,.slice AO s.day.plan.order.length cO,.slice AF s.day.fwds.length cF,.slice AH s.day.held.length cH,.int .i64 s.day.size,.slice AX nX cX] false W→W.cell? ⟨w.heap.size,5,none⟩=some (.slice AH s.day.held.length cH):=fun W h=>(Ac h.box).1.2.2.2.2.2.1
 have p6:∀W,duo w 36 #[.slice AL s.letters.length cL,.int .i64 s.day.plan.bins,.int .i64 s.day.plan.passes,.slice AO s.day.plan.order.length cO,.slice AF s.day.fwds.length cF,.slice AH s.day.held.length cH,.int .i64 s.day.size,.slice AX nX cX] false W→W.cell? ⟨w.heap.size,6,none⟩=some (.int .i64 s.day.size):=fun W h=>(Ac h.box).1.2.2.2.2.2.2.1
 have p7:∀W,duo w 36 #[.slice AL s.letters.length cL,.int .i64 s.day.plan.bins,.int .i64 s.day.plan.passes,.slice AO s.day.plan.order.length cO,.slice AF s.day.fwds.length cF,.slice AH s.day.held.length cH,.int .i64 s.day.size,.slice AX nX cX] false W→W.cell? ⟨w.heap.size,7,none⟩=some (.slice AX nX cX):=fun W h=>(Ac h.box).1.2.2.2.2.2.2.2
 go_region_held3 (fun W=>duo w 36 #[.slice AL s.letters.length cL,.int .i64 s.day.plan.bins,.int .i64 s.day.plan.passes,.slice AO s.day.plan.order.length cO,.slice AF s.day.fwds.length cF,.slice AH s.day.held.length cH,.int .i64 s.day.size,.slice AX nX cX] false W) (first|(with_reducible exact er)|(with_reducible exact k3)|exact ZAR|fail) (first|(refine' ZB7;refine' ZGW)|fail)
 all_goals refine' ZC2;exact Bs.fin (s':={s with net:=pnN r}) ((HS.out.cut L4.out).setN (RX.out.on (Ct.below _ j7.out))) L4.out
theorem AuM(R:Nat→Prop)(vL vO vF vH vN s r w)(hS:stN R w vL vO vF vH vN s)(hz:r.size≤1000000)(ho:Kx r=false):
 Calls aB 12 #[stV vL vO vF vH vN s,.string Es,.string r] w (Bs R s (⟨#[]⟩) w):=by
 refine' ZUB;have HC:Hid (∀W:World,Calls aB 45 #[.string r] W fun e w'=>∃v',e=.returned (.tuple #[v',.bool false])∧AoW 45 181 W.heap.size w' v' (pnN r)∧Below W.heap.size W w'):=fun W=>by have:=P0 r W ZA;exact ZAT
 refine' ZGR;refine' ZC1;refine' ZJ1;refine' ZBc;go_wp2_with (go_at_call 45;refine' ZGV)
 exact ZUA
theorem AgO(R:Nat→Prop)(vL vO vF vH vN s r w)(hS:stN R w vL vO vF vH vN s)(hz:r.size≤1000000)(ho:Mv r=true)(hp:1≤(Co (pbL r)).size):
 Calls aB 12 #[stV vL vO vF vH vN s,.string Cf,.string r] w (Bs R {s with letters:=pbL r} (Co (pbL r)) w):=by
 refine' ZUC;have HC:Hid (∀W:World,Calls aB 41 #[.string r] W fun e w'=>∃v',e=.returned (.tuple #[v',.bool true])∧own 119 W.heap.size w' v' (pbL r)∧Below W.heap.size W w'):=fun W=>by have:=Tn r W ZA;exact ZAT
 have HM:Hid (∀(v:Value) W,Below w.heap.size w W→rdN (cut R w.heap.size (w.heap.size+2)) W v (pbL r)→Calls aB 25 #[.agg #[.slice AL s.letters.length cL,.int .i64 s.day.plan.bins,.int .i64 s.day.plan.passes,.slice AO s.day.plan.order.length cO,.slice AF s.day.fwds.length cF,.slice AH s.day.held.length cH,.int .i64 s.day.size,.slice AN s.net.length cN],v,.bool true] W (Bs (cut R w.heap.size (w.heap.size+2)) {s with letters:=pbL r} (Co (pbL r)) W)):=fun v W hW hv=>N3 _ _ _ _ _ _ v s _ W (hS.cut hW) hv hp
 refine' ZAy;clear hS;clear hz ho hp;exact ZUD
theorem AiF(R:Nat→Prop)(vL vO vF vH vN s r w)(hS:stN R w vL vO vF vH vN s)(hz:r.size≤1000000)(ho:Mv r=false):
 Calls aB 12 #[stV vL vO vF vH vN s,.string Cf,.string r] w (Bs R s (⟨#[]⟩) w):=by
 refine' ZUC;have HC:Hid (∀W:World,Calls aB 41 #[.string r] W fun e w'=>∃v',e=.returned (.tuple #[v',.bool false])∧own 119 W.heap.size w' v' (pbL r)∧Below W.heap.size W w'):=fun W=>by have:=Tn r W ZA;exact ZAT
 have HM:Hid (∀(v:Value) W,Below w.heap.size w W→rdN (cut R w.heap.size (w.heap.size+2)) W v (pbL r)→Calls aB 25 #[.agg #[.slice AL s.letters.length cL,.int .i64 s.day.plan.bins,.int .i64 s.day.plan.passes,.slice AO s.day.plan.order.length cO,.slice AF s.day.fwds.length cF,.slice AH s.day.held.length cH,.int .i64 s.day.size,.slice AN s.net.length cN],v,.bool false] W (Bs (cut R w.heap.size (w.heap.size+2)) s ⟨#[]⟩ W)):=fun v W hW _=>Uh _ _ _ _ _ _ v s W (hS.cut hW)
 refine' ZC1;exact ZUD
theorem R6{T B:Nat}{w v}{ps:List ByteArray}(h:own T B w v ps)(hn:ps≠[]):∃g c,v=.slice (some ⟨g,0,none⟩) ps.length c∧g<w.heap.size:=by
 rcases h.form with⟨_,tX⟩|⟨g,c,rfl,_,hl,_,_⟩
 ·exact absurd tX hn
 ·exact⟨g,c,rfl,hl⟩
theorem stP{R:Nat→Prop}{w vL vO vF vH vN v s p}(h:stN R w vL vO vF vH vN s)(hx:rdN R w v p.order):stN R w vL v vF vH vN {s with day:={s.day with plan:=p}}:=⟨h.l,hx,h.f,h.h,h.n⟩
theorem Ap0(R:Nat→Prop)(vL vO vF vH vN s r w)(hS:stN R w vL vO vF vH vN s)(hz:r.size≤1000000)(ho:Ge r=true):
 Calls aB 12 #[stV vL vO vF vH vN s,.string Df,.string r] w (Bs R {s with day:={s.day with plan:=Ey r}} (okW) w):=by
 refine' ZUE;have HC:Hid (∀W:World,Calls aB 42 #[.string r] W fun e w'=>∃vo,e=.returned (.tuple #[.agg #[.int .i64 (Ey r).bins,.int .i64 (Ey r).passes,vo],.bool true])∧rd w' w'.heap.size vo (Ey r).order∧Below W.heap.size W w'∧AlU W.heap.size vo):=fun W=>by have:=Uq r W hz;exact ZAT
 refine' ZGQ;refine' ZUF;have kH:U1.heap[u1.heap.size]? =some (.cells #[.int .i64 (Ey r).bins,.int .i64 (Ey r).passes,.slice AX nX cX] 30 (0,0)):=ZUG
 have y8:Below u1.heap.size u1 U1:=by rw[ki];exact ZAf
 have kU:=k1.below y8;have GC:rdN (cut R w.heap.size (w.heap.size+2)) U1 (.slice AX nX cX) (Ey r).order:=rdN.of_fresh (oX.on y8) fX fun k hk=>.inr ZA
 have LK:=aA GC;clear oX z1 fX GC;refine' ZT3;have e1b:=e1;have e2b:=e2;have e3b:=e3;have f1b:=f1;have f2b:=f2;have f3b:=f3;have d0b:=d0;have d1b:=d1;have d2b:=d2;rw[ki]at e1b e2b e3b f1b f2b f3b d0b d1b d2b;have rI:=aA ki;clear ki PX PY PZ
 refine' ZC;rw[←rI.out];obtain⟨W2,be⟩:∃u,u=((U1.setCell ⟨w.heap.size,1,none⟩ (.int .i64 (Ey r).bins)).setCell ⟨w.heap.size,2,none⟩ (.int .i64 (Ey r).passes)).setCell ⟨w.heap.size,3,none⟩ (.slice AX nX cX):=⟨_,rfl⟩;rw[←be];have k2:duo w 36 #[.slice AL s.letters.length cL,.int .i64 (Ey r).bins,.int .i64 (Ey r).passes,.slice AX nX cX,.slice AF s.day.fwds.length cF,.slice AH s.day.held.length cH,.int .i64 s.day.size,.slice AN s.net.length cN] false W2:=ZT4
 have RX:Hid (rdN (cut R w.heap.size (w.heap.size+2)) W2 (.slice AX nX cX) (Ey r).order):=by
  have hk:Ct (cut R w.heap.size (w.heap.size+2)) U1 W2:=by rw[be];exact((Ct.set_cut R _ _ _ _ _ _ (aD _) ZA).trans (Ct.set_cut R _ _ _ _ _ _ (aD _) ZA)).trans (Ct.set_cut R _ _ _ _ _ _ (aD _) ZA)
  exact LK.out.on hk
 refine' z7;clear be kH y8 e1 e2 e3 f1 f2 f3 e1b e2b e3b f1b f2b f3b d0b d1b d2b d0 d1 d2 q0 q1 q2 q3 q4 q5 q6 q7 k0 ao k1 kU LK ah;refine' ZBX;have p0:∀W,duo w 36 #[.slice AL s.letters.length cL,.int .i64 (Ey r).bins,.int .i64 (Ey r).passes,.slice AX nX cX,.slice AF s.day.fwds.length cF,.slice AH s.day.held.length cH,.int .i64 s.day.size,.slice AN s.net.length cN] false W→W.cell? ⟨w.heap.size,0,none⟩=some (.slice AL s.letters.length cL):=fun W h=>(Ac h.box).1.1
 have p1:∀W,duo w 36 #[.slice AL s.letters.length cL,.int .i64 (Ey r).bins,.int .i64 (Ey r).passes,.slice AX nX cX,.slice AF s.day.fwds.length cF,.slice AH s.day.held.length cH,.int .i64 s.day.size,.slice AN s.net.length cN] false W→W.cell? ⟨w.heap.size,1,none⟩=some (.int .i64 (Ey r).bins):=fun W h=>(Ac h.box).1.2.1
 have p2:∀W,duo w 36 #[.slice AL s.letters.length cL,.int .i64 (Ey r).bins,.int .i64 (Ey r).passes,.slice AX nX cX,.slice AF s.day.fwds.length cF,.slice AH s.day.held.length cH,.int .i64 s.day.size,.slice AN s.net.length cN] false W→W.cell? ⟨w.heap.size,2,none⟩=some (.int .i64 (Ey r).passes):=fun W h=>(Ac h.box).1.2.2.1
 have p3:∀W,duo w 36 #[.slice AL s.letters.length cL,.int .i64 (Ey r).bins,.int .i64 (Ey r).passes,.slice AX nX cX,.slice AF s.day.fwds.length cF,.slice AH s.day.held.length cH,.int .i64 s.day.size,.slice AN s.net.length cN] false W→W.cell? ⟨w.heap.size,3,none⟩=some (.slice AX nX cX):=fun W h=>(Ac h.box).1.2.2.2.1
 have p4:∀W,duo w 36 #[.slice AL s.letters.length cL,.int .i64 (Ey r).bins,.int .i64 (Ey r).passes,.slice AX nX cX,.slice AF s.day.fwds.length cF,.slice AH s.day.held.length cH,.int .i64 s.day.size,.slice AN s.net.length cN] false W→W.cell? ⟨w.heap.size,4,none⟩=some (.slice AF s.day.fwds.length cF):=fun W h=>(Ac h.box).1.2.2.2.2.1
 have p5:∀W,duo w 36 #[.slice AL s.letters.length cL,.int .i64 (Ey r).bins,.int .i64 (Ey r).passes,.slice AX nX cX,.slice AF s.day.fwds.length cF,.slice AH s.day.held.length cH,.int .i64 s.day.size,.slice AN s.net.length cN] false W→W.cell? ⟨w.heap.size,5,none⟩=some (.slice AH s.day.held.length cH):=fun W h=>(Ac h.box).1.2.2.2.2.2.1
 have p6:∀W,duo w 36 #[.slice AL s.letters.length cL,.int .i64 (Ey r).bins,.int .i64 (Ey r).passes,.slice AX nX cX,.slice AF s.day.fwds.length cF,.slice AH s.day.held.length cH,.int .i64 s.day.size,.slice AN s.net.length cN] false W→W.cell? ⟨w.heap.size,6,none⟩=some (.int .i64 s.day.size):=fun W h=>(Ac h.box).1.2.2.2.2.2.2.1
 have p7:∀W,duo w 36 #[.slice AL s.letters.length cL,.int .i64 (Ey r).bins,.int .i64 (Ey r).passes,.slice AX nX cX,.slice AF s.day.fwds.length cF,.slice AH s.day.held.length cH,.int .i64 s.day.size,.slice AN s.net.length cN] false W→W.cell? ⟨w.heap.size,7,none⟩=some (.slice AN s.net.length cN):=fun W h=>(Ac h.box).1.2.2.2.2.2.2.2
 go_region_held3 (fun W=>duo w 36 #[.slice AL s.letters.length cL,.int .i64 (Ey r).bins,.int .i64 (Ey r).passes,.slice AX nX cX,.slice AF s.day.fwds.length cF,.slice AH s.day.held.length cH,.int .i64 s.day.size,.slice AN s.net.length cN] false W) (first|(with_reducible exact er)|(with_reducible exact k3)|exact ZAR|fail) (first|(refine' ZB7;refine' ZGW)|fail)
 all_goals refine' ZC2;exact Bs.fin (s':={s with day:={s.day with plan:=Ey r}}) (stP (HS.out.cut L4.out) (RX.out.on (Ct.below _ j7.out))) L4.out
theorem AqY(R:Nat→Prop)(vL vO vF vH vN s r w)(hS:stN R w vL vO vF vH vN s)(hz:r.size≤1000000)(ho:Ge r=false):
 Calls aB 12 #[stV vL vO vF vH vN s,.string Df,.string r] w (Bs R s (⟨#[]⟩) w):=by
 refine' ZUE;have HC:Hid (∀W:World,Calls aB 42 #[.string r] W fun e w'=>∃vo,e=.returned (.tuple #[.agg #[.int .i64 (Ey r).bins,.int .i64 (Ey r).passes,vo],.bool false])∧rd w' w'.heap.size vo (Ey r).order∧Below W.heap.size W w'∧AlU W.heap.size vo):=fun W=>by have:=Uq r W hz;exact ZAT
 refine' ZGR;refine' ZUF;have y8:Below u1.heap.size u1 U1:=by rw[ki];exact ZAf
 have kU:=k1.below y8;clear oX z1 fX;have rI:=aA ki;clear ki PX PY PZ y8 k0 ao k1
 refine' ZC;rw[←rI.out];have er:=kU.drew
 refine' ZUH;all_goals
  refine' ZC3;clear kU er k3 hr e0 e1 e2 e3 e4 e5 e6 e7 f0 f1 f2 f3 f4 f5 f6 f7
  refine' ZED;exact ZB8
theorem AeK(R:Nat→Prop)(vL vO vF vH vN s wd r n ch w)(hS:stN R w vL vO vF vH vN s)(hz:r.size≤1000000)(h4:∀x∈[Cf,Df,Bg,Es],(wd.toList==x.data.toList)=false)(kZ:∀W:World,Calls aB 46 #[.string wd] W fun e w'=>e=.returned (.tuple #[.int .i64 n,.bool ch])∧W=w')(hn:n<0∨((Aj 32 r).length:Int)≠n):
 Calls aB 12 #[stV vL vO vF vH vN s,.string wd,.string r] w (Bs R s (Hg) w):=by
 refine' ZJ2;refine' ZUI;have de:Hid (Em Hg=⟨#[119,104,97,116,10]⟩):=by show _=_;exact ZS
 generalize Aj 32 r=ps at *;refine' ZBc;by_cases jw:n<0
 ·clear hn
  have ef:decide (n<0)=true:=aJ jw
  exact ZUJ
 ·have ef:decide (n<0)=false:=aO jw
  have qc:((ps.length:Int) != n)=true:=bne_iff_ne.2 ZA;clear hn
  exact ZUJ
theorem Gz(R:Nat→Prop)(vL vO vF vH vN s wd r n s' a w)(hS:stN R w vL vO vF vH vN s)(hz:r.size≤1000000)(h4:∀x∈[Cf,Df,Bg,Es],(wd.toList==x.data.toList)=false)(kZ:∀W:World,Calls aB 46 #[.string wd] W fun e w'=>e=.returned (.tuple #[.int .i64 (n:Nat),.bool true])∧W=w')(hn:(Aj 32 r).length=n)(HCH:∀(R':Nat→Prop) (uL uO uF uH uN:Value) (g c B:Nat) (W:World),stN R' W uL uO uF uH uN s→own 9 B W (.slice (some ⟨g,0,none⟩) n c) (Aj 32 r)→Calls aB 47 #[stV uL uO uF uH uN s,.string wd,.slice (some ⟨g,0,none⟩) n c] W (Bs R' s' a W)):
 Calls aB 12 #[stV vL vO vF vH vN s,.string wd,.string r] w (Bs R s' (a) w):=by
 refine' ZJ2;have HM:Hid (∀(g c B:Nat) W,Below w.heap.size w W→own 9 B W (.slice (some ⟨g,0,none⟩) n c) (Aj 32 r)→Calls aB 47 #[.agg #[.slice AL s.letters.length cL,.int .i64 s.day.plan.bins,.int .i64 s.day.plan.passes,.slice AO s.day.plan.order.length cO,.slice AF s.day.fwds.length cF,.slice AH s.day.held.length cH,.int .i64 s.day.size,.slice AN s.net.length cN],.string wd,.slice (some ⟨g,0,none⟩) n c] W (Bs (cut R w.heap.size (w.heap.size+2)) s' a W)):=fun g c B W hW ho=>HCH _ _ _ _ _ _ g c B W (hS.cut hW) ho
 clear HCH;refine' ZUK;go_wp2_with (first|refine' ZJ3|(go_at_call 47;refine(HM.out _ _ _ _ k1.lay O5.out).mono ?_;refine' ZUL)|(refine' ZJ4;have aw:=k1.lt))
 refine' ZAI;refine' ZJ5;exact Bs.fin ff.out L2.out
theorem Lb(R:Nat→Prop)(vL vO vF vH vN s wd r n a w)(hS:stN R w vL vO vF vH vN s)(hz:r.size≤1000000)(h4:∀x∈[Cf,Df,Bg,Es],(wd.toList==x.data.toList)=false)(kZ:∀W:World,Calls aB 46 #[.string wd] W fun e w'=>e=.returned (.tuple #[.int .i64 (n:Nat),.bool false])∧W=w')(hn:(Aj 32 r).length=n)(LS:∀(R':Nat→Prop) (uL uO uF uH uN:Value) (g c B:Nat) (W:World),stN R' W uL uO uF uH uN s→own 9 B W (.slice (some ⟨g,0,none⟩) n c) (Aj 32 r)→Calls aB 48 #[stV uL uO uF uH uN s,.string wd,.slice (some ⟨g,0,none⟩) n c] W fun e w'=>e=.returned (.string (Em a))∧Below W.heap.size W w'):
 Calls aB 12 #[stV vL vO vF vH vN s,.string wd,.string r] w (Bs R s (a) w):=by
 refine' ZJ2;have HM:Hid (∀(g c B:Nat) W,Below w.heap.size w W→own 9 B W (.slice (some ⟨g,0,none⟩) n c) (Aj 32 r)→Calls aB 48 #[.agg #[.slice AL s.letters.length cL,.int .i64 s.day.plan.bins,.int .i64 s.day.plan.passes,.slice AO s.day.plan.order.length cO,.slice AF s.day.fwds.length cF,.slice AH s.day.held.length cH,.int .i64 s.day.size,.slice AN s.net.length cN],.string wd,.slice (some ⟨g,0,none⟩) n c] W fun e w'=>e=.returned (.string (Em a))∧Below W.heap.size W w'):=fun g c B W hW ho=>LS R _ _ _ _ _ g c B W (hS.on (Ct.below R hW)) ho
 clear LS;refine' ZUK;go_wp2_with (first|refine' ZJ3|(refine' ZJ4;have rN:=k1.drew))
 go_region_held3 (fun W=>duo w 36 #[.slice AL s.letters.length cL,.int .i64 s.day.plan.bins,.int .i64 s.day.plan.passes,.slice AO s.day.plan.order.length cO,.slice AF s.day.fwds.length cF,.slice AH s.day.held.length cH,.int .i64 s.day.size,.slice AN s.net.length cN] false W) (first|(with_reducible exact rN)|(with_reducible exact k3)|exact ZAR|fail) (first|(go_at_call 48;(with_reducible refine(HM.out _ _ _ _ rN.lay O5.out.drew).mono ?_);refine' YI;have k3:=rN.below z3;refine' ZCy)|fail)
 all_goals
  refine' ZC3;clear k0 ao k1 rN k3 hr e0 e1 e2 e3 e4 e5 e6 e7 f0 f1 f2 f3 f4 f5 f6 f7
  refine' ZUM;exact ZB8
end Go.Proofs.YtfadhdacjpmmeaaGreatDoor
