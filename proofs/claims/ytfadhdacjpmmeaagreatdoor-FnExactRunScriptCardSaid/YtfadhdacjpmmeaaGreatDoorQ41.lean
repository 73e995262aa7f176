/- Parts. -/
import Derived.Test.YtfadhdacjpmmeaaGreatDoorQ38
set_option linter.unusedVariables false
set_option linter.unusedSimpArgs false
namespace Go.Proofs.YtfadhdacjpmmeaaGreatDoor
set_option maxRecDepth 100000
set_option maxHeartbeats 1600000
open Go.IntKind renaming i64→aI
open Go.Obj renaming cells→aC
open Go.Proofs.Tryz renaming prog→aB
open Go.Value renaming string→aK,int→bC
open Go.RowKit
theorem Yk{n b w W}(h:Below n w W)(hb:n≤b)(x0 x1 x2 x3 x4 x5 x6 x7):Below n w ((((((((W.setCell ⟨b,0,none⟩ x0).setCell ⟨b,1,none⟩ x1).setCell ⟨b,2,none⟩ x2).setCell ⟨b,3,none⟩ x3).setCell ⟨b,4,none⟩ x4).setCell ⟨b,5,none⟩ x5).setCell ⟨b,6,none⟩ x6).setCell ⟨b,7,none⟩ x7):=
 (((((((h.setCell hb x0).setCell hb x1).setCell hb x2).setCell hb x3).setCell hb x4).setCell hb x5).setCell hb x6).setCell hb x7
theorem Bs.fin{R:Nat→Prop}{vL vO vF vH vN x0 x1 x2 x3 x4 x5 x6 x7 s' a w W}(hS:stN (cut R w.heap.size (w.heap.size+2)) W vL vO vF vH vN s')(hl:Below w.heap.size w W):
 Bs R s' a w (.returned (.tuple #[stV vL vO vF vH vN s',.string (Em a)])) ((((((((W.setCell ⟨w.heap.size+1,0,none⟩ x0).setCell ⟨w.heap.size+1,1,none⟩ x1).setCell ⟨w.heap.size+1,2,none⟩ x2).setCell ⟨w.heap.size+1,3,none⟩ x3).setCell ⟨w.heap.size+1,4,none⟩ x4).setCell ⟨w.heap.size+1,5,none⟩ x5).setCell ⟨w.heap.size+1,6,none⟩ x6).setCell ⟨w.heap.size+1,7,none⟩ x7):=
 Bs.of hS ZA (Ct.set8 _ _ _ _ _ _ _ _ _ _ _ _ _ ZA ZA) (Yk hl ZA _ _ _ _ _ _ _ _)
theorem Bs.out{R:Nat→Prop}{s a w w' e}(h:Bs R s a w e w'):∃AL cL AO cO AF cF AH cH AN cN,e=.returned (.tuple #[.agg #[.slice AL s.letters.length cL,.int .i64 s.day.plan.bins,.int .i64 s.day.plan.passes,.slice AO s.day.plan.order.length cO,.slice AF s.day.fwds.length cF,.slice AH s.day.held.length cH,.int .i64 s.day.size,.slice AN s.net.length cN],.string (Em a)])∧stN (plus R w.heap.size) w' (.slice AL s.letters.length cL) (.slice AO s.day.plan.order.length cO) (.slice AF s.day.fwds.length cF) (.slice AH s.day.held.length cH) (.slice AN s.net.length cN) s∧Below w.heap.size w w':=by obtain⟨vL,vO,vF,vH,vN,rfl,hS,hb⟩:=h;refine' ZCv;exact⟨AL,cL,AO,cO,AF,cF,AH,cH,AN,cN,rfl,hS,hb⟩
theorem Q9{R:Nat→Prop}{n m p w vL vO vF vH vN s}(h:stN (plus (cut R n m) p) w vL vO vF vH vN s)(hp:m≤p):stN (cut R n m) w vL vO vF vH vN s:=
 h.mono fun k _ hk=>hk.elim id fun h2=>.inr (aG hp h2)
theorem AzW(R:Nat→Prop)(vL vO vF vH vN s w)(hS:stN R w vL vO vF vH vN s)(ag:okB s.letters=true)(hp:1≤(Co (E9 s.letters)).size):
 Calls aB 11 #[stV vL vO vF vH vN s,.string Mf] w (Bs R {s with letters:=E9 s.letters} (Co (E9 s.letters)) w):=by
 refine' zJ;show Calls aB _ #[.agg #[.slice AL s.letters.length cL,.int .i64 s.day.plan.bins,.int .i64 s.day.plan.passes,.slice AO s.day.plan.order.length cO,.slice AF s.day.fwds.length cF,.slice AH s.day.held.length cH,.int .i64 s.day.size,.slice AN s.net.length cN],.string Mf] w _;refine' ZD9;have HC:Hid (∀W,Below w.heap.size w W→Calls aB 24 #[.slice AL s.letters.length cL] W fun e w'=>∃v',e=.returned (.tuple #[v',.bool true])∧own 119 W.heap.size w' v' (E9 s.letters)∧Below W.heap.size W w'):=fun W hW=>AhF _ s.letters W (hS.l.rd.on hW) ag
 have HM:Hid (∀(v:Value) W,Below w.heap.size w W→rdN (cut R w.heap.size (w.heap.size+2)) W v (E9 s.letters)→Calls aB 25 #[.agg #[.slice AL s.letters.length cL,.int .i64 s.day.plan.bins,.int .i64 s.day.plan.passes,.slice AO s.day.plan.order.length cO,.slice AF s.day.fwds.length cF,.slice AH s.day.held.length cH,.int .i64 s.day.size,.slice AN s.net.length cN],v,.bool true] W (Bs (cut R w.heap.size (w.heap.size+2)) {s with letters:=E9 s.letters} (Co (E9 s.letters)) W)):=fun v W hW hv=>N3 _ _ _ _ _ _ v s _ W (hS.cut hW) hv hp
 refine' ZAy;clear hS ag hp;generalize E9 s.letters=xs at *;refine' ZR3;refine' YB;go_wp2_with (go_at_call 24;refine(HC.out _ k0.lay).mono ?_;refine' ZCt;refine' ZCw;have aw:=k1.lt;have R5:=aA (rdN.of_own (R:=cut R w.heap.size (w.heap.size+2)) o5 fun k hk=>.inr ZA);obtain⟨A5,n5,c5,rfl, -, -, -, -⟩:=o5.rd;clear o5 ah)
 exact ZJl
theorem rdN.nil_{α:Type}[El α]{R:Nat→Prop}{w}:rdN R w (.slice none 0 0) ([]:List α):=fun _ _=>Go.Proofs.YtfadhdacjpmmeaaGreatDoor.rd.nil_
theorem AlD(w W1 W2 W3 W4 box)(T TO:TypeId)(TS TR:TypeId)(h1:W1=w.alloc (.cells box T))(h2:W2=W1.alloc (.cells #[.string ⟨#[48,48,48,48,48,48,48]⟩] TS))(h3:W3=W2.alloc (.cells #[] TR))(h4:W4=W3.alloc (.cells #[.string ⟨#[97]⟩,.slice (some ⟨w.heap.size+1+1,0,none⟩) 0 0] TO)):
 W4.heap[w.heap.size]? =some (.cells box T (0,0))∧rd W4 W4.heap.size (.slice (some ⟨w.heap.size+1,0,none⟩) 1 1) [(⟨#[48,48,48,48,48,48,48]⟩:ByteArray)]∧rd W4 W4.heap.size (.slice (some ⟨w.heap.size+1+1+1,0,none⟩) 1 1) [(⟨⟨#[97]⟩,[]⟩:Ofc)]∧Below w.heap.size w W4:=by
 have z1:W1.heap.size=w.heap.size+1:=by rw[h1];simp
 have z2:W2.heap.size=w.heap.size+1+1:=by rw[h2,←z1];simp
 have z3:W3.heap.size=w.heap.size+1+1+1:=by rw[h3,←z2];simp
 have z4:W4.heap.size=w.heap.size+1+1+1+1:=by rw[h4,←z3];simp
 have EB:Below W1.heap.size W1 W2:=by rw[h2];exact ZAf
 have l23:Below W2.heap.size W2 W3:=by rw[h3];exact ZAf
 have l34:Below W3.heap.size W3 W4:=by rw[h4];exact ZAf
 have DC:Below w.heap.size w W1:=by rw[h1];exact ZAf
 have l24:Below W2.heap.size W2 W4:=l23.trans (l34.mono l23.size);have l14:Below W1.heap.size W1 W4:=EB.trans (l24.mono EB.size);refine⟨?_,?_,?_,DC.trans (l14.mono DC.size)⟩
 ·rw[l14.block w.heap.size ZA,h1]
  exact bD w _
 ·have o:own (α:=ByteArray) TS 0 W2 (.slice (some ⟨W1.heap.size,0,none⟩) 1 1) [(⟨#[48,48,48,48,48,48,48]⟩:ByteArray)]:=by rw[h2];exact own.made1 (α:=ByteArray) W1 TS [.string ⟨#[48,48,48,48,48,48,48]⟩] ⟨#[48,48,48,48,48,48,48]⟩ ⟨ZF,rfl⟩ (aM _)
  rw[z1]at o;exact o.rd.on l24
 ·have hb:W4.heap[w.heap.size+1+1+1]? =some (.cells #[.string ⟨#[97]⟩,.slice (some ⟨w.heap.size+1+1,0,none⟩) 0 0] TO (0,0)):=by have:=bD W3 (.cells #[.string ⟨#[97]⟩,.slice (some ⟨w.heap.size+1+1,0,none⟩) 0 0] TO);rw[←h4,z3]at this;exact this
  refine⟨_,1,1,rfl,rfl,aD _,ZF,fun k hk=>?_⟩;have gx:k=0:=by simp at hk;exact hk
  subst gx;refine⟨w.heap.size+1+1+1,0,[.string ⟨#[97]⟩,.slice (some ⟨w.heap.size+1+1,0,none⟩) 0 0],rfl,ZA,⟨by show(⟨#[97]⟩:ByteArray).size≤maxLen;decide,_,rfl,⟨_,0,0,rfl,rfl,aD _,ZF,rdA.nil_⟩⟩,fun j u hu=>?_⟩;rw[fH _ _ _ _ _ _ hb];simpa using hu
theorem AlW(w):
 Calls aB 8 #[] w fun e w'=>∃AL cL AO cO AF cF AH cH AN cN,e=.returned (.agg #[.slice AL I5.letters.length cL,.int .i64 I5.day.plan.bins,.int .i64 I5.day.plan.passes,.slice AO I5.day.plan.order.length cO,.slice AF I5.day.fwds.length cF,.slice AH I5.day.held.length cH,.int .i64 I5.day.size,.slice AN I5.net.length cN])∧stN (fun _=>True) w' (.slice AL I5.letters.length cL) (.slice AO I5.day.plan.order.length cO) (.slice AF I5.day.fwds.length cF) (.slice AH I5.day.held.length cH) (.slice AN I5.net.length cN) I5∧Below w.heap.size w w':=by
 go_enter Tryz.func8,Tryz.ntmps8
 refine' ZC;obtain⟨W1,h1⟩:∃u,u=w.alloc (aC #[.slice none 0 0,.int .i64 4,.int .i64 2,.slice (some ⟨w.heap.size+1,0,none⟩) 1 1,.slice none 0 0,.slice none 0 0,.int .i64 10,.slice (some ⟨w.heap.size+1+1+1,0,none⟩) 1 1] 36):=⟨_,rfl⟩;obtain⟨W2,h2⟩:∃u,u=W1.alloc (aC #[.string ⟨#[48,48,48,48,48,48,48]⟩] 9):=⟨_,rfl⟩;obtain⟨W3,h3⟩:∃u,u=W2.alloc (aC #[] 181):=⟨_,rfl⟩;obtain⟨W4,h4⟩:∃u,u=W3.alloc (aC #[.string ⟨#[97]⟩,.slice (some ⟨w.heap.size+1+1,0,none⟩) 0 0] 45):=⟨_,rfl⟩;rw[←h1,←h2,←h3,←h4];obtain⟨hb,ro,rn,lb⟩:=AlD w W1 W2 W3 W4 _ _ _ _ _ h1 h2 h3 h4;refine AzM rfl rfl hb gI rfl Tryz.sizeSt rfl ?_;exact⟨none,0,_,1,none,0,none,0,_,1,rfl,⟨rdN.nil_,rdN.of_rd ro fun _ _=>trivial,rdN.nil_,rdN.nil_,rdN.of_rd rn fun _ _=>trivial⟩,lb⟩
theorem Ap4(R:Nat→Prop)(vL vO vF vH vN s w)(hS:stN R w vL vO vF vH vN s)(hi:Bj s.day.plan.bins∧Bj s.day.plan.passes):
 Calls aB 11 #[stV vL vO vF vH vN s,.string Ef] w (Bs R {s with letters:=Dr s.day.plan s.letters} (Co (Dr s.day.plan s.letters)++⟨#[47]⟩++Co (Ha s.day.plan s.letters)) w):=by
 refine' zJ;show Calls aB _ #[.agg #[.slice AL s.letters.length cL,.int .i64 s.day.plan.bins,.int .i64 s.day.plan.passes,.slice AO s.day.plan.order.length cO,.slice AF s.day.fwds.length cF,.slice AH s.day.held.length cH,.int .i64 s.day.size,.slice AN s.net.length cN],.string Ef] w _;refine' ZD9;refine' ZCs;have HC:Hid (∀W,Below w.heap.size w W→Calls aB 27 #[.agg #[.int .i64 s.day.plan.bins,.int .i64 s.day.plan.passes,.slice AO s.day.plan.order.length cO],.slice AL s.letters.length cL] W fun e w'=>∃vX vY,e=.returned (.tuple #[vX,vY,.bool (M4 s.day.plan s.letters)])∧own 119 W.heap.size w' vX (Dr s.day.plan s.letters)∧own 119 W.heap.size w' vY (Ha s.day.plan s.letters)∧apart vX vY∧Below W.heap.size W w'):=fun W hW=>Y0 _ _ s.day.plan s.letters W (om.on hW) (hS.l.rd.on hW)
 refine' ZAy;clear hS hi om;have zx:=Du (Dr s.day.plan s.letters);have zy:=Du (Ha s.day.plan s.letters);generalize M4 s.day.plan s.letters=o at *;generalize Dr s.day.plan s.letters=xs at *;generalize Ha s.day.plan s.letters=ys at *;have HX:=aA (fun(v:Value) (W:World) (h:rd W W.heap.size v xs)=>D6 v xs W h);have HY:=aA (fun(v:Value) (W:World) (h:rd W W.heap.size v ys)=>D6 v ys W h);have de:Hid (Em (Co xs++⟨#[47]⟩++Co ys)=Co xs++⟨#[47]⟩++Co ys++⟨#[10]⟩):=Fh ZAz;generalize Co xs=F at *;generalize Co ys=G at *;refine' ZTD;refine' ZOq;have d8:(Ef.toList==[112,108,97,110])=false:=ZD
 refine' ZOr;refine' YB;go_wp2_with (go_at_call 27;refine(HC.out _ k0.lay).mono ?_;rintro e u1 ⟨vX,vY,rfl,oX,oY, -,z1⟩;refine' ZCw;have e0:=q0 _ k1;have f0:=k1.frozenS 0;have OX:=aA oX;have OY:=aA oY;obtain⟨AX,nX,cX,rfl, -, -, -, -⟩:=oX.rd;obtain⟨AY,nY,cY,rfl, -, -, -, -⟩:=oY.rd;clear oX oY)
 obtain⟨W2,be⟩:∃u,u=u1.setCell ⟨w.heap.size,0,none⟩ (.slice AX nX cX):=⟨_,rfl⟩;rw[←be];have jX:own 119 wB.heap.size W2 (.slice AX nX cX) xs:=by rw[be];exact Bd OX.out ⟨w.heap.size,0,none⟩ _ ZGC
 have OY2:own 119 wB.heap.size W2 (.slice AY nY cY) ys:=by rw[be];exact Bd OY.out ⟨w.heap.size,0,none⟩ _ ZGC
 have k2:duo w 36 #[.slice AX nX cX,.int .i64 s.day.plan.bins,.int .i64 s.day.plan.passes,.slice AO s.day.plan.order.length cO,.slice AF s.day.fwds.length cF,.slice AH s.day.held.length cH,.int .i64 s.day.size,.slice AN s.net.length cN] false W2:=by rw[be];exact k1.put 0 _
 refine' ZEA;have NI:=aA (fun W (h:Below W2.heap.size W2 W)=>HY.out _ W (OY2.rd.on h));refine' z7;clear be e0 f0 q0 q1 q2 q3 q4 q5 q6 q7 k0 k1 z1 jX OY2 ah;refine' ZBX;have p0:∀W,duo w 36 #[.slice AX nX cX,.int .i64 s.day.plan.bins,.int .i64 s.day.plan.passes,.slice AO s.day.plan.order.length cO,.slice AF s.day.fwds.length cF,.slice AH s.day.held.length cH,.int .i64 s.day.size,.slice AN s.net.length cN] false W→W.cell? ⟨w.heap.size,0,none⟩=some (.slice AX nX cX):=fun W h=>(Ac h.box).1.1
 have p1:∀W,duo w 36 #[.slice AX nX cX,.int .i64 s.day.plan.bins,.int .i64 s.day.plan.passes,.slice AO s.day.plan.order.length cO,.slice AF s.day.fwds.length cF,.slice AH s.day.held.length cH,.int .i64 s.day.size,.slice AN s.net.length cN] false W→W.cell? ⟨w.heap.size,1,none⟩=some (.int .i64 s.day.plan.bins):=fun W h=>(Ac h.box).1.2.1
 have p2:∀W,duo w 36 #[.slice AX nX cX,.int .i64 s.day.plan.bins,.int .i64 s.day.plan.passes,.slice AO s.day.plan.order.length cO,.slice AF s.day.fwds.length cF,.slice AH s.day.held.length cH,.int .i64 s.day.size,.slice AN s.net.length cN] false W→W.cell? ⟨w.heap.size,2,none⟩=some (.int .i64 s.day.plan.passes):=fun W h=>(Ac h.box).1.2.2.1
 have p3:∀W,duo w 36 #[.slice AX nX cX,.int .i64 s.day.plan.bins,.int .i64 s.day.plan.passes,.slice AO s.day.plan.order.length cO,.slice AF s.day.fwds.length cF,.slice AH s.day.held.length cH,.int .i64 s.day.size,.slice AN s.net.length cN] false W→W.cell? ⟨w.heap.size,3,none⟩=some (.slice AO s.day.plan.order.length cO):=fun W h=>(Ac h.box).1.2.2.2.1
 have p4:∀W,duo w 36 #[.slice AX nX cX,.int .i64 s.day.plan.bins,.int .i64 s.day.plan.passes,.slice AO s.day.plan.order.length cO,.slice AF s.day.fwds.length cF,.slice AH s.day.held.length cH,.int .i64 s.day.size,.slice AN s.net.length cN] false W→W.cell? ⟨w.heap.size,4,none⟩=some (.slice AF s.day.fwds.length cF):=fun W h=>(Ac h.box).1.2.2.2.2.1
 have p5:∀W,duo w 36 #[.slice AX nX cX,.int .i64 s.day.plan.bins,.int .i64 s.day.plan.passes,.slice AO s.day.plan.order.length cO,.slice AF s.day.fwds.length cF,.slice AH s.day.held.length cH,.int .i64 s.day.size,.slice AN s.net.length cN] false W→W.cell? ⟨w.heap.size,5,none⟩=some (.slice AH s.day.held.length cH):=fun W h=>(Ac h.box).1.2.2.2.2.2.1
 have p6:∀W,duo w 36 #[.slice AX nX cX,.int .i64 s.day.plan.bins,.int .i64 s.day.plan.passes,.slice AO s.day.plan.order.length cO,.slice AF s.day.fwds.length cF,.slice AH s.day.held.length cH,.int .i64 s.day.size,.slice AN s.net.length cN] false W→W.cell? ⟨w.heap.size,6,none⟩=some (.int .i64 s.day.size):=fun W h=>(Ac h.box).1.2.2.2.2.2.2.1
 have p7:∀W,duo w 36 #[.slice AX nX cX,.int .i64 s.day.plan.bins,.int .i64 s.day.plan.passes,.slice AO s.day.plan.order.length cO,.slice AF s.day.fwds.length cF,.slice AH s.day.held.length cH,.int .i64 s.day.size,.slice AN s.net.length cN] false W→W.cell? ⟨w.heap.size,7,none⟩=some (.slice AN s.net.length cN):=fun W h=>(Ac h.box).1.2.2.2.2.2.2.2
 go_region_law (first|(go_simp;go_at_call 23;(with_reducible refine(iv.out _ l2).mono ?_);refine' YI;have k3:=er.below z3;have l3:=Aa l2 z3)|(go_simp;go_at_call 23;(with_reducible refine(NI.out _ l3).mono ?_);rintro e u4 ⟨rfl,z4⟩;have k4:=k3.below z4;have l4:=Aa l3 z4;obtain⟨r0,r1,r2,r3,r4,r5,r6,r7,hr⟩:=k4.res;refine' ZCu)|fail)
 all_goals
  have NH:=aA (RX.out.on (Ct.below _ l4));have L4:=aA k4.lay;refine' ZAI;clear k2 er k3 k4 l2 l3 l4 p0 p1 p2 p3 p4 p5 p6 p7
  refine' ZGD;exact Bs.fin (s':={s with letters:=xs}) ((HS.out.cut L4.out).setL NH.out) L4.out
theorem AtR(R:Nat→Prop)(vL vO vF vH vN s w)(hS:stN R w vL vO vF vH vN s)(hk:Be s.day.fwds=true)(hp:1≤(C5 (Q7 s.day.fwds)).size)(hz:(C5 (Q7 s.day.fwds)).size≤4000000000):
 Calls aB 11 #[stV vL vO vF vH vN s,.string Dx] w (Bs R {s with day:={s.day with fwds:=Q7 s.day.fwds}} (C5 (Q7 s.day.fwds)) w):=by
 refine' zJ;show Calls aB _ #[.agg #[.slice AL s.letters.length cL,.int .i64 s.day.plan.bins,.int .i64 s.day.plan.passes,.slice AO s.day.plan.order.length cO,.slice AF s.day.fwds.length cF,.slice AH s.day.held.length cH,.int .i64 s.day.size,.slice AN s.net.length cN],.string Dx] w _;refine' ZD9;have HC:Hid (∀W,Below w.heap.size w W→Calls aB 33 #[.slice AF s.day.fwds.length cF] W fun e w'=>∃v',e=.returned v'∧own 128 W.heap.size w' v' (Q7 s.day.fwds)∧Below W.heap.size W w'):=fun W hW=>W5 _ s.day.fwds W (hS.f.rd.on hW) hk
 refine' ZAy;clear hS hk;generalize Q7 s.day.fwds=xs at *;refine' ZGE;have de:Hid (Em (C5 xs)=C5 xs++⟨#[10]⟩):=Fh hp;clear hp;generalize C5 xs=F at *;refine' YA;have fs4:=fun W (h:duo w 36 #[.slice AL s.letters.length cL,.int .i64 s.day.plan.bins,.int .i64 s.day.plan.passes,.slice AO s.day.plan.order.length cO,.slice AF s.day.fwds.length cF,.slice AH s.day.held.length cH,.int .i64 s.day.size,.slice AN s.net.length cN] false W)=>h.frozenS 4
 refine' ZRj;have d8:(Dx.toList==[112,108,97,110])=false:=ZD
 have fd:(Dx.toList==[115,101,113,117,101,110,99,101])=false:=ZD
 have gq:(Dx.toList==[109,111,118,101,100])=false:=ZD
 have i8:(Dx.toList==[102,111,114,119,97,114,100,115])=false:=ZD
 have jQ:(Dx.toList==[101,110,100,108,101,115,115])=false:=ZD
 refine' ZRk;refine' YB;go_wp2_with (go_at_call 33;refine(HC.out _ k0.lay).mono ?_;rintro e u1 ⟨vX,rfl,oX,z1⟩;refine' ZCw;have e4:=q4 _ k1;have f4:=k1.frozenS 4;refine' ZJm)
 refine' ZTF;refine' ZEA;refine' z7;clear be e4 f4 fs4 q0 q1 q2 q3 q4 q5 q6 q7 k0 k1 z1 jX ah;refine' ZJn;go_region_law (first|(go_simp;go_at_call 30;refine' ZBY)|fail)
 all_goals
  have NH:=aA (RX.out.on (Ct.below _ l3));have L4:=aA k3.lay;refine' ZAI;clear k2 er k3 l2 l3 p0 p1 p2 p3 p4 p5 p6 p7
  refine' ZGD;exact Bs.fin (s':={s with day:={s.day with fwds:=xs}}) ((HS.out.cut L4.out).setF NH.out) L4.out
theorem Bc7(R:Nat→Prop)(vL vO vF vH vN s w)(hS:stN R w vL vO vF vH vN s)(hi:Bj s.day.plan.bins∧Bj s.day.plan.passes∧Bj s.day.size)(hl:AyD (Dh s.day s.letters) 1048576)(hp:1≤(Sx (Dh s.day s.letters)).size)(hz:(Sx (Dh s.day s.letters)).size≤4000000000):
 Calls aB 11 #[stV vL vO vF vH vN s,.string G3] w (Bs R s (Sx (Dh s.day s.letters)) w):=by
 refine' zJ;show Calls aB _ #[.agg #[.slice AL s.letters.length cL,.int .i64 s.day.plan.bins,.int .i64 s.day.plan.passes,.slice AO s.day.plan.order.length cO,.slice AF s.day.fwds.length cF,.slice AH s.day.held.length cH,.int .i64 s.day.size,.slice AN s.net.length cN],.string G3] w _;refine' ZD9;refine' ZJo;have HC:Hid (∀W,Below w.heap.size w W→Calls aB 34 #[.agg #[.int .i64 s.day.plan.bins,.int .i64 s.day.plan.passes,.slice AO s.day.plan.order.length cO,.slice AF s.day.fwds.length cF,.slice AH s.day.held.length cH,.int .i64 s.day.size],.slice AL s.letters.length cL] W fun e w'=>∃vR,e=.returned (.tuple #[vR,.bool (Ka s.day s.letters)])∧Wq 119 W.heap.size w' vR (Dh s.day s.letters)∧Below W.heap.size W w'):=fun W hW=>Zf _ _ s.day s.letters W (xq.on hW) (hS.l.rd.on hW)
 refine' ZAy;clear hS hi xq;generalize Ka s.day s.letters=o at *;generalize Dh s.day s.letters=r at *;have HX:=aA (fun(v:Value) (W:World) (h:rdR W W.heap.size v r)=>Tx v r W h hl);have de:Hid (Em (Sx r)=Sx r++⟨#[10]⟩):=Fh hp;clear hp hl;generalize Sx r=F at *;refine' YA;refine' ZO6;have d8:(G3.toList==[112,108,97,110])=false:=ZD
 have fd:(G3.toList==[115,101,113,117,101,110,99,101])=false:=ZD
 have gq:(G3.toList==[109,111,118,101,100])=false:=ZD
 have i8:(G3.toList==[102,111,114,119,97,114,100,115])=false:=ZD
 have jQ:(G3.toList==[101,110,100,108,101,115,115])=false:=ZD
 have kJ:(G3.toList==[100,105,114,101,99,116])=false:=ZD
 have lP:(G3.toList==[104,101,108,100])=false:=ZD
 have cm:(G3.toList==[100,97,121])=true:=ZD
 generalize G3=wd at *;refine' YB;go_wp2_with (go_at_call 34;refine' ZTG;obtain⟨w0,w1,w2,w3,rfl,o0,o1,o2,o3, -⟩:=oR;obtain⟨A0,n0,c0,rfl, -, -, -, -⟩:=o0.rd;refine' ZBx;obtain⟨A2,n2,c2,rfl, -, -, -, -⟩:=o2.rd;obtain⟨A3,n3,c3,rfl, -, -, -, -⟩:=o3.rd;clear o0 o1 o2 o3)
 obtain⟨W2,be⟩:∃u,u=u1.alloc (aC #[.slice A0 n0 c0,.slice A1 n1 c1,.slice A2 n2 c2,.slice A3 n3 c3] 78):=⟨_,rfl⟩;rw[←be];have dj:W2.heap[u1.heap.size]? =some (.cells #[.slice A0 n0 c0,.slice A1 n1 c1,.slice A2 n2 c2,.slice A3 n3 c3] 78 (0,0)):=by rw[be];exact bD u1 _
 have EB:Below u1.heap.size u1 W2:=by rw[be];exact ZAf
 have k2:=k1.below EB;have iv:=aA (fun W (h:Below W2.heap.size W2 W)=>HX.out _ W ((RR.out.on EB).on h));refine' z7;have g0:=fun W (h:Below W2.heap.size W2 W)=>(Ap3 ((h.block _ (Array.getElem?_eq_some_iff.1 dj).1).trans dj)).1
 have g1:=fun W (h:Below W2.heap.size W2 W)=>(Ap3 ((h.block _ (Array.getElem?_eq_some_iff.1 dj).1).trans dj)).2.1
 have g2:=fun W (h:Below W2.heap.size W2 W)=>(Ap3 ((h.block _ (Array.getElem?_eq_some_iff.1 dj).1).trans dj)).2.2.1
 have g3:=fun W (h:Below W2.heap.size W2 W)=>(Ap3 ((h.block _ (Array.getElem?_eq_some_iff.1 dj).1).trans dj)).2.2.2.1
 clear be dj k0 k1 z1 EB RR;refine' ZBX;go_region_law (first|(go_simp;go_at_call 35;refine' ZBY)|fail)
 all_goals
  have L4:=aA k3.lay;refine' ZAI;clear k2 er k3 l2 l3 q0 q1 q2 q3 q4 q5 q6 q7
  refine' ZGD;exact Bs.fin (HS.out.cut L4.out) L4.out
theorem AxC(R:Nat→Prop)(vL vO vF vH vN s w)(hS:stN R w vL vO vF vH vN s)(hi:Bj s.day.plan.bins∧Bj s.day.plan.passes∧Bj s.day.size)(hk:Vr (Eu s.day s.letters))(hp:1≤(Qq (Eu s.day s.letters)).size)(hz:(Qq (Eu s.day s.letters)).size≤4000000000):
 Calls aB 11 #[stV vL vO vF vH vN s,.string Dq] w (Bs R s (Qq (Eu s.day s.letters)) w):=by
 refine' zJ;show Calls aB _ #[.agg #[.slice AL s.letters.length cL,.int .i64 s.day.plan.bins,.int .i64 s.day.plan.passes,.slice AO s.day.plan.order.length cO,.slice AF s.day.fwds.length cF,.slice AH s.day.held.length cH,.int .i64 s.day.size,.slice AN s.net.length cN],.string Dq] w _;refine' ZD9;refine' ZJo;have HC:Hid (∀W,Below w.heap.size w W→Calls aB 36 #[.agg #[.int .i64 s.day.plan.bins,.int .i64 s.day.plan.passes,.slice AO s.day.plan.order.length cO,.slice AF s.day.fwds.length cF,.slice AH s.day.held.length cH,.int .i64 s.day.size],.slice AL s.letters.length cL] W fun e w'=>∃v',e=.returned (.tuple #[v',.bool (Tw s.day s.letters)])∧Fu 27 119 W.heap.size w' v' (Eu s.day s.letters)∧Below W.heap.size W w'):=fun W hW=>Aj1 _ _ s.day s.letters W (xq.on hW) (hS.l.rd.on hW)
 refine' ZAy;clear hS hi xq;generalize Tw s.day s.letters=o at *;generalize Eu s.day s.letters=r at *;have HX:=aA (fun(v:Value) (W:World) (h:rd W W.heap.size v r)=>Ac2 v r W h hk);have de:Hid (Em (Qq r)=Qq r++⟨#[10]⟩):=Fh hp;clear hp hk;generalize Qq r=F at *;refine' YA;refine' ZO4;have d8:(Dq.toList==[112,108,97,110])=false:=ZD
 have fd:(Dq.toList==[115,101,113,117,101,110,99,101])=false:=ZD
 have gq:(Dq.toList==[109,111,118,101,100])=false:=ZD
 have i8:(Dq.toList==[102,111,114,119,97,114,100,115])=false:=ZD
 have jQ:(Dq.toList==[101,110,100,108,101,115,115])=false:=ZD
 have kJ:(Dq.toList==[100,105,114,101,99,116])=false:=ZD
 have lP:(Dq.toList==[104,101,108,100])=false:=ZD
 have nK:(Dq.toList==[100,97,121])=false:=ZD
 refine' ZO5;refine' YB;go_wp2_with (go_at_call 36;refine' ZTG;obtain⟨A0,n0,c0,rfl, -, -, -, -⟩:=oR.rd;clear oR)
 have iv:=aA (fun W (h:Below u1.heap.size u1 W)=>HX.out _ W (RR.out.on h));clear k0 z1 RR;have er:=k1.drew;have l2:=Ag (aF u1.heap.size u1)
 go_region_law (first|(go_simp;go_at_call 37;refine' ZBY)|fail)
 all_goals
  have L4:=aA k3.lay;refine' ZAI;clear k1 er k3 l2 l3 q0 q1 q2 q3 q4 q5 q6 q7
  refine' ZGD;exact Bs.fin (HS.out.cut L4.out) L4.out
theorem AhT(R:Nat→Prop)(vL vO vF vH vN s a b B g c w)(hS:stN R w vL vO vF vH vN s)(hf:own 9 B w (.slice (some ⟨g,0,none⟩) 2 c) [a,b])(hk:Be s.day.fwds=true)(z0:a.size≤maxLen)(z1:b.size≤maxLen)(ho:Ig s.day.fwds a b=true)(hp:1≤(C5 (My s.day.fwds a b)).size)(hz:(C5 (My s.day.fwds a b)).size≤1000000000):
 Calls aB 47 #[stV vL vO vF vH vN s,.string Bt,.slice (some ⟨g,0,none⟩) 2 c] w (Bs R {s with day:={s.day with fwds:=My s.day.fwds a b}} (C5 (My s.day.fwds a b)) w):=by
 refine' ZTb;have HC:Hid (∀W,Below w.heap.size w W→Calls aB 95 #[.slice AF s.day.fwds.length cF,.string a,.string b] W fun e w'=>∃v',e=.returned (.tuple #[v',.bool true])∧own 128 W.heap.size w' v' (My s.day.fwds a b)∧Below W.heap.size W w'):=fun W hW=>ZTc
 refine' ZGO;clear ho;generalize My s.day.fwds a b=xs at *;refine' ZTd;refine' ZTe;all_goals exact ZTf
theorem AiS(R:Nat→Prop)(vL vO vF vH vN s a b B g c w)(hS:stN R w vL vO vF vH vN s)(hf:own 9 B w (.slice (some ⟨g,0,none⟩) 2 c) [a,b])(hk:Be s.day.fwds=true)(z0:a.size≤maxLen)(z1:b.size≤maxLen)(ho:Ig s.day.fwds a b=false)(hz:(C5 (My s.day.fwds a b)).size≤1000000000):
 Calls aB 47 #[stV vL vO vF vH vN s,.string Bt,.slice (some ⟨g,0,none⟩) 2 c] w (Bs R s (⟨#[]⟩) w):=by
 refine' ZTb;have HC:Hid (∀W,Below w.heap.size w W→Calls aB 95 #[.slice AF s.day.fwds.length cF,.string a,.string b] W fun e w'=>∃v',e=.returned (.tuple #[v',.bool false])∧own 128 W.heap.size w' v' (My s.day.fwds a b)∧Below W.heap.size W w'):=fun W hW=>ZTc
 refine' ZGO;clear ho;generalize My s.day.fwds a b=xs at *;refine' ZGE;have dy:=aA (fun W=>Fa (C5 xs) W);refine' ZGP;refine' ZTe;all_goals exact ZTg
theorem Ap8(R:Nat→Prop)(vL vO vF vH vN s a B g c w)(hS:stN R w vL vO vF vH vN s)(hf:own 9 B w (.slice (some ⟨g,0,none⟩) 1 c) [a])(hk:Be s.day.fwds=true)(ho:Jy s.day.fwds a=true)(hp:1≤(C5 (N6 s.day.fwds a)).size)(hz:(C5 (N6 s.day.fwds a)).size≤1000000000):
 Calls aB 47 #[stV vL vO vF vH vN s,.string C4,.slice (some ⟨g,0,none⟩) 1 c] w (Bs R {s with day:={s.day with fwds:=N6 s.day.fwds a}} (C5 (N6 s.day.fwds a)) w):=by
 refine' ZTh;have HC:Hid (∀W,Below w.heap.size w W→Calls aB 96 #[.slice AF s.day.fwds.length cF,.string a] W fun e w'=>∃v',e=.returned (.tuple #[v',.bool true])∧own 128 W.heap.size w' v' (N6 s.day.fwds a)∧Below W.heap.size W w'):=fun W hW=>ZTi
 refine' ZBa;clear hS hf x0;clear ho;generalize N6 s.day.fwds a=xs at *;refine' ZTd;refine' ZTj;all_goals exact ZTf
theorem ArI(R:Nat→Prop)(vL vO vF vH vN s a B g c w)(hS:stN R w vL vO vF vH vN s)(hf:own 9 B w (.slice (some ⟨g,0,none⟩) 1 c) [a])(hk:Be s.day.fwds=true)(ho:Jy s.day.fwds a=false)(hz:(C5 (N6 s.day.fwds a)).size≤1000000000):
 Calls aB 47 #[stV vL vO vF vH vN s,.string C4,.slice (some ⟨g,0,none⟩) 1 c] w (Bs R s (⟨#[]⟩) w):=by
 refine' ZTh;have HC:Hid (∀W,Below w.heap.size w W→Calls aB 96 #[.slice AF s.day.fwds.length cF,.string a] W fun e w'=>∃v',e=.returned (.tuple #[v',.bool false])∧own 128 W.heap.size w' v' (N6 s.day.fwds a)∧Below W.heap.size W w'):=fun W hW=>ZTi
 refine' ZBa;clear hS hf x0;clear ho;generalize N6 s.day.fwds a=xs at *;refine' ZGE;have dy:=aA (fun W=>Fa (C5 xs) W);refine' ZGP;refine' ZTj;all_goals exact ZTg
theorem ifB{f:Nat}{args w r}(h:Calls aB f args w fun e w'=>e=r∧w=w'):Calls aB f args w fun e w'=>e=r∧Below w.heap.size w w':=h.mono fun e w' h=>⟨h.1,h.2▸aF _ _⟩
theorem stZ{R:Nat→Prop}{w vL vO vF vH vN s}(h:stN R w vL vO vF vH vN s)(n):stN R w vL vO vF vH vN {s with day:={s.day with size:=n}}:=⟨h.l,h.o,h.f,h.h,h.n⟩
theorem AnP(R:Nat→Prop)(vL vO vF vH vN s f B g c w)(hS:stN R w vL vO vF vH vN s)(hf:own 9 B w (.slice (some ⟨g,0,none⟩) 1 c) [f])(hz:f.size≤maxLen)(ho:Fp (Am f)=true):
 Calls aB 47 #[stV vL vO vF vH vN s,.string Dk,.slice (some ⟨g,0,none⟩) 1 c] w (Bs R {s with day:={s.day with size:=Am f}} (okW) w):=by
 refine' ZTk;obtain⟨wA,ae⟩:∃u,u=w.alloc (aC #[.slice AL s.letters.length cL,.int .i64 s.day.plan.bins,.int .i64 s.day.plan.passes,.slice AO s.day.plan.order.length cO,.slice AF s.day.fwds.length cF,.slice AH s.day.held.length cH,.int .i64 (Am f),.slice AN s.net.length cN] 36):=⟨_,rfl⟩;refine' ZJj;refine' ZD8;have ao:=k0.drew;clear m0;refine' ZTl;refine' ZGQ;have q0:∀W,duo w 36 #[.slice AL s.letters.length cL,.int .i64 s.day.plan.bins,.int .i64 s.day.plan.passes,.slice AO s.day.plan.order.length cO,.slice AF s.day.fwds.length cF,.slice AH s.day.held.length cH,.int .i64 (Am f),.slice AN s.net.length cN] false W→W.cell? ⟨w.heap.size,0,none⟩=some (.slice AL s.letters.length cL):=fun W h=>(Ac h.box).1.1
 have q1:∀W,duo w 36 #[.slice AL s.letters.length cL,.int .i64 s.day.plan.bins,.int .i64 s.day.plan.passes,.slice AO s.day.plan.order.length cO,.slice AF s.day.fwds.length cF,.slice AH s.day.held.length cH,.int .i64 (Am f),.slice AN s.net.length cN] false W→W.cell? ⟨w.heap.size,1,none⟩=some (.int .i64 s.day.plan.bins):=fun W h=>(Ac h.box).1.2.1
 have q2:∀W,duo w 36 #[.slice AL s.letters.length cL,.int .i64 s.day.plan.bins,.int .i64 s.day.plan.passes,.slice AO s.day.plan.order.length cO,.slice AF s.day.fwds.length cF,.slice AH s.day.held.length cH,.int .i64 (Am f),.slice AN s.net.length cN] false W→W.cell? ⟨w.heap.size,2,none⟩=some (.int .i64 s.day.plan.passes):=fun W h=>(Ac h.box).1.2.2.1
 have q3:∀W,duo w 36 #[.slice AL s.letters.length cL,.int .i64 s.day.plan.bins,.int .i64 s.day.plan.passes,.slice AO s.day.plan.order.length cO,.slice AF s.day.fwds.length cF,.slice AH s.day.held.length cH,.int .i64 (Am f),.slice AN s.net.length cN] false W→W.cell? ⟨w.heap.size,3,none⟩=some (.slice AO s.day.plan.order.length cO):=fun W h=>(Ac h.box).1.2.2.2.1
 have q4:∀W,duo w 36 #[.slice AL s.letters.length cL,.int .i64 s.day.plan.bins,.int .i64 s.day.plan.passes,.slice AO s.day.plan.order.length cO,.slice AF s.day.fwds.length cF,.slice AH s.day.held.length cH,.int .i64 (Am f),.slice AN s.net.length cN] false W→W.cell? ⟨w.heap.size,4,none⟩=some (.slice AF s.day.fwds.length cF):=fun W h=>(Ac h.box).1.2.2.2.2.1
 have q5:∀W,duo w 36 #[.slice AL s.letters.length cL,.int .i64 s.day.plan.bins,.int .i64 s.day.plan.passes,.slice AO s.day.plan.order.length cO,.slice AF s.day.fwds.length cF,.slice AH s.day.held.length cH,.int .i64 (Am f),.slice AN s.net.length cN] false W→W.cell? ⟨w.heap.size,5,none⟩=some (.slice AH s.day.held.length cH):=fun W h=>(Ac h.box).1.2.2.2.2.2.1
 have q6:∀W,duo w 36 #[.slice AL s.letters.length cL,.int .i64 s.day.plan.bins,.int .i64 s.day.plan.passes,.slice AO s.day.plan.order.length cO,.slice AF s.day.fwds.length cF,.slice AH s.day.held.length cH,.int .i64 (Am f),.slice AN s.net.length cN] false W→W.cell? ⟨w.heap.size,6,none⟩=some (.int .i64 (Am f)):=fun W h=>(Ac h.box).1.2.2.2.2.2.2.1
 have q7:∀W,duo w 36 #[.slice AL s.letters.length cL,.int .i64 s.day.plan.bins,.int .i64 s.day.plan.passes,.slice AO s.day.plan.order.length cO,.slice AF s.day.fwds.length cF,.slice AH s.day.held.length cH,.int .i64 (Am f),.slice AN s.net.length cN] false W→W.cell? ⟨w.heap.size,7,none⟩=some (.slice AN s.net.length cN):=fun W h=>(Ac h.box).1.2.2.2.2.2.2.2
 have x0:=Bx hf 0 ZE;refine' ZTm;go_region_held3 (fun W=>duo w 36 #[.slice AL s.letters.length cL,.int .i64 s.day.plan.bins,.int .i64 s.day.plan.passes,.slice AO s.day.plan.order.length cO,.slice AF s.day.fwds.length cF,.slice AH s.day.held.length cH,.int .i64 (Am f),.slice AN s.net.length cN] false W) (first|(with_reducible exact ao)|(with_reducible exact k3)|exact ZAR|fail) (first|(refine' ZB7;refine' YI;have k3:=ao.below z3;refine' ZCy)|fail)
 all_goals refine' ZJx;exact Bs.fin (s':={s with day:={s.day with size:=Am f}}) (stZ (HS.out.cut L4.out) _) L4.out
theorem ArX(R:Nat→Prop)(vL vO vF vH vN s f B g c w)(hS:stN R w vL vO vF vH vN s)(hf:own 9 B w (.slice (some ⟨g,0,none⟩) 1 c) [f])(hz:f.size≤maxLen)(ho:Fp (Am f)=false):
 Calls aB 47 #[stV vL vO vF vH vN s,.string Dk,.slice (some ⟨g,0,none⟩) 1 c] w (Bs R s (⟨#[]⟩) w):=by
 refine' ZTk;refine' ZAS;refine' ZTl;refine' ZGR;refine' ZBa;refine' ZTm;go_region_held3 (fun W=>duo w 36 #[.slice AL s.letters.length cL,.int .i64 s.day.plan.bins,.int .i64 s.day.plan.passes,.slice AO s.day.plan.order.length cO,.slice AF s.day.fwds.length cF,.slice AH s.day.held.length cH,.int .i64 s.day.size,.slice AN s.net.length cN] false W) (first|(with_reducible exact ao)|(with_reducible exact k3)|exact ZAR|fail) (first|(refine' ZB7;refine' YI;have k3:=ao.below z3;refine' ZCy)|fail)
 all_goals refine' ZJx;exact ZB8
theorem Ao2(R:Nat→Prop)(vL vO vF vH vN s f B g c w)(hS:stN R w vL vO vF vH vN s)(hf:own 9 B w (.slice (some ⟨g,0,none⟩) 1 c) [f])(hz:f.size≤maxLen)(ho:Jo s.letters (Am f)=true)(hp:1≤(Co (spL s.letters (Am f))).size):
 Calls aB 47 #[stV vL vO vF vH vN s,.string C8,.slice (some ⟨g,0,none⟩) 1 c] w (Bs R {s with letters:=spL s.letters (Am f)} (Co (spL s.letters (Am f))) w):=by
 refine' ZTn;have HC:Hid (∀W,Below w.heap.size w W→Calls aB 98 #[.slice AL s.letters.length cL,.int .i64 (Am f)] W fun e w'=>∃v',e=.returned (.tuple #[v',.bool true])∧own 119 W.heap.size w' v' (spL s.letters (Am f))∧Below W.heap.size W w'):=fun W hW=>ZTo
 have HM:Hid (∀(v:Value) W,Below w.heap.size w W→rdN (cut R w.heap.size (w.heap.size+2)) W v (spL s.letters (Am f))→Calls aB 25 #[.agg #[.slice AL s.letters.length cL,.int .i64 s.day.plan.bins,.int .i64 s.day.plan.passes,.slice AO s.day.plan.order.length cO,.slice AF s.day.fwds.length cF,.slice AH s.day.held.length cH,.int .i64 s.day.size,.slice AN s.net.length cN],v,.bool true] W (Bs (cut R w.heap.size (w.heap.size+2)) {s with letters:=spL s.letters (Am f)} (Co (spL s.letters (Am f))) W)):=fun v W hW hv=>N3 _ _ _ _ _ _ v s _ W (hS.cut hW) hv hp
 refine' ZBa;clear hS hf x0;clear hz ho hp;exact ZTp
theorem ArA(R:Nat→Prop)(vL vO vF vH vN s f B g c w)(hS:stN R w vL vO vF vH vN s)(hf:own 9 B w (.slice (some ⟨g,0,none⟩) 1 c) [f])(hz:f.size≤maxLen)(ho:Jo s.letters (Am f)=false):
 Calls aB 47 #[stV vL vO vF vH vN s,.string C8,.slice (some ⟨g,0,none⟩) 1 c] w (Bs R s (⟨#[]⟩) w):=by
 refine' ZTn;have HC:Hid (∀W,Below w.heap.size w W→Calls aB 98 #[.slice AL s.letters.length cL,.int .i64 (Am f)] W fun e w'=>∃v',e=.returned (.tuple #[v',.bool false])∧own 119 W.heap.size w' v' (spL s.letters (Am f))∧Below W.heap.size W w'):=fun W hW=>ZTo
 have HM:Hid (∀(v:Value) W,Below w.heap.size w W→rdN (cut R w.heap.size (w.heap.size+2)) W v (spL s.letters (Am f))→Calls aB 25 #[.agg #[.slice AL s.letters.length cL,.int .i64 s.day.plan.bins,.int .i64 s.day.plan.passes,.slice AO s.day.plan.order.length cO,.slice AF s.day.fwds.length cF,.slice AH s.day.held.length cH,.int .i64 s.day.size,.slice AN s.net.length cN],v,.bool false] W (Bs (cut R w.heap.size (w.heap.size+2)) s ⟨#[]⟩ W)):=fun v W hW _=>Uh _ _ _ _ _ _ v s W (hS.cut hW)
 refine' ZBa;clear hS hf x0;clear hz ho;exact ZTp
end Go.Proofs.YtfadhdacjpmmeaaGreatDoor
