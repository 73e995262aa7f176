/- Parts. -/
import Derived.Test.YtfadhdacjpmmeaaGreatDoorQ38
import Derived.Test.YtfadhdacjpmmeaaGreatDoorQ36
set_option linter.unusedVariables false
set_option linter.unusedSimpArgs false
namespace Go.Proofs.YtfadhdacjpmmeaaGreatDoor
set_option maxRecDepth 100000
set_option maxHeartbeats 600000
open Go.IntKind renaming i64→aI
open Go.Obj renaming cells→aC
open Go.Proofs.Tryz renaming prog→aB
open Go.Value renaming string→aK,int→bC
open Go.RowKit
theorem AmN(R:Nat→Prop)(vL vO vF vH vN s f0 f1 f2 w)(hS:stN R w vL vO vF vH vN s)(B g c)(hf:own 9 B w (.slice (some ⟨g,0,none⟩) 3 c) [f0,f1,f2])(z0:f0.size≤maxLen)(z1:f1.size≤maxLen)(z2:f2.size≤maxLen)(hi:Bj s.day.plan.bins∧Bj s.day.plan.passes):
 Calls aB 108 #[stV vL vO vF vH vN s,.slice (some ⟨g,0,none⟩) 3 c] w fun e w'=>e=.returned (.string (Em (Jp s.day.plan s.letters (Am f0) (Am f1) (Am f2))))∧Below w.heap.size w w':=by
 refine' ZTR;show Calls aB _ #[.agg #[.slice AL s.letters.length cL,.int .i64 s.day.plan.bins,.int .i64 s.day.plan.passes,.slice AO s.day.plan.order.length cO,.slice AF s.day.fwds.length cF,.slice AH s.day.held.length cH,.int .i64 s.day.size,.slice AN s.net.length cN],.slice (some ⟨g,0,none⟩) 3 c] w _;refine' YN;have pM:rdP w w.heap.size (.agg #[.int .i64 s.day.plan.bins,.int .i64 s.day.plan.passes,.slice AO s.day.plan.order.length cO]) s.day.plan:=⟨_,rfl,hi.1,hi.2,hS.o.rd⟩;have rA:=aA (fun W=>Gh f0 W z0);have pL:=aA (fun W=>Gh f1 W z1);have th:=aA (fun W=>Gh f2 W z2);refine' ZR4;have HM:Hid (∀(vm:Value) (W:World),Below w.heap.size w W→rd W W.heap.size vm [(⟨n1,n2⟩:Mis)]→Calls aB 187 #[.agg #[.int .i64 s.day.plan.bins,.int .i64 s.day.plan.passes,.slice AO s.day.plan.order.length cO],.slice AL s.letters.length cL,.int .i64 n0,vm] W fun e w'=>∃vL,e=.returned (.tuple #[vL,.bool (Lo s.day.plan s.letters n0 [⟨n1,n2⟩])])∧own 119 W.heap.size w' vL (Fr s.day.plan s.letters n0 [⟨n1,n2⟩])∧Below W.heap.size W w'):=fun vm W hW hm=>Ab2 _ _ vm s.day.plan s.letters n0 [⟨n1,n2⟩] W (pM.on hW) (hS.l.rd.on hW) hm
 refine' ZR5;have hop:Lo s.day.plan s.letters n0 [⟨n1,n2⟩]=true→1≤(Co (Fr s.day.plan s.letters n0 [⟨n1,n2⟩])).size:=fun h=>Ui (BaB h)
 refine' ZR6;have xz:=aA (fun(v:Value) (W:World) (h:rd W W.heap.size v L)=>D6 v L W h);have ib:=Du L;have dy:=aA (fun W=>Lt ok (Co L) W ZA hop);rw[←HQ.out]at dy;generalize Co L=F at *;refine' ZCx;refine' ZTS;clear z0 z1 z2 hi pM bt dj rX ib hop;go_enter Tryz.func108,Tryz.ntmps108
 refine' ZBL;have ka:=stS.alloc ao (aC #[.int .i64 n1,.int .i64 n2] 170)
 go_region_held3 (fun W=>stS w w.heap.size 36 #[.slice AL s.letters.length cL,.int .i64 s.day.plan.bins,.int .i64 s.day.plan.passes,.slice AO s.day.plan.order.length cO,.slice AF s.day.fwds.length cF,.slice AH s.day.held.length cH,.int .i64 s.day.size,.slice AN s.net.length cN] W) (first|(with_reducible exact ao)|(with_reducible exact ka)|(exact stS.alloc ao _)|fail) (first|(go_at_call 93;refine' ZJF)|fail)
 all_goals
  obtain⟨W2,be⟩:∃u,u=(wA.alloc (aC #[.int .i64 n1,.int .i64 n2] 170)).drew:=⟨_,rfl⟩;rw[←be];have k2:stS w w.heap.size 36 #[.slice AL s.letters.length cL,.int .i64 s.day.plan.bins,.int .i64 s.day.plan.passes,.slice AO s.day.plan.order.length cO,.slice AF s.day.fwds.length cF,.slice AH s.day.held.length cH,.int .i64 s.day.size,.slice AN s.net.length cN] W2:=by rw[be];exact(k0.alloc _).drew
  have MV:rd W2 W2.heap.size (.slice (some ⟨wA.heap.size,0,none⟩) 1 1) [(⟨n1,n2⟩:Mis)]:=by rw[be];exact NR.out wA
  have JK:=aA (fun W (hW:Below W2.heap.size W2 W)=>HM.out _ W (k2.below hW).lay (MV.on hW));replace q0:=fun W (hW:Below W2.heap.size W2 W)=>q0 W (k2.below hW)
  replace q1:=fun W (hW:Below W2.heap.size W2 W)=>q1 W (k2.below hW)
  replace q2:=fun W (hW:Below W2.heap.size W2 W)=>q2 W (k2.below hW)
  replace q3:=fun W (hW:Below W2.heap.size W2 W)=>q3 W (k2.below hW)
  replace y0:=fun W (hW:Below W2.heap.size W2 W)=>y0 W (k2.below hW)
  refine' z7;clear be MV y1 y2 k0 ao ka;have ld:=Ag (aF W2.heap.size W2)
  refine' ZC;go_region_held3 (fun W=>Below W2.heap.size W2 W) (first|(with_reducible exact ld)|(with_reducible exact l9)|fail) (first|(go_at_call 93;(with_reducible refine(rA.out _).mono ?_);refine' ZP)|(go_at_call 187;(with_reducible refine(JK.out _ ld).mono ?_);rintro e u9 ⟨v9,rfl,o9,z9⟩;have l9:=Aa ld z9;have R9:=aA o9.rd;obtain⟨A9,n9,m9,rfl, -, -, -, -⟩:=o9.rd;clear o9)|fail)
  all_goals
   have UW:=aA (xz.out _ _ R9.out);have k9:=k2.below l9;clear l9 z9 ld q0 q1 q2 q3 y0
   go_wp2_with (first|(go_at_call 23;refine UW.out.mono ?_;rintro e u10 ⟨rfl,z10⟩;have k10:=k9.below z10)|(refine' ZGI))
   have K:=aA k10.lay;exact ZB6
theorem AiH(R:Nat→Prop)(vL vO vF vH vN s st c w)(hS:stN R w vL vO vF vH vN s)(hz:c.size≤maxLen)(hn:(Cs s.net st c).2=0)(hl:((Cs s.net st c).1.map (Bw s.net)).length≤1000)(hq:∀p∈(Cs s.net st c).1.map (Bw s.net),1≤p.size∧p.size≤1000)(qB:(Cb ((Cs s.net st c).1.map (Bw s.net))).size≤1000000):
 Calls aB 109 #[stV vL vO vF vH vN s,.string st,.string c] w fun e w'=>e=.returned (.string (Em (Cb ((Cs s.net st c).1.map (Bw s.net))++⟨#[32]⟩++⟨#[104,111,109,101]⟩)))∧Below w.heap.size w w':=by
 refine' ZGJ;have HC:Hid (∀W,stS w w.heap.size 36 #[.slice AL s.letters.length cL,.int .i64 s.day.plan.bins,.int .i64 s.day.plan.passes,.slice AO s.day.plan.order.length cO,.slice AF s.day.fwds.length cF,.slice AH s.day.held.length cH,.int .i64 s.day.size,.slice AN s.net.length cN] W→Calls aB 188 #[.slice AN s.net.length cN,.string st,.string c] W fun e w'=>∃v',e=.returned (.tuple #[v',.int .i64 0])∧own 9 W.heap.size w' v' ((Cs s.net st c).1.map (Bw s.net))∧Below W.heap.size W w'):=fun W h0=>ZGK
 refine' ZGL;have qu:Hid (Em (Cb ((Cs s.net st c).1.map (Bw s.net))++⟨#[32]⟩++⟨#[104,111,109,101]⟩)=Cb ((Cs s.net st c).1.map (Bw s.net))++⟨#[32]⟩++⟨#[104,111,109,101]⟩++⟨#[10]⟩):=Fh ZAz;refine' ZGM;have dy:=aA (fun W=>D4 (F++⟨#[32]⟩++⟨#[104,111,109,101]⟩) W ZJt);exact ZGN
theorem AiG(R:Nat→Prop)(vL vO vF vH vN s st c w)(hS:stN R w vL vO vF vH vN s)(hz:c.size≤maxLen)(hn:(Cs s.net st c).2=1)(hl:((Cs s.net st c).1.map (Bw s.net)).length≤1000)(hq:∀p∈(Cs s.net st c).1.map (Bw s.net),1≤p.size∧p.size≤1000)(qB:(Cb ((Cs s.net st c).1.map (Bw s.net))).size≤1000000):
 Calls aB 109 #[stV vL vO vF vH vN s,.string st,.string c] w fun e w'=>e=.returned (.string (Em (Cb ((Cs s.net st c).1.map (Bw s.net))++⟨#[32]⟩++⟨#[108,111,115,116]⟩)))∧Below w.heap.size w w':=by
 refine' ZGJ;have HC:Hid (∀W,stS w w.heap.size 36 #[.slice AL s.letters.length cL,.int .i64 s.day.plan.bins,.int .i64 s.day.plan.passes,.slice AO s.day.plan.order.length cO,.slice AF s.day.fwds.length cF,.slice AH s.day.held.length cH,.int .i64 s.day.size,.slice AN s.net.length cN] W→Calls aB 188 #[.slice AN s.net.length cN,.string st,.string c] W fun e w'=>∃v',e=.returned (.tuple #[v',.int .i64 1])∧own 9 W.heap.size w' v' ((Cs s.net st c).1.map (Bw s.net))∧Below W.heap.size W w'):=fun W h0=>ZGK
 refine' ZGL;have qu:Hid (Em (Cb ((Cs s.net st c).1.map (Bw s.net))++⟨#[32]⟩++⟨#[108,111,115,116]⟩)=Cb ((Cs s.net st c).1.map (Bw s.net))++⟨#[32]⟩++⟨#[108,111,115,116]⟩++⟨#[10]⟩):=Fh ZAz;refine' ZGM;have dy:=aA (fun W=>D4 (F++⟨#[32]⟩++⟨#[108,111,115,116]⟩) W ZJt);exact ZGN
theorem AiA(R:Nat→Prop)(vL vO vF vH vN s st c w)(hS:stN R w vL vO vF vH vN s)(hz:c.size≤maxLen)(hn:(Cs s.net st c).2=2)(hl:((Cs s.net st c).1.map (Bw s.net)).length≤1000)(hq:∀p∈(Cs s.net st c).1.map (Bw s.net),1≤p.size∧p.size≤1000)(qB:(Cb ((Cs s.net st c).1.map (Bw s.net))).size≤1000000):
 Calls aB 109 #[stV vL vO vF vH vN s,.string st,.string c] w fun e w'=>e=.returned (.string (Em (Cb ((Cs s.net st c).1.map (Bw s.net))++⟨#[32]⟩++⟨#[108,111,111,112]⟩)))∧Below w.heap.size w w':=by
 refine' ZGJ;have HC:Hid (∀W,stS w w.heap.size 36 #[.slice AL s.letters.length cL,.int .i64 s.day.plan.bins,.int .i64 s.day.plan.passes,.slice AO s.day.plan.order.length cO,.slice AF s.day.fwds.length cF,.slice AH s.day.held.length cH,.int .i64 s.day.size,.slice AN s.net.length cN] W→Calls aB 188 #[.slice AN s.net.length cN,.string st,.string c] W fun e w'=>∃v',e=.returned (.tuple #[v',.int .i64 2])∧own 9 W.heap.size w' v' ((Cs s.net st c).1.map (Bw s.net))∧Below W.heap.size W w'):=fun W h0=>ZGK
 refine' ZGL;have qu:Hid (Em (Cb ((Cs s.net st c).1.map (Bw s.net))++⟨#[32]⟩++⟨#[108,111,111,112]⟩)=Cb ((Cs s.net st c).1.map (Bw s.net))++⟨#[32]⟩++⟨#[108,111,111,112]⟩++⟨#[10]⟩):=Fh ZAz;refine' ZGM;have dy:=aA (fun W=>D4 (F++⟨#[32]⟩++⟨#[108,111,111,112]⟩) W ZJt);exact ZGN
theorem AiL(R:Nat→Prop)(vL vO vF vH vN s st c w)(hS:stN R w vL vO vF vH vN s)(hz:c.size≤maxLen)(hn:(Cs s.net st c).2=3)(hl:((Cs s.net st c).1.map (Bw s.net)).length≤1000)(hq:∀p∈(Cs s.net st c).1.map (Bw s.net),1≤p.size∧p.size≤1000)(qB:(Cb ((Cs s.net st c).1.map (Bw s.net))).size≤1000000):
 Calls aB 109 #[stV vL vO vF vH vN s,.string st,.string c] w fun e w'=>e=.returned (.string (Em (⟨#[]⟩)))∧Below w.heap.size w w':=by
 refine' ZGJ;have HC:Hid (∀W,stS w w.heap.size 36 #[.slice AL s.letters.length cL,.int .i64 s.day.plan.bins,.int .i64 s.day.plan.passes,.slice AO s.day.plan.order.length cO,.slice AF s.day.fwds.length cF,.slice AH s.day.held.length cH,.int .i64 s.day.size,.slice AN s.net.length cN] W→Calls aB 188 #[.slice AN s.net.length cN,.string st,.string c] W fun e w'=>∃v',e=.returned (.tuple #[v',.int .i64 3])∧own 9 W.heap.size w' v' ((Cs s.net st c).1.map (Bw s.net))∧Below W.heap.size W w'):=fun W h0=>ZGK
 refine' ZGL;have qu:Hid (Em (⟨#[]⟩)=⟨#[110,111,10]⟩):=Jw;refine' ZGM;have dy:=aA (fun W=>Fa (F++⟨#[32]⟩++⟨#[]⟩) W);exact ZGN
theorem ApU(R:Nat→Prop)(vL vO vF vH vN s st c w)(hS:stN R w vL vO vF vH vN s)(hz:c.size≤maxLen):
 Calls aB 109 #[stV vL vO vF vH vN s,.string st,.string c] w fun e w'=>e=.returned (.string (Em (Xe s.net st c)))∧Below w.heap.size w w':=by
 unfold Xe;cases h:Na s.net st c
 ·have e0:=Zp h
  have e1:(Cs s.net st c).1.map (Bw s.net)=[]:=by rw[e0];rfl
  exact AiL R vL vO vF vH vN s st c w hS hz (by rw[e0]) (by rw[e1];decide) (by rw[e1];simp) (by rw[e1];decide)
 ·obtain⟨f1,f2,f3⟩:=Ye h
  have pR:=Lm (n:=9) f2 fun p hp=>(f3 p hp).2
  unfold Wb at f2 f3 pR;rw[aP rfl];rcases f1 with hn|hn|hn
  ·rw[hn]
   exact AiH R vL vO vF vH vN s st c w hS hz hn ZA (fun p hp=>by have:=f3 p hp;omega) ZA
  ·rw[hn]
   exact AiG R vL vO vF vH vN s st c w hS hz hn ZA (fun p hp=>by have:=f3 p hp;omega) ZA
  ·rw[hn]
   exact AiA R vL vO vF vH vN s st c w hS hz hn ZA (fun p hp=>by have:=f3 p hp;omega) ZA
theorem Ay8(R:Nat→Prop)(vL vO vF vH vN s f0 f1 f2 B g c w)(hS:stN R w vL vO vF vH vN s)(hf:own 9 B w (.slice (some ⟨g,0,none⟩) 3 c) [f0,f1,f2])(z0:f0.size≤maxLen)(z1:f1.size≤maxLen)(z2:f2.size≤maxLen)(hi:Bj s.day.plan.bins∧Bj s.day.plan.passes):
 Calls aB 48 #[stV vL vO vF vH vN s,.string Cz,.slice (some ⟨g,0,none⟩) 3 c] w fun e w'=>e=.returned (.string (Em (Jp s.day.plan s.letters (Am f0) (Am f1) (Am f2))))∧Below w.heap.size w w':=by
 refine' ZTR;show Calls aB _ #[.agg #[.slice AL s.letters.length cL,.int .i64 s.day.plan.bins,.int .i64 s.day.plan.passes,.slice AO s.day.plan.order.length cO,.slice AF s.day.fwds.length cF,.slice AH s.day.held.length cH,.int .i64 s.day.size,.slice AN s.net.length cN],.string Cz,.slice (some ⟨g,0,none⟩) 3 c] w _;refine' YN;have HC:Hid (∀W,stS w w.heap.size 36 #[.slice AL s.letters.length cL,.int .i64 s.day.plan.bins,.int .i64 s.day.plan.passes,.slice AO s.day.plan.order.length cO,.slice AF s.day.fwds.length cF,.slice AH s.day.held.length cH,.int .i64 s.day.size,.slice AN s.net.length cN] W→Calls aB 108 #[.agg #[.slice AL s.letters.length cL,.int .i64 s.day.plan.bins,.int .i64 s.day.plan.passes,.slice AO s.day.plan.order.length cO,.slice AF s.day.fwds.length cF,.slice AH s.day.held.length cH,.int .i64 s.day.size,.slice AN s.net.length cN],.slice (some ⟨g,0,none⟩) 3 c] W fun e w'=>e=.returned (.string (Em (Jp s.day.plan s.letters (Am f0) (Am f1) (Am f2))))∧Below W.heap.size W w'):=fun W h0=>AmN _ _ _ _ _ _ s f0 f1 f2 W (hS.on (Ct.below R h0.lay)) B g c (hf.below h0.lay) z0 z1 z2 hi
 refine' ZCx;refine' ZJs;refine' ZBZ;refine' ZTS;clear z0 z1 z2 hi;generalize Jp s.day.plan s.letters (Am f0) (Am f1) (Am f2)=FT at *;have vZ:=q0 _ k0;rw[ar.out]at vZ;have wc:=q1 _ k0;rw[ar.out]at wc;have tZ:=q2 _ k0;rw[ar.out]at tZ;have we:=q3 _ k0;rw[ar.out]at we;have wg:=q4 _ k0;rw[ar.out]at wg;have wt:=q5 _ k0;rw[ar.out]at wt;have wv:=q6 _ k0;rw[ar.out]at wv;have p9:=q7 _ k0;rw[ar.out]at p9;refine' ZAP;have UX:=y1 _ k0;rw[ar.out]at UX;have y2b:=y2 _ k0;rw[ar.out]at y2b;refine' ZTT;refine' ZTU;refine' ZAQ;go_wp2_with (go_at_call 108;refine' ZJq)
 have K:=aA k1.lay;exact ZB6
theorem Bb1(R:Nat→Prop)(vL vO vF vH vN s f0 f1 B g c w)(hS:stN R w vL vO vF vH vN s)(hf:own 9 B w (.slice (some ⟨g,0,none⟩) 2 c) [f0,f1])(z1:f1.size≤maxLen):
 Calls aB 48 #[stV vL vO vF vH vN s,.string Fl,.slice (some ⟨g,0,none⟩) 2 c] w fun e w'=>e=.returned (.string (Em (Xe s.net f0 f1)))∧Below w.heap.size w w':=by
 refine' ZCv;refine' ZJu;show Calls aB _ #[.agg #[.slice AL s.letters.length cL,.int .i64 s.day.plan.bins,.int .i64 s.day.plan.passes,.slice AO s.day.plan.order.length cO,.slice AF s.day.fwds.length cF,.slice AH s.day.held.length cH,.int .i64 s.day.size,.slice AN s.net.length cN],.string Fl,.slice (some ⟨g,0,none⟩) 2 c] w _;refine' YN;have HC:Hid (∀W,stS w w.heap.size 36 #[.slice AL s.letters.length cL,.int .i64 s.day.plan.bins,.int .i64 s.day.plan.passes,.slice AO s.day.plan.order.length cO,.slice AF s.day.fwds.length cF,.slice AH s.day.held.length cH,.int .i64 s.day.size,.slice AN s.net.length cN] W→Calls aB 109 #[.agg #[.slice AL s.letters.length cL,.int .i64 s.day.plan.bins,.int .i64 s.day.plan.passes,.slice AO s.day.plan.order.length cO,.slice AF s.day.fwds.length cF,.slice AH s.day.held.length cH,.int .i64 s.day.size,.slice AN s.net.length cN],.string f0,.string f1] W fun e w'=>e=.returned (.string (Em (Xe s.net f0 f1)))∧Below W.heap.size W w'):=fun W h0=>ApU _ _ _ _ _ _ s f0 f1 W (hS.on (Ct.below R h0.lay)) z1
 refine' ZCx;refine' ZJs;refine' ZBZ;refine' ZTV;clear hS hf x0 x1;clear z1;generalize Xe s.net f0 f1=FT at *;refine' ZAP;have UX:=y1 _ k0;rw[ar.out]at UX;refine' ZTW;have lP:(Fl.toList==[102,97,117,108,116])=false:=ZD
 refine' ZJv;refine' ZAQ;go_region_held3 (fun W=>stS w w.heap.size 36 #[.slice AL s.letters.length cL,.int .i64 s.day.plan.bins,.int .i64 s.day.plan.passes,.slice AO s.day.plan.order.length cO,.slice AF s.day.fwds.length cF,.slice AH s.day.held.length cH,.int .i64 s.day.size,.slice AN s.net.length cN] W) (first|(with_reducible exact ao)|exact ZEB|fail) (first|(go_at_call 109;(with_reducible refine(HC.out _ ao).mono ?_);refine' YW;have k1:=ao.below z1)|fail)
 all_goals
  have K:=aA k1.lay;clear k1
  refine' ZI;exact⟨rfl,K.out⟩
def stK(xs:List ByteArray)(k:Nat):List ByteArray:=(xs.take k).map (·++⟨#[42]⟩)++xs.drop k
theorem Az7(xs):stK xs 0=xs:=by unfold stK;simp
theorem AzH(xs){k}(h:xs.length≤k):stK xs k=xs.map (·++⟨#[42]⟩):=by unfold stK;rw[bA h,dK h,eB]
theorem At6(xs k):(stK xs k).length=xs.length:=by unfold stK;rw[aS,bF,bH,dO];omega
theorem Bc1{xs k}(h:k<xs.length):(stK xs k)[k]'(by rw[At6];exact h)=xs[k]:=by
 unfold stK;rw[bX ZTX];simp only[bF,bH,iG]
 congr 1
 omega
theorem AzC{xs k}(h:k<xs.length):(stK xs k).set k (xs[k]++⟨#[42]⟩)=stK xs (k+1):=by
 unfold stK;have hl:((xs.take k).map (·++(⟨#[42]⟩:ByteArray))).length=k:=ZTX
 rw[List.set_append_right _ _ ZA,hl,Nat.sub_self,aH h,cQ,bY,cZ h];rfl
theorem AlH(R:Nat→Prop)(vL vO vF vH vN s f B g c w)(hS:stN R w vL vO vF vH vN s)(hf:own 9 B w (.slice (some ⟨g,0,none⟩) 1 c) [f])(hn:Gq s.net f<0):
 Calls aB 48 #[stV vL vO vF vH vN s,.string B5,.slice (some ⟨g,0,none⟩) 1 c] w fun e w'=>e=.returned (.string (Em (⟨#[]⟩)))∧Below w.heap.size w w':=by
 refine' ZTY;refine' ZBZ;refine' ZA1;generalize Gq s.net f=r at *;refine' ZTZ;all_goals
  have rN:=k1.drew;clear ym
  refine' ZTa;all_goals
   have K:=aA k2.lay;have HT:=aA Jw;clear k2 k1 rN z1 z2
   refine' ZI;exact⟨B8 HT.out.symm,K.out⟩
theorem Ai8(R:Nat→Prop)(vL vO vF vH vN s f B g c w)(hS:stN R w vL vO vF vH vN s)(hf:own 9 B w (.slice (some ⟨g,0,none⟩) 1 c) [f])(hn:0≤Gq s.net f):
 Calls aB 48 #[stV vL vO vF vH vN s,.string B5,.slice (some ⟨g,0,none⟩) 1 c] w fun e w'=>e=.returned (.string (Em (Cb ((fpS s.net f).map (·++⟨#[42]⟩)))))∧Below w.heap.size w w':=by
 refine' ZTY;obtain⟨TL,sf2,MO⟩:=Ub s.net f;have s9:=aA (fun(v:Value) (W:World) (h:rd W W.heap.size v (Qb s.net f))=>Fn v (Qb s.net f) W h (fun p hp=>by have:=MO p hp;omega) ZA);have qB:=Lm (n:=100000000) TL fun p hp=>(MO p hp).2
 have de:=aA (Fh (Q6 fun p hp=>(MO p hp).1));have kT:=aA sf2;unfold Qb at s9 qB de;have lG:=TL;unfold Qb at lG;rw[bF]at lG;refine' ZBZ;refine' ZJw;clear hf x0;clear hS TL sf2 MO;generalize Cb ((fpS s.net f).map (·++⟨#[42]⟩))=F at *
 generalize fpS s.net f=xs at *;generalize Gq s.net f=r at *;have qc:decide (r<0)=false:=aO ZA;refine' YA;refine' ZTZ;all_goals
  have rN:=k1.drew
  refine' ZTa;all_goals
   have O2:=aA (O5.out.drew.below z2);have MK:n5=xs.length:=ym;subst MK;have l2:=k2.lay;have dj:w.heap.size≤wA.heap.size:=k0.lay.size;clear k0 ao k1 rN z1 z2 q7 y0 lf ym
   refine' ZC;go_loopw[24] (fun i wr=>∃k:Nat,k≤xs.length∧i=.int .i64 k∧Below w.heap.size w wr∧own 9 w.heap.size wr (.slice A5 xs.length c5) (stK xs k)) (fun i _=>xs.length - (intOf i).toNat)
   case atStart=>exact⟨0,aM _,rfl,l2,by rw[Az7];exact O2.out.base_ (show w.heap.size≤wA.drew.heap.size from dj)⟩
   case round=>
    refine' ZBj;refine' zj;clear l2 O2;by_cases ab:k<xs.length
    ·have hlk:k<(stK xs k).length:=by rw[At6];exact ab
     rcases ho.form with⟨e,tX⟩|⟨g5,c6,e,ap,tY,wN,bd⟩
     ·rw[tX]at hlk
      exact absurd hlk (aX _)
     ·injection e with e1 e2 e3
      subst e1 e3;clear e2;have y:=Bx ho k hlk;rw[Bc1 ab]at y;have fe:=aA (AzC ab);have hz:=kT.out _ (aU ab);refine' zp;have MC:(x++⟨#[42]⟩).size≤maxLen:=by refine' ZAk;show _+1≤maxLen;exact ZN
      have uX:w3.frozen? ⟨g5,k,none⟩=false:=ho.freeAt k;have O4:=aA (Ad6 ho hlk (x++⟨#[42]⟩) MC);have L4:=aA (Ai lr ap (.string (x++⟨#[42]⟩)) (p:=⟨g5,k,none⟩));refine' YQ;refine' zO;have qC:¬9223372036854775807<x.size+1:=ZA
      clear ho lr MC
      refine' ZC;go_roundw
      case rel=>exact⟨k+1,ZA,ZJ,L4.out,by rw[←fe.out];exact O4.out⟩
      case measure=>exact ZK
    ·have FZ:=aA (AzH xs (k:=k) ZA)
     have bc:¬(k:Int)<(xs.length:Int):=ZA
     rw[FZ.out]at ho;have wP:=aA (s9.out _ w3 ho.rd);clear ho
     refine' ZC;refine wP.out.mono ?_;refine' ZP;refine' ZI;exact⟨B8 de.out.symm,lr⟩
end Go.Proofs.YtfadhdacjpmmeaaGreatDoor
