/- Parts. -/
import Derived.Test.YtfadhdacjpmmeaaGreatDoorQ21
import Derived.Test.YtfadhdacjpmmeaaGreatDoorQ18
set_option linter.unusedVariables false
set_option linter.unusedSimpArgs false
namespace Go.Proofs.YtfadhdacjpmmeaaGreatDoor
set_option maxRecDepth 100000
set_option maxHeartbeats 6400000
open Go.IntKind renaming i64→aI
open Go.Obj renaming cells→aC
open Go.Proofs.Tryz renaming prog→aB
open Go.Value renaming string→aK,int→bC
open Go.RowKit
theorem Za(v vb d xs w)(hv:rdD w w.heap.size v d)(hb:rd w w.heap.size vb xs):
 Calls aB 129 #[v,vb] w fun e w'=>∃vR,e=.returned (.tuple #[vR,.bool (Ka d xs)])∧Wq 119 w.heap.size w' vR (Dh d xs)∧Below w.heap.size w w':=Ap6 v vb d xs w hv hb
theorem Zf(v vb d xs w)(hv:rdD w w.heap.size v d)(hb:rd w w.heap.size vb xs):
 Calls aB 34 #[v,vb] w fun e w'=>∃vR,e=.returned (.tuple #[vR,.bool (Ka d xs)])∧Wq 119 w.heap.size w' vR (Dh d xs)∧Below w.heap.size w w':=AnO v vb d xs w hv hb
def W8(s:Int)(L:List (List Ltr))(x:Ltr):List (List Ltr):=
 if L.length=0∨((L.getD (L.length - 1) []).length:Int)=s then L++[[x]]else L.set (L.length - 1) (L.getD (L.length - 1) []++[x])
def Gr(s:Int)(xs:List Ltr):List (List Ltr):=xs.foldl (W8 s) []
theorem Ul{s}{xs:List Ltr}{k}(h:k<xs.length):Gr s (xs.take (k+1))=W8 s (Gr s (xs.take k)) xs[k]:=by unfold Gr;exact ZEZ
theorem AxZ(s L x):(W8 s L x).length≤L.length+1∧0<(W8 s L x).length∧L.length≤(W8 s L x).length:=by
 unfold W8
 split
 ·simp
 ·rename_i h
  rw[eT];have:L.length≠0:=fun e=>h (.inl e)
  omega
theorem Ax0{α:Type}:∀(L:List (List α)) (n:Nat) (r:List α) (h:n<L.length),((L.set n r).flatten).length+(L[n]).length=(L.flatten).length+r.length:=ZLi
theorem Aw1(s L x):(W8 s L x).flatten.length=L.flatten.length+1:=by
 unfold W8
 split
 ·simp
 ·rename_i h
  have hn:L.length - 1<L.length:=by
   have:L.length≠0:=fun e=>h (.inl e)
   omega
  have h1:=Ax0 L (L.length - 1) (L.getD (L.length - 1) []++[x]) hn;rw[bL,aR hn]at h1⊢;simp only[gP,aS,cE]at h1⊢;omega
theorem Oi(s)(xs:List Ltr):∀k,k≤xs.length→(Gr s (xs.take k)).length≤k∧((Gr s (xs.take k)).length=0↔k=0)∧(Gr s (xs.take k)).flatten.length=k
 |0,_=>by simp[Gr]
 |k+1,h=>by obtain⟨h1,h2,h3⟩:=Oi s xs k ZA;rw[Ul ZA,Aw1];obtain⟨a,b,_⟩:=AxZ s (Gr s (xs.take k)) xs[k];omega
theorem AaT{s L x}(h:L.length=0∨∃d,∃hd:d<L.length,L.length=d+1∧(L[d].length:Int)=s):W8 s L x=L++[[x]]:=by
 unfold W8;rw[aP];rcases h with h|⟨d,hd,h1,h2⟩
 ·exact .inl h
 ·refine .inr ?_
  have e:L.length - 1=d:=ZA
  rw[e,bL,aR hd];exact h2
theorem AqD{s L x d}(hd:d<L.length)(h1:L.length=d+1)(h2:(L[d].length:Int)≠s):W8 s L x=L.set d (L[d]++[x]):=by
 unfold W8;have e:L.length - 1=d:=ZA
 rw[e,bL,aR hd,aL]
 ·rfl
 ·rintro(h|h)
  ·omega
  ·exact h2 h
theorem ApV{L:List (List Ltr)}{x d}(h1:L.length=d)(hd:d<(L++[[]]).length):(L++[[]]).set d ((L++[[]])[d]++[x])=L++[[x]]:=by subst h1;simp[bX]
def Oj(s:Int)(xs:List Ltr):Bool:=okB xs&&Fp s
def Iq(s:Int)(xs:List Ltr):List (List Ltr):=if Oj s xs then Gr s xs else []
def Tw(d:Dy)(xs:List Ltr):Bool:=Ka d xs&&Oj d.size (Dh d xs).round
def Eu(d:Dy)(xs:List Ltr):List (List Ltr):=if Ka d xs then Iq d.size (Dh d xs).round else []
theorem Af3(s xs):(Iq s xs).length≤60∧(Iq s xs).flatten.length≤60:=by
 unfold Iq
 split
 ·rename_i h
  unfold Oj at h;refine' ZAl;have h1:=Cq h.1;obtain⟨a,_,b⟩:=Oi s xs xs.length (aD _);rw[aY]at a b;omega
 ·simp
theorem Ag7(d xs):(Eu d xs).length≤60∧(Eu d xs).flatten.length≤60:=by
 unfold Eu
 split
 ·exact Af3 _ _
 ·simp
theorem own.made1{α:Type}[Flat α](w)(T:TypeId)(cs)(x:α){base}(kY:El.el w w.heap.size x cs)(hb:base≤w.heap.size):own T base (w.alloc (.cells cs.toArray T)) (.slice (some ⟨w.heap.size,0,none⟩) 1 1) [x]:=by
 refine⟨[cs],⟨by simp[El.len kY],.inr ⟨w.heap.size,1,cs.toArray,rfl,hb,bD w _,aD _,ZN,by simp[El.len kY],?_⟩⟩,rfl,fun k h1 h2=>?_⟩
 ·show List.take (1*El.size α) _=_
  rw[iL,←El.len kY];simp
 ·have hk:k=0:=by simp at h1;omega
  subst hk;exact Flat.free kY
theorem X6(vb xs s w)(hb:rd w w.heap.size vb xs):
 Calls aB 282 #[vb,.int .i64 s,.int .i64 0] w fun e w'=>∃v',e=.returned (.tuple #[v',.bool (Oj s xs)])∧Fu 27 119 w.heap.size w' v' (Iq s xs)∧Below w.heap.size w w':=by
 refine' ZCH;refine' zk;have bw:Hid (∀h:Oj s xs=false,Iq s xs=[]):=fun h=>by unfold Iq;rw[h];rfl
 have HQ:Hid (Oj s xs=(okB xs&&Fp s)):=rfl;refine' ZBi;refine' zv;go_enter Tryz.func282,Tryz.ntmps282
 refine' ZC;refine(Cn _ xs _ HB.out).mono ?_;refine' ZT;have l1:=Aa (aF w.heap.size w) b1;clear b1;cases h1:okB xs
 ·have HF:Hid (Oj s xs=false):=zu
  clear h1
  exact ZMH
 have lG:=Cq h1;refine' zP;refine(Me s _).mono ?_;refine' zo;cases h2:Fp s
 ·have HF:Hid (Oj s xs=false):=ZEY
  clear h2
  exact ZMH
 refine' ZMI;have PO:=aA (Oi s xs);clear h2 HB
 refine' ZC;go_loopw[8,30] (fun t i wr=>∃(k:Nat) (vs:List Value),k≤xs.length∧i=.int .i64 k∧Below w.heap.size w wr∧Fi 27 119 w.heap.size wr t (Gr s (xs.take k)) vs) (fun _ i _=>xs.length - (intOf i).toNat)
 case atStart=>exact⟨0,[],aM _,rfl,l1,Md _ _ _ _⟩
 case round=>
  obtain⟨k,vs,hk,rfl,lr,hB⟩:=hrel;refine' zj;clear l1;by_cases ab:k<xs.length
  ·refine' ZMJ;refine' ZMK;have jV:=aA hB;clear hB;refine' YQ;refine' ZDC;have ll:=Aa lr (Aw cz).1;have br:=aA (jV.out.below (Aw cz).1);have jM:=aA cz;clear cz;have yY:=aF wl.heap.size wl;by_cases gx:k=0
   ·have DM:L.length=0:=f2.2 gx
    have fe:Hid (Gr s (xs.take (k+1))=L++[[x]]):=by show _=_;rw[lm.out,AaT (.inl DM)]
    have JB:((k:Int)==0)=true:=by simp[gx]
    clear f2 DM qw;clear gx;refine' ZML;have p8:Hid (D7 (.slice (some ⟨wq.heap.size,0,none⟩) 1 1) (.slice AO vs.length cO) vs):=⟨Dd qx.out jy.out.1 (aD _),fun i hi=>Dd qx.out (jy.out.2.2.1 i hi ZEe) (aD _)⟩;refine' ZMM;go_wp2_with (at_builtin;refine An (α:=Value) rfl (.tmp 64) (.tmp 67) 82 rfl w.heap.size 27 i0 _ 24 eQ hi lQ aw aq rfl ZF (.slice AO vs.length cO) vs (.slice (some ⟨wq.heap.size,0,none⟩) 1 1) rfl (sR.out.1.alloc _) ⟨wq.heap.size+1,0,none⟩ 1 [.slice (some ⟨wq.heap.size,0,none⟩) 1 1] rfl ⟨rfl,rfl⟩ eo ZN ZA ZH ?_;refine' zI)
    refine' ZMN;go_roundw
    case rel=>exact⟨k+1,_,ZA,ZJ,l5,by rw[fe.out];exact vW.out⟩
    case measure=>exact ZK
   ·refine' ZMO;have JB:(((k'+1:Nat):Int)==0)=false:=ZG5
    have hk0'':((k':Int)+1==0)=false:=ZG5
    clear gx;refine' ZMP;have yZ:(d:Int)<(vs.length:Int):=ZA
    refine' ZMQ;by_cases hs:(qn:Int)=s
    ·have qt:((qn:Int)==s)=true:=by simp[hs]
     have HS:=aA hs;clear hs;have fe:Hid (Gr s (xs.take (k'+1+1))=L++[[x]]):=by show _=_;rw[lm.out,AaT (.inr ⟨d,ir,hd,ZEf⟩)]
     refine' ZML;have p8:Hid (D7 (.slice (some ⟨wq.heap.size,0,none⟩) 1 1) (.slice (some ⟨G,0,none⟩) vs.length cO) vs):=⟨Dd qx.out jy.out.1 (aD _),fun i hi=>Dd qx.out (jy.out.2.2.1 i hi ZEe) (aD _)⟩;refine' ZMM;go_wp2_with (at_builtin;refine An (α:=Value) rfl (.tmp 64) (.tmp 67) 82 rfl w.heap.size 27 i0 _ 24 eQ hi lQ aw aq rfl ZF (.slice (some ⟨G,0,none⟩) vs.length cO) vs (.slice (some ⟨wq.heap.size,0,none⟩) 1 1) rfl (sR.out.1.alloc _) ⟨wq.heap.size+1,0,none⟩ 1 [.slice (some ⟨wq.heap.size,0,none⟩) 1 1] rfl ⟨rfl,rfl⟩ eo ZN ZA ZH ?_;refine' zI)
     refine' ZMN;go_roundw
     case rel=>exact⟨k'+1+1,_,ZA,ZJ,l5,by rw[fe.out];exact vW.out⟩
     case measure=>exact ZK
    ·have qt:((qn:Int)==s)=false:=by simp[hs]
     have HS:=aA hs;clear hs;have fe:Hid (Gr s (xs.take (k'+1+1))=L.set d (L[d]++[x])):=by show _=_;rw[lm.out,AqD ir hd ZEf]
     go_wp2;rw[←jM.out]
     go_quiet (fail)
     clear mV jW jK
     try skip
     refine' ZEg;obtain⟨ey,da,ga⟩:∃ey:d<vs.length,own 119 w.heap.size wq vs[d] L[d]∧apart vs[d] (.slice (some ⟨G,0,none⟩) vs.length cO):=ZMR
     refine' ZMS;go_region_law (first|go_loud ((refine Ce (α:=Ltr) ZG (.tmp 74) (.tmp 76) 27 ZG w.heap.size 119 i1 _ 24 aV ji dp dq dr rfl ZF (.slice Au qs.length cu) qs x ZG ((jc.out.alloc _).drew) ⟨wq.heap.size,0,none⟩ 1 (Ltr.cells x) ZG ⟨⟨fa,ew⟩,rfl⟩ (Ft wq _ (Ltr.cells x)) ZN ZA ZH ?_;refine' ZER)))
     all_goals exact ZMT
  ·refine' YD;go_wp2;go_ret2;rw[HE.out,aY]at hB;exact⟨_,Bf ZX,by rw[HY.out];exact⟨vs,hB⟩,lr⟩
theorem AmH(vb xs s w)(hb:rd w w.heap.size vb xs)(lG:xs.length≤60):
 Calls aB 305 #[vb,.int .i64 s,.int .i64 0] w fun e w'=>∃v',e=.returned v'∧Fu 27 119 w.heap.size w' v' (Gr s xs)∧Below w.heap.size w w':=by
 obtain⟨A,n,c,rfl,hn,hc,hm,hr⟩:=hb;refine' zk;refine' ZBi;refine' zv;have PO:=aA (Oi s xs);go_enter Tryz.func305,Tryz.ntmps305;refine' ZLF;go_loopw[7,8] (fun t i wr=>∃(k:Nat) (vs:List Value),k≤xs.length∧i=.int .i64 k∧Below w.heap.size w wr∧Fi 27 119 w.heap.size wr t (Gr s (xs.take k)) vs) (fun _ i _=>xs.length - (intOf i).toNat)
 case atStart=>exact⟨0,[],aM _,rfl,l0,sP.out⟩
 case round=>
  obtain⟨k,vs,hk,rfl,lr,hB⟩:=hrel;obtain⟨wl,rfl⟩:∃wl:World,wl=wr:=⟨_,rfl⟩;clear l0 sP;by_cases ab:k<xs.length
  ·refine' ZMJ;have rH:Hid (∀d (h:d<(L++[[]]).length),(L++[[]])[d].length≤60):=fun d h=>aG (Nn h) (by simp;simp at f3;omega)
   refine' ZMK;have br:=aA hB;clear hB;refine' YQ;have ll:=lr;have yY:=aF wl.heap.size wl;clear lr;by_cases gx:k=0
   ·have DM:L.length=0:=f2.2 gx
    have tS:vs.length=0:=ZA
    have ir:0<(L++[[]]).length:=ZE
    have fe:Hid (Gr s (xs.take (k+1))=(L++[[]]).set 0 ((L++[[]])[0]++[x])):=by show _=_;rw[lm.out,AaT (.inl DM),ApV DM]
    clear f2 DM qw f1 f3;clear gx;refine' YP;refine' ZMU;have p8:Hid (D7 (.slice (some ⟨wq.heap.size,0,none⟩) 0 0) (.slice AO vs.length cO) vs):=⟨Dd qx.out jy.out.1 (aD _),fun i hi=>Dd qx.out (jy.out.2.2.1 i hi ZEe) (aD _)⟩;refine' ZMV;go_wp2_with (at_builtin;refine An (α:=Value) rfl (.tmp 49) (.tmp 51) 82 rfl w.heap.size 27 i0 _ 24 eQ hi lQ aw aq rfl ZF (.slice AO vs.length cO) vs (.slice (some ⟨wq.heap.size,0,none⟩) 0 0) rfl (sR.out.1.alloc _) ⟨wq.heap.size+1,0,none⟩ 1 [.slice (some ⟨wq.heap.size,0,none⟩) 0 0] rfl ⟨rfl,rfl⟩ eo ZN ZA ZH ?_;intro gn cap wn KY GA rX jb)
    refine' ZMW;refine' ZMX;obtain⟨G,hG⟩:∃z,z=gn:=⟨_,rfl⟩;rw[←hG]at qy;rw[←hG];clear hG;obtain⟨ey,da,ga⟩:∃ey:0<gw.length,own 119 w.heap.size wn gw[0] L2[0]∧apart gw[0] (.slice (some ⟨G,0,none⟩) n2 cap):=by obtain⟨z1,z2,z3,z4,z5⟩:=qy.out;exact⟨ZA,z3 0 ZA ir,z5 0 ZA⟩
    have jW:wn.cell? ⟨G,0,none⟩=some gw[0]:=Ff qy.out.1 0 ey;have r8:wn.frozen? ⟨G,0,none⟩=false:=qy.out.1.freeAt 0;have kI:L2[0].length≤60:=kM.out 0 ir;obtain⟨qs,lZ⟩:∃qs,qs=L2[0]:=⟨_,rfl⟩;refine' ZHC;obtain⟨u,hu⟩:∃u,u=gw[0]:=⟨_,rfl⟩;refine' ZMY;go_region_law (first|((refine' ZMZ;have qQ:w5.cell? ⟨G,0,none⟩=some (.slice Au qs.length cu):=(ap.cell_far ⟨G,0,none⟩ ZH gu.out).trans zB;have qR:w5.frozen? ⟨G,0,none⟩=false:=(ap.frozen_far ⟨G,0,none⟩ ZH gu.out).trans zB)))
    all_goals
     refine' ZMa;have p4:=Ex (G:=G) (d:=0) (g:=g) (m:=qs.length+1) (cap:=cap) (Ag (Ae ln (aC #[bC aI x.id,aK x.code] 119))) ap (fun j hj=>(jc.out.blk j hj).1) mt;have P1:=aA p1;clear p1 fq;go_wp2
     go_roundw
     case rel=>exact⟨k+1,_,ZA,ZJ,p4,by rw[fe.out];exact P1.out⟩
     case measure=>exact ZK
   ·refine' ZMO;clear gx;have tS:vs.length=d+1:=ZA
    refine' ZMP;refine' ZMQ;have r9:decide ((d:Int)<0)=false:=aO ZA;have xF:(d:Int)+1<((vs.length+1:Nat):Int):=ZA
    have hdp:(0:Int)≤(d:Int)+1:=ZA
    have hkp1:(0:Int)≤(k':Int)+1:=ZA
    have qq:(d:Int)<(d:Int)+1:=ZA
    have FG:(k':Int)+1<(xs.length:Int):=ZA
    have tL:=aA hd;rw[tS]at br⊢;clear tS qw hd;by_cases hs:(qn:Int)=s
    ·have qt:((qn:Int)==s)=true:=by simp[hs]
     have HS:=aA hs;clear hs;have PV:d+1<(L++[[]]).length:=by have:=tL.out;exact ZH
     have fe:Hid (Gr s (xs.take (k'+1+1))=(L++[[]]).set (d+1) ((L++[[]])[d+1]++[x])):=by show _=_;rw[lm.out,AaT (.inr ⟨d,ir,tL.out,ZEf⟩),ApV tL.out]
     refine' YP;clear mV jW jK;have ir:=PV
     refine' ZMU;have p8:Hid (D7 (.slice (some ⟨wq.heap.size,0,none⟩) 0 0) (.slice (some ⟨G,0,none⟩) (d+1) cO) vs):=⟨Dd qx.out jy.out.1 (aD _),fun i hi=>Dd qx.out (jy.out.2.2.1 i hi ZEe) (aD _)⟩;refine' ZMV;go_wp2_with (at_builtin;refine An (α:=Value) rfl (.tmp 49) (.tmp 51) 82 rfl w.heap.size 27 i0 _ 24 eQ hi lQ aw aq rfl ZF (.slice (some ⟨G,0,none⟩) (d+1) cO) vs (.slice (some ⟨wq.heap.size,0,none⟩) 0 0) rfl (sR.out.1.alloc _) ⟨wq.heap.size+1,0,none⟩ 1 [.slice (some ⟨wq.heap.size,0,none⟩) 0 0] rfl ⟨rfl,rfl⟩ eo ZN ZA ZH ?_;intro gn cap wn KY GA rX jb)
     refine' ZMW;clear jy sR p8 qx;refine' ZMX;obtain⟨G2,hG⟩:∃z,z=gn:=⟨_,rfl⟩;rw[←hG]at qy;rw[←hG];clear hG;obtain⟨G,PW⟩:∃z,z=G2:=⟨_,rfl⟩;rw[←PW]at qy;rw[←PW];clear PW;obtain⟨ey,da,ga⟩:∃ey:(d+1)<gw.length,own 119 w.heap.size wn gw[(d+1)] L2[(d+1)]∧apart gw[(d+1)] (.slice (some ⟨G,0,none⟩) n2 cap):=by obtain⟨z1,z2,z3,z4,z5⟩:=qy.out;exact⟨ZA,z3 (d+1) ZA ir,z5 (d+1) ZA⟩
     have jW:wn.cell? ⟨G,(d+1),none⟩=some gw[(d+1)]:=Ff qy.out.1 (d+1) ey;have r8:wn.frozen? ⟨G,(d+1),none⟩=false:=qy.out.1.freeAt (d+1);have kI:L2[(d+1)].length≤60:=kM.out (d+1) ir;obtain⟨qs,lZ⟩:∃qs,qs=L2[(d+1)]:=⟨_,rfl⟩;refine' ZHC;obtain⟨u,hu⟩:∃u,u=gw[(d+1)]:=⟨_,rfl⟩;refine' ZMY;go_region_law (first|((refine' ZMZ;have qQ:w5.cell? ⟨G,(d+1),none⟩=some (.slice Au qs.length cu):=(ap.cell_far ⟨G,(d+1),none⟩ ZH gu.out).trans zB;have qR:w5.frozen? ⟨G,(d+1),none⟩=false:=(ap.frozen_far ⟨G,(d+1),none⟩ ZH gu.out).trans zB)))
     all_goals refine' ZMa;have p4:=Ex (G:=G) (d:=d+1) (g:=g) (m:=qs.length+1) (cap:=cap) (Ag (Ae ln (aC #[bC aI x.id,aK x.code] 119))) ap (fun j hj=>(jc.out.blk j hj).1) mt;exact ZMb
    ·have qt:((qn:Int)==s)=false:=by simp[hs]
     have HS:=aA hs;clear hs;have fe:Hid (Gr s (xs.take (k'+1+1))=L.set d (L[d]++[x])):=by show _=_;rw[lm.out,AqD ir tL.out ZEf]
     refine' YP;clear mV jW jK
     try clear tS
     refine' ZEg;obtain⟨ey,da,ga⟩:∃ey:d<vs.length,own 119 w.heap.size wq vs[d] L[d]∧apart vs[d] (.slice (some ⟨G,0,none⟩) (d+1) cO):=ZMR
     refine' ZMS;go_region_law (first|((refine Ce (α:=Ltr) ZG (.tmp 60) (.tmp 65) 27 ZG w.heap.size 119 i1 _ 24 aV ji dp dq dr rfl ZF (.slice Au qs.length cu) qs x ZG ((jc.out.alloc _).drew) ⟨wq.heap.size,0,none⟩ 1 (Ltr.cells x) ZG ⟨⟨fa,ew⟩,rfl⟩ (Ft wq _ (Ltr.cells x)) ZN ZA ZH ?_;refine' ZER)))
     all_goals exact ZMT
  ·refine' YD;refine' ZO;rw[HE.out,aY]at hB;exact⟨_,rfl,⟨vs,hB⟩,lr⟩
theorem Af7(vb xs s w)(hb:rd w w.heap.size vb xs):
 Calls aB 213 #[vb,.int .i64 s] w fun e w'=>∃v',e=.returned (.tuple #[v',.bool (Oj s xs)])∧Fu 27 119 w.heap.size w' v' (Iq s xs)∧Below w.heap.size w w':=by
 refine' ZAa;clear hb;go_enter Tryz.func213,Tryz.ntmps213
 refine' ZC;refine(X6 _ xs s _ HB.out).mono ?_;refine' ZAj;have O1:=aA o1;clear o1
 refine' ZQ;exact⟨_,rfl,O1.out,b1⟩
theorem Wp(vb xs s w)(hb:rd w w.heap.size vb xs):
 Calls aB 252 #[vb,.int .i64 s] w fun e w'=>∃v',e=.returned (.tuple #[v',.bool (Oj s xs)])∧rd w' w'.heap.size v' (Iq s xs)∧Below w.heap.size w w':=by
 refine' ZAa;clear hb;have HQ:Hid (Oj s xs=(okB xs&&Fp s)):=rfl;have bw:Hid (∀h:Oj s xs=false,Iq s xs=[]):=fun h=>by unfold Iq;rw[h];rfl
 have HEM:Hid (∀W:World,rd (W.alloc (.cells #[] 27)) (W.alloc (.cells #[] 27)).heap.size (.slice (some ⟨W.heap.size,0,none⟩) 0 0) ([]:List (List Ltr))):=fun W=>
  Fu.rd (T1:=27) (T2:=119) (base:=W.heap.size) ⟨[],own.made0 W _ (aD _),rfl,fun k h=>absurd h (aX k),fun j k h=>absurd h (aX j),fun k h=>absurd h (aX k)⟩
 go_enter Tryz.func252,Tryz.ntmps252
 refine' ZC;refine(C6 _ xs _ HB.out).mono ?_;refine' ZT;cases h1:okB xs
 ·have HF:Hid (Oj s xs=false):=zu
  clear h1;exact ZMc
 have lG:=Cq h1;refine' zP;refine(Nm s _).mono ?_;refine' zo;cases h2:Fp s
 ·have HF:Hid (Oj s xs=false):=ZEY
  clear h2;exact ZMc
 refine' ZMI;clear h2
 refine' ZC;refine(AmH _ xs s _ (HB.out.on b1) lG).mono ?_;refine' ZAW;have O3:=aA o3.rd;clear o3;have l3:=Aa b1 b3
 refine' ZQ;exact⟨_,Bf ZX,by rw[HY.out];exact O3.out,l3⟩
theorem AgT(vb xs s w)(hb:rd w w.heap.size vb xs):
 Calls aB 172 #[vb,.int .i64 s] w fun e w'=>∃v',e=.returned (.tuple #[v',.bool (Oj s xs)])∧Fu 27 119 w.heap.size w' v' (Iq s xs)∧Below w.heap.size w w':=by
 refine' ZAa;clear hb;have HL:=aA (Af3 s xs);go_enter Tryz.func172,Tryz.ntmps172
 refine' ZC;refine(Wp _ xs s _ HB.out).mono ?_;rintro e w1 ⟨v1,rfl,r1,b1⟩;have R1:=aA r1;clear r1
 refine' ZC;refine(Yf _ (Iq s xs) _ R1.out YT YT).mono ?_;rintro e w2 ⟨v2,vs,rfl,o2,b2⟩;have O2:=aA (o2.base_ b1.size);clear o2;have l2:=Aa b1 b2
 refine' ZQ;exact⟨_,rfl,⟨vs,O2.out⟩,l2⟩
theorem Ai5(v vb d xs w)(hv:rdD w w.heap.size v d)(hb:rd w w.heap.size vb xs):
 Calls aB 131 #[v,vb] w fun e w'=>∃v',e=.returned (.tuple #[v',.bool (Tw d xs)])∧Fu 27 119 w.heap.size w' v' (Eu d xs)∧Below w.heap.size w w':=by
 refine' ZHD;have HQ:Hid (Tw d xs=(Ka d xs&&Oj d.size (Dh d xs).round)):=rfl;go_enter Tryz.func131,Tryz.ntmps131
 refine' zD;refine(Za _ _ d xs _ HD.out HB.out).mono ?_;refine' ZMd;cases h1:Ka d xs
 ·refine' ZMe;refine' ZQ;exact⟨_,Bf ZX,by rw[HE.out];exact⟨[],Md _ _ _ _⟩,Aa HT.out (Ae l1 _)⟩
 refine' ZMf;refine(Af7 _ (Dh d xs).round d.size _ (PR.out.on bx)).mono ?_;refine' ZAm;have l2:=Aa lb b2;have O2:=aA o2;clear o2 b2
 refine' ZQ;exact⟨_,Bf ZX,by rw[HE.out];exact O2.out.base_ (aG bf lb.size),Aa HT.out l2⟩
theorem Ya(v vb d xs w)(hv:rdD w w.heap.size v d)(hb:rd w w.heap.size vb xs):
 Calls aB 83 #[v,vb] w fun e w'=>∃v',e=.returned (.tuple #[v',.bool (Tw d xs)])∧rd w' w'.heap.size v' (Eu d xs)∧Below w.heap.size w w':=by
 refine' ZHD;have HQ:Hid (Tw d xs=(Ka d xs&&Oj d.size (Dh d xs).round)):=rfl;go_enter Tryz.func83,Tryz.ntmps83
 refine' zD;refine(Zf _ _ d xs _ HD.out HB.out).mono ?_;refine' ZMd;cases h1:Ka d xs
 ·refine' ZMe;have E1:Hid (∀W:World,rd (W.alloc (.cells #[] 27)) (W.alloc (.cells #[] 27)).heap.size (.slice (some ⟨W.heap.size,0,none⟩) 0 0) ([]:List (List Ltr))):=fun W=>
   Fu.rd (T1:=27) (T2:=119) (base:=W.heap.size) ⟨[],own.made0 W _ (aD _),rfl,fun k h=>absurd h (aX k),fun j k h=>absurd h (aX j),fun k h=>absurd h (aX k)⟩
  have E2:=aA (E1.out (w1.alloc (aC #[.slice R0 (Dh d xs).round.length r0,.slice R1 (Dh d xs).strange.length r1,.slice R2 (Dh d xs).held.length r2,.slice R3 (Dh d xs).stuck.length r3] 78)))
  refine' ZQ;refine⟨_,Bf ZX,?_,Aa HT.out (Ae (Ae l1 _) _)⟩;rw[HE.out];simpa using E2.out
 refine' ZMf;refine(AgT _ (Dh d xs).round d.size _ (PR.out.on bx)).mono ?_;refine' ZAm;have l2:=Aa lb b2;have O2:=aA o2;clear o2 b2
 refine' ZQ;exact⟨_,Bf ZX,by rw[HE.out];exact O2.out.rd,Aa HT.out l2⟩
theorem Aj1(v vb d xs w)(hv:rdD w w.heap.size v d)(hb:rd w w.heap.size vb xs):
 Calls aB 36 #[v,vb] w fun e w'=>∃v',e=.returned (.tuple #[v',.bool (Tw d xs)])∧Fu 27 119 w.heap.size w' v' (Eu d xs)∧Below w.heap.size w w':=by
 refine' ZHD;have HL:=aA (Ag7 d xs);go_enter Tryz.func36,Tryz.ntmps36
 refine' zD;refine(Ya _ _ d xs _ HD.out HB.out).mono ?_;rintro e w1 ⟨v1,rfl,r1,b1⟩;have l1:=Aa l0 b1;have R1:=aA r1;clear r1
 refine' ZC;refine(Yf _ (Eu d xs) _ R1.out YT YT).mono ?_;rintro e w2 ⟨v2,vs,rfl,o2,b2⟩;have l2:=Aa l1 b2;have O2:=aA (o2.base_ (aG bf l1.size));clear o2
 refine' ZQ;exact⟨_,rfl,⟨vs,O2.out⟩,Aa HT.out l2⟩
theorem AiP(v xs c w)(hv:rd w w.heap.size v xs):
 Calls aB 363 #[v,.int .i64 c] w fun e w'=>e=.returned (.int .i64 (fiI (fun y:Int=>y==c) xs))∧w=w':=by
 refine' ZAJ;go_enter Tryz.func363,Tryz.ntmps363;go_wp2
 go_loop[8] (fun i=>∃k:Nat,k≤xs.length∧i=.int .i64 k∧Hid (∀j (h:j<xs.length),j<k→(xs[j]==c)=false)) (fun i=>xs.length - (intOf i).toNat)
 case atStart=>exact ZAn
 case round=>
  refine' YE;by_cases ab:k<xs.length
  ·obtain⟨b,o,rfl,hb,ag,c1⟩:=HR.out.intU k ab
   have HX:Hid (∀h:(xs[k]==c)=false,∀j (h1:j<xs.length),j<k+1→(xs[j]==c)=false):=fun h j h1 hj=>ZA9
   have HY:Hid (∀h:(xs[k]==c)=true,fiI (fun y:Int=>y==c) xs=k):=fun h=>Sk ab (fun j hj di=>HG.out j hj di) h
   refine' zp;cases he:(x==c)
   ·refine' zg;have he2:(c==x)=false:=by rw[beq_eq_false_iff_ne]at he⊢;exact fun e=>he e.symm
    go_wp2
    exact ZBl
   ·refine' zg;have he2:(c==x)=true:=by rw[dE]at he⊢;exact he.symm
    exact ZCW
  ·have HE:Hid (fiI (fun y:Int=>y==c) xs= -1):=Pk fun j hj=>HG.out j hj ZA
   exact ZDf
theorem Ab8(v xs c w)(hv:rd w w.heap.size v xs):
 Calls aB 343 #[v,.int .i64 c] w fun e w'=>e=.returned (.bool (decide (0≤fiI (fun y:Int=>y==c) xs)))∧w=w':=by
 go_enter Tryz.func343,Tryz.ntmps343
 refine' ZC;refine(AiP v xs c w hv).mono ?_;refine' ZW;obtain⟨r,HR⟩:∃r,Hid (fiI (fun y:Int=>y==c) xs=r):=⟨_,rfl⟩;rw[HR.out]
 refine' ZI;exact⟨Al (by rw[HR.out]),rfl⟩
theorem AnT{T base g n c:Nat}{w xs}(h:own T base w (.slice (some ⟨g,0,none⟩) n c) xs)(k)(hk:k<xs.length):∀W,Below w.heap.size w W→W.cell? ⟨g,k,none⟩=some (.int .i64 xs[k]):=by
 refine' ZDO;obtain⟨b,o,hA,_,_,c1⟩:=pB.intU k hk;refine' ZDP;intro W hW;have:=c1 W hW
 rwa [bW]at this
theorem Zw(v net s c w)(hv:rd w w.heap.size v net)(hk:Di net=true)(hs:s<net.length)(jf:c.size≤maxLen):
 Calls aB 300 #[v,.int .i64 s,.string c] w fun e w'=>∃v',e=.returned (.tuple #[v',.int .i64 (Ht net c s).2])∧own 3 w.heap.size w' v' (S8 (Ht net c s).1)∧Below w.heap.size w w':=by
 refine' ZIR;refine' ZDs;go_enter Tryz.func300,Tryz.ntmps300;go_wp2;have iy:own (α:=Int) 3 w.heap.size (w.alloc (aC #[.int .i64 s] 3)) (.slice (some ⟨w.heap.size,0,none⟩) 1 1) (S8 ([]++[s])):=own.made1 (α:=Int) w 3 [.int .i64 s] (s:Int) ⟨⟨ZA,ZA⟩,rfl⟩ (aD _);have lu:=aA iy;have l1:Below w.heap.size w (w.alloc (aC #[.int .i64 s] 3)):=Ae l0 _;clear iy
 go_loopw[8] (fun t wr=>∃(p:List Nat) (i f g cap n:Nat),t=.slice (some ⟨g,0,none⟩) n cap∧n=p.length+1∧own 3 w.heap.size wr t (S8 (p++[i]))∧Hid (Uj net (f+1) p i)∧Hid (¬i∈p)∧Below w.heap.size w wr∧Hid (Ht net c s=Fc net c (f+1) p i)) (fun t _=>net.length+2 - BaY t)
 case atStart=>exact⟨[],s,net.length,w.heap.size,1,1,rfl,rfl,lu.out,Ml hs,by simp[Hid],l1,rfl⟩
 case round=>
  obtain⟨p,i,f,g,cap,n,rfl,rfl,ho,oO,xh,lr,HG⟩:=hrel;refine' ZP7;obtain⟨b,o,A2,k2,rfl,hb,ag,hu,y1,y2⟩:=HR.out.ofcU i nZ;have x1:=AnT ho p.length (by rw[Jm];simp);have oV:(S8 (p++[i]))[p.length]'(by rw[Jm];simp)=(i:Int):=by simp[S8]
  rw[oV]at x1;clear oV;refine' ZP8;refine' ZP9;rw[hN]at HL HH de;rw[hS]at HH de xw;have rE:=aA hN;have dw:=aA hS;clear hN hS;have lw:=aF w1.heap.size w1
  refine' ZC;refine(AqG _ x.rules c _ (HU.out.on lr) jf).mono ?_;rw[rE.out,dw.out];refine' zK;have l2:=Aa lr b2;have ja:=aA (HO.out.below b2);by_cases az:N<0
  ·have HD:Hid (decide (0≤N)=false):=aO ZA
   have HE:Hid (Ht net c s=(p++[i],1)):=ZQA
   rw[HD.out]
   refine' ZQ;exact⟨_,Bf ZCj,by rw[HE.out];exact ja.out,l2⟩
  have HD:Hid (decide (0≤N)=true):=aJ ZA;rw[HD.out];cases kE:sEq S L8
  case true=> refine' ZQB;refine' ZQ;exact⟨_,Bf ZCj,by rw[HE.out];exact ja.out,l2⟩
  obtain⟨j,hj,e1,e2,_⟩:=de.out ZA kE;refine' ZQC;have wQ:=aA e2;clear e1 e2 HL HH de
  refine' ZC;refine(Hx _ net S _ (ev.out.on l2)).mono ?_;rw[wQ.out];refine' zH;refine' YC;have fg:=aA (ja.out.below b3)
  refine' ZC;refine(Ab8 _ (S8 (p++[i])) j _ fg.out.rd).mono ?_;rw[AyX];refine' ZAG;have oN:=l3.size;obtain⟨f',yb⟩:=Qg uE.out;subst yb;cases hq:decide (j∈p++[i])
  ·have HQ':=aA (iA hq)
   refine' ZQD;go_roundw
   case rel=>exact⟨p++[i],j,f',g5,rY,(S8 (p++[i])).length+1,rfl,by rw[xi];simp,jT.out,uE.out,HQ'.out,l5,HE.out⟩
   case measure=>simp[BaY,xi];omega
  ·have DT:Hid (Ht net c s=(p++[i]++[j],2)):=by show _=_;rw[HE.out,Ad5 (gK hq)]
   refine' ZQD;go_ret2;exact⟨_,Bf (by rw[DT.out]<;>rfl),by rw[DT.out];exact ZFg,l5⟩
theorem AyY(s):sEq s ⟨#[]⟩=s.toList.isEmpty:=by unfold sEq;rw[bR ⟨#[]⟩];generalize s.toList=l;cases l<;>rfl
theorem AcX(v net s nm c w)(hv:rd w w.heap.size v net)(hk:Di net=true)(hs:s<net.length)(uG:Bw net s=nm)(jf:c.size≤maxLen):
 Calls aB 261 #[v,.string nm,.string c] w fun e w'=>∃v',e=.returned (.tuple #[v',.int .i64 (Ht net c s).2])∧own 9 w.heap.size w' v' ((Ht net c s).1.map (Bw net))∧Below w.heap.size w w':=by
 refine' ZIR;refine' zh;go_enter Tryz.func261,Tryz.ntmps261;go_wp2;have iy:own (α:=ByteArray) 9 w.heap.size (w.alloc (aC #[] 9)) (.slice (some ⟨w.heap.size,0,none⟩) 0 0) (([]:List Nat).map (Bw net)):=own.made0 w _ (aD _);have lu:=aA iy;have l1:Below w.heap.size w (w.alloc (aC #[] 9)):=Ae l0 _;clear iy
 go_loopw[8,9] (fun t u wr=>∃(p:List Nat) (i f g cap n:Nat) (d:ByteArray),t=.slice (some ⟨g,0,none⟩) n cap∧n=p.length∧u=.string d∧Hid (Bw net i=d)∧own 9 w.heap.size wr t (p.map (Bw net))∧Hid (Uj net (f+1) p i)∧Below w.heap.size w wr∧Hid (Ht net c s=Fc net c (f+1) p i)) (fun t _ _=>net.length+2 - BaY t)
 case atStart=>exact⟨[],s,net.length,w.heap.size,0,0,nm,rfl,rfl,rfl,uG,lu.out,Ml hs,l1,rfl⟩
 case round=>
  obtain⟨p,i,f,g,cap,n,d,rfl,rfl,rfl,HD,ho,oO,lr,HG⟩:=hrel;refine' ZP7;have xj:=aA (Av5 HK.out oO.out.2.1 nZ);rw[HD.out]at xj;have HOF:=aA (AuD HK.out nZ);rw[←Kl nZ,HD.out]at HOF;obtain⟨b,o,A2,k2,rfl,hb,ag,hu,y1,y2⟩:=HR.out.ofcU i nZ;have rV:d.size≤maxLen:=by rw[←HD.out,Kl nZ];exact ag
  refine' ZP8;have xk:=aA (Ao5 sX.out c);refine' ZP9;rw[hN]at HL HH de xk;rw[hS]at HH de xw xk;have dw:=aA hS;clear hN hS;obtain⟨r,hr⟩:∃r,rkI (p.map (Bw net)) d=r:=⟨_,rfl⟩;rw[hr]at xj;refine' ZCh;have gh:=lr.size
  refine' ZC;refine(Lw _ (p.map (Bw net)) d _ HO.out.rd).mono ?_;rw[aj.out];refine' zo;by_cases f9:0≤r
  ·have pJ:decide (i∈p)=true:=by rw[←xj.out];exact aJ f9
   have pX:=aA (gK pJ);have HE:Hid (Ht net c s=(p++[i],2)):=by show _=_;rw[HG.out,Ad5 pX.out]
   go_wp2_with (at_builtin;refine An (α:=ByteArray) rfl (.tmp 17) (.tmp 19) 28 rfl w.heap.size 9 i0 _ 16 aW hi ah aw aq rfl ZF (.slice (some ⟨g,0,none⟩) p.length cap) (p.map (Bw net)) d rfl (HO.out.alloc _) ⟨w1.heap.size,0,none⟩ 1 [.string d] rfl ⟨rV,rfl⟩ (Bz w1 _ [.string d]) (by refine' za;exact ZN) ZCd ZH ?_;intro g5 rY w5 bz ap cn jJ)
   refine' ZQE;refine' ZBQ;clear bz;go_ret2;refine⟨_,Bf ZCj,?_,l5⟩;rw[HE.out];have h:=jT.out;rw[←HD.out]at h;exact zG
  have pJ:decide (i∈p)=false:=by rw[←xj.out];exact aO f9
  have xh:=aA (iA pJ)
  go_wp2_with (at_builtin;refine An (α:=ByteArray) rfl (.tmp 21) (.tmp 23) 28 rfl w.heap.size 9 i0 _ 16 aW hi ah aw aq rfl ZF (.slice (some ⟨g,0,none⟩) p.length cap) (p.map (Bw net)) d rfl (HO.out.alloc _) ⟨w1.heap.size,0,none⟩ 1 [.string d] rfl ⟨rV,rfl⟩ (Bz w1 _ [.string d]) (by refine' za;exact ZN) ZCd ZH ?_;intro g5 rY w5 bz ap cn jJ)
  refine' ZQE;have xi:(p.map (Bw net)).length=p.length:=ZQF
  have ku:(p++[i]).map (Bw net)=p.map (Bw net)++[d]:=by rw[cQ,List.map_singleton,HD.out]
  rw[←ku]at bz;clear ku;refine' ZBQ;clear bz
  refine(H7 _ net d _ (ev.out.on l5)).mono ?_;rw[HOF.out];rintro e w6 ⟨rfl,rfl⟩
  refine' ZC;refine(ApO _ x.rules c _ (HU.out.on l5) jf).mono ?_;rw[dw.out];rintro e w6 ⟨rfl,b6⟩;replace jT:=aA (jT.out.below b6);replace l5:=Aa l5 b6;clear b6;by_cases az:N<0
  ·have HE:Hid (Ht net c s=(p++[i],1)):=ZQA
   have he:sEq S ⟨#[]⟩=true:=by rw[xk.out];exact aJ az
   rw[AyY]at he;go_wp2;go_ret2;exact⟨_,Bf ZCj,by rw[HE.out];exact ZFg,l5⟩
  have he:sEq S ⟨#[]⟩=false:=by rw[xk.out];exact aO az
  rw[AyY]at he;cases kE:sEq S L8
  case true=> refine' ZQB;go_wp2;go_ret2;exact⟨_,Bf ZCj,by rw[HE.out];exact ZFg,l5⟩
  obtain⟨j,hj,e1,e2,e3⟩:=de.out ZA kE;refine' ZQC;have HE3:=aA e3;clear e1 e2 e3 HL HH de;obtain⟨f',yb⟩:=Qg uE.out;subst yb;go_wp2
  go_roundw
  case rel=>exact⟨p++[i],j,f',g5,rY,p.length+1,S,rfl,ZE,rfl,HE3.out,ZFg,uE.out,l5,HE.out⟩
  case measure=>simp[BaY,xi];omega
end Go.Proofs.YtfadhdacjpmmeaaGreatDoor
