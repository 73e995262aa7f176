/- Parts. -/
import Derived.Test.YtfadhdacjpmmeaaGreatDoorQ13
import Derived.Test.YtfadhdacjpmmeaaGreatDoorQ11
set_option linter.unusedVariables false
set_option linter.unusedSimpArgs false
namespace Go.Proofs.YtfadhdacjpmmeaaGreatDoor
set_option maxRecDepth 100000
set_option maxHeartbeats 1600000
open Go.IntKind renaming i64→aI
open Go.Obj renaming cells→aC
open Go.Proofs.Tryz renaming prog→aB
open Go.Value renaming string→aK,int→bC
open Go.RowKit
theorem AnU(p):∀(n k:Nat) (xs:List Ltr),(Q3 p k n xs).length≤n*xs.length
 |0,_,_=>by simp[Q3]
 |n+1,k,xs=>by show(Bn _ xs++Q3 p (k+1) n (Kr p k xs)).length≤_;have h1:=AnU p n (k+1) (Kr p k xs);have h2:=AjY p k xs;have h3:n*(Kr p k xs).length≤n*xs.length:=Nat.mul_le_mul_left _ h2;have h4:(Bn (fun x=>Dm p x.code k) xs).length≤xs.length:=bJ _ _;rw[aS,eU,iL];omega
theorem Qy(v vb p xs)(k0 k1:Nat)(w)(hv:rdP w w.heap.size v p)(hb:rd w w.heap.size vb xs)
 (h1:2≤p.bins) (h2:p.bins≤16) (kX:k1≤4) (hk01:k0≤k1) (nN:p.order.length≤1000) (hl:xs.length≤500):
 Calls aB 244 #[v,vb,.int .i64 k0,.int .i64 k1] w fun e w'=>∃vL vO,e=.returned (.tuple #[vL,vO])∧own 119 w.heap.size w' vL (Cd p k0 (k1 - k0) xs)∧own 119 w.heap.size w' vO (Q3 p k0 (k1 - k0) xs)∧apart vL vO∧Below w.heap.size w w':=by
 refine' ZBg;subst e0;refine' zX;clear ac hv hb;refine' ZAH;refine' zv;have bf:w.heap.size≤w0.heap.size:=HT.out.size;go_enter Tryz.func244,Tryz.ntmps244
 refine' zD;refine(Sa _ xs _ HB.out ZA).mono ?_;refine' ZAj;have l1:=Aa l0 b1;have O1:=aA o1;clear o1 b1 l0
 refine' ZC;go_loopw[10,11,12] (fun t u i wr=>∃j:Nat,j≤k1 - k0∧i=.int .i64 ((k0+j:Nat):Int)∧Below w0.heap.size w0 wr∧own 119 w0.heap.size wr t (Cd p k0 j xs)∧own 119 w0.heap.size wr u (Q3 p k0 j xs)∧Hid (apart t u)) (fun _ _ i _=>k1 - (intOf i).toNat)
 case atStart=>exact⟨0,aM _,rfl,l1,O1.out,own.nil_ _ _ _,Br (.inl rfl)⟩
 case round=>
  obtain⟨j,hj,rfl,lr,hL,hO,HA⟩:=hrel;refine' zl;have HL:=aA hL;have HO:=aA hO;obtain⟨AO,mO,cO,rfl,oT,_,_,_⟩:=hO.rd;obtain⟨AL,mL,cL,rfl,hmL,_,_,_⟩:=hL.rd;subst oT hmL;clear hL hO l1 O1;have sN:=aA (Lr p j k0 xs);have LO:=aA (AnU p j k0 xs);have eu:Hid (Cd p k0 (j+1) xs=(Bm (fun x=>Dm p x.code (k0+j)) p.bins.toNat (Cd p k0 j xs)).flatten):=Mc p j k0 xs;have ff:Hid (Q3 p k0 (j+1) xs=Q3 p k0 j xs++Bn (fun x=>Dm p x.code (k0+j)) (Cd p k0 j xs)):=Al0 p j k0 xs;generalize j3:Cd p k0 j xs=ys at *;generalize fx:Q3 p k0 j xs=zs at *;have HYZ:Hid (Cd p k0 j xs=ys∧Q3 p k0 j xs=zs):=⟨j3,fx⟩;clear j3 fx;have GX:ys.length≤500:=by have:=sN.out;omega
  have nC:zs.length≤2000:=by have h:=LO.out;have h3:j*xs.length≤4*500:=cC ZA hl;omega
  clear sN LO;by_cases ab:k0+j<k1
  ·have kV:=aA (fun W (hW:Below w0.heap.size w0 W) (hr:rd W W.heap.size (.slice AL ys.length cL) ys)=>Ma _ _ (.slice none 0 0) p ys (k0+j) [] W (HP.out.on hW) hr rd.nil_ h1 h2 ZA nN (fun m hm=>by simp at hm) ZA)
   refine' ZC;refine(kV.out _ lr HL.out.rd).mono ?_;rintro e w3 ⟨vB,vO,vs,rfl,hB,hR,hF,b3⟩;have hB':Fi 27 119 w2.heap.size w3 vB (Bm (fun x=>Dm p x.code (k0+j)) p.bins.toNat ys) vs:=hB;have LP:own 119 w2.heap.size w3 vO (Bn (fun x=>Dm p x.code (k0+j)) ys):=hR;have jU:(Bm (fun x=>Dm p x.code (k0+j)) p.bins.toNat ys).flatten.length≤1048576:=aG (Ez ys) ZA;have wI:(Bn (fun x=>Dm p x.code (k0+j)) ys).length≤500:=aG (bJ _ _) GX;generalize(Bm (fun x=>Dm p x.code (k0+j)) p.bins.toNat ys)=bs at *;generalize(Bn (fun x=>Dm p x.code (k0+j)) ys)=rs at *;have l3:=Aa lr b3;have dz:=aA (show rd w3 w3.heap.size vB bs from Fu.rd ⟨vs,hB'⟩);have LQ:=aA LP;have fg:=aA (HO.out.below b3);clear hB hB' hR LP hF HL HA b3
   refine' ZC;refine(Qz _ bs _ dz.out jU).mono ?_;refine' ZDJ;have l4:=Aa l3 b4;have iw:=aA (Dd o4 fg.out (aD _));have O4:=aA (o4.base_ l3.size);have HR4:=aA (LQ.out.below b4);have jq:=aA (fg.out.below b4);clear o4 b4 LQ fg dz;refine' ZDE;obtain⟨AR,mR,cR,hvr,hmR,_,_,_⟩:=HR4.out.rd;subst hvr hmR
   go_wp2_with (at_builtin;refine Cu (α:=Ltr) rfl (.tmp 32) (.tmp 33) 27 rfl w0.heap.size 119 i1 _ 24 aV ji dp dq dr rfl ZF (.slice AO zs.length cO) zs rfl jq.out (.slice AR rs.length cR) rs rfl w4.heap.size HR4.out.rd ZN ZA mq ?_;intro v5 w5 bz ap cn)
   have l5:Below w0.heap.size w0 w5:=l4.trans (Ay jq.out ap mq);have O5:=aA (O4.out.grown ap iw.out);have ny:Hid (apart v4 v5):=by
    show apart _ _;have h:=iw.out;unfold apart at *;rcases cn with e5|e5
    ·rw[e5];exact h
    ·cases kB:v4.ownBlock with
     |none=>exact .inl rfl
     |some q=> refine' YR;rw[e5]at e;injection e with e;have:=(O4.out.blk q kB).2;omega
   go_roundw
   case rel=>exact⟨j+1,ZA,ZJ,l5,by rw[eu.out];exact O5.out,by rw[ff.out];exact bz,ny⟩
   case measure=>exact ZK
  ·have HE:=aA (show k1 - k0=j by omega)
   go_wp2;go_ret2;rw[HE.out];exact⟨_,_,rfl,by rw[HYZ.out.1];exact HL.out.base_ bf,by rw[HYZ.out.2];exact HO.out.base_ bf,HA.out,Aa HT.out lr⟩
def En(xss:List (List Ltr)):Bool:=decide (xss.length≤60)&&okB xss.flatten
def collected(xss:List (List Ltr)):List Ltr:=if En xss then xss.flatten else []
theorem AmR{xss}(h:En xss=false):collected xss=[]:=by unfold collected;rw[h];rfl
theorem Xd{xss}(h:En xss=true):collected xss=xss.flatten:=by unfold collected;rw[aP h]
theorem Nc{α:Type}(xss:List (List α))(k):(xss.take k).flatten.length≤xss.flatten.length:=by
 conv=>rhs;rw[←dW k xss,bT,aS]
 omega
theorem Ay2{xs}(h:60<xs.length):okB xs=false:=by unfold okB;rw[aO ZA];rfl
theorem Nb(v xss w)(hv:rd w w.heap.size v xss):
 Calls aB 212 #[v] w fun e w'=>∃vL,e=.returned (.tuple #[vL,.bool (En xss)])∧own 119 w.heap.size w' vL (collected xss)∧Below w.heap.size w w':=by
 refine' ZAh;refine' zw;refine' ZDK;have HQ:Hid (En xss=(decide (xss.length≤60)&&okB xss.flatten)):=rfl;have bw:Hid (∀h:En xss=false,∀W:World,own 119 w.heap.size W (.slice none 0 0) (collected xss)):=fun h W=>by rw[AmR h];exact ze
 go_enter Tryz.func212,Tryz.ntmps212;by_cases kl:(60:Int)<(xss.length:Int)
 ·have HF:Hid (En xss=false):=by show _=_;rw[HQ.out,aO ZA];rfl
  go_wp2;go_ret2;exact⟨_,Bf ZX,bw.out HF.out _,l0⟩
 have wJ:=aA (show xss.length≤60 by omega);go_wp2
 go_loopw[4,12] (fun t i wr=>∃k:Nat,k≤xss.length∧i=.int .i64 k∧Below w.heap.size w wr∧own 119 w.heap.size wr t (xss.take k).flatten∧(xss.take k).flatten.length≤60) (fun _ i _=>xss.length - (intOf i).toNat)
 case atStart=>exact⟨0,aM _,rfl,l0,own.nil_ _ _ _,ZE⟩
 case round=>
  obtain⟨k,hk,rfl,lr,ho,QH⟩:=hrel;refine' zR;clear l0;by_cases ab:k<xss.length
  ·refine' ZLf;have LS:=aA (Nc xss (k+1));refine' ZLg;subst nI;clear kq;unfold maxLen at jr;refine' ZLh;by_cases hbig:(60:Int) - (zs.length:Int)<(ys.length:Int)
   ·have HF:Hid (En xss=false):=by show _=_;rw[HQ.out,Ay2 (by have h1:=LS.out;have h2:=aT List.length HS.out;rw[aS]at h2;omega)];simp
    go_wp2;go_ret2;exact⟨_,Bf ZX,bw.out HF.out _,lr⟩
   ·go_wp2_with (at_builtin;refine Cu (α:=Ltr) rfl (.tmp 22) (.tmp 23) 27 rfl w.heap.size 119 i0 _ 24 aV hi ah aw aq rfl ZF (.slice A3 zs.length c3) zs rfl df.out (.slice A2 ys.length c2) ys rfl w1.heap.size (HU.out.on lr) ZN ZA lr.size ?_;intro v' w2 kG sn _)
    have l2:Below w.heap.size w w2:=lr.trans (Ay df.out sn lr.size);have HLE:Hid ((zs++ys).length≤60):=by show _≤_;refine' ZAY;omega
    go_roundw
    case rel=>exact⟨k+1,ZA,ZJ,l2,by rw[HS.out];exact kG,by rw[HS.out];exact HLE.out⟩
    case measure=>exact ZK
  ·refine' ZDH;rw[HE.out,aY]at ho;clear QH;obtain⟨fl,jU⟩:∃fl,xss.flatten=fl:=⟨_,rfl⟩;rw[jU]at ho;have mK:=aA jU;clear jU;refine' zZ;obtain⟨A3,m3,c3,rfl,tQ,_,_,_⟩:=ho.rd;subst tQ;clear ho
   refine' ZC;refine(Cn _ fl _ HO.out.rd).mono ?_;refine' zK;have l2:=Aa lr b2;have ja:=aA (HO.out.below b2);cases hx:okB fl
   ·have HF:Hid (En xss=false):=by show _=_;rw[HQ.out,mK.out,hx];simp
    clear hx
    refine' ZQ;exact⟨_,Bf ZX,bw.out HF.out _,l2⟩
   ·have HF:Hid (En xss=true):=by show _=_;rw[HQ.out,mK.out,hx,aJ wJ.out];rfl
    clear hx
    refine' ZQ;exact⟨_,Bf ZX,by rw[Xd HF.out,mK.out];exact ja.out,l2⟩
def Qm(p:Pln)(xs:List Ltr)(k:Int):Bool:=Ku p k&&okB xs
def Fz(p:Pln)(xs:List Ltr)(k:Int):List (List Ltr):=if Qm p xs k then Bm (fun x=>Dm p x.code k.toNat) p.bins.toNat xs else []
def Li(p:Pln)(xs:List Ltr)(k:Int):List Ltr:=if Qm p xs k then Bn (fun x=>Dm p x.code k.toNat) xs else []
def M4(p:Pln)(xs:List Ltr):Bool:=Bq p&&okB xs
def Dr(p:Pln)(xs:List Ltr):List Ltr:=if M4 p xs then Cd p 0 p.passes.toNat xs else []
def Ha(p:Pln)(xs:List Ltr):List Ltr:=if M4 p xs then Bn (fun x=>Dm p x.code 0) xs else []
def Hh(p:Pln)(xss:List (List Ltr))(k:Int):Bool:=Ku p k&&(xss.length==p.bins.toNat)&&okB xss.flatten
def J9(p:Pln)(xss:List (List Ltr))(k:Int):List Ltr:=if Hh p xss k then Cd p (k.toNat+1) (p.passes.toNat - (k.toNat+1)) xss.flatten else []
theorem Md{α:Type}[El α](T1 T2 base:Nat)(w):Fi (α:=α) T1 T2 base w (.slice none 0 0) [] []:=
 ⟨own.nil_ _ _ _,rfl,fun k h=>absurd h (aX k),fun j k h=>absurd h (aX j),fun k h=>absurd h (aX k)⟩
theorem Cq{xs}(h:okB xs=true):xs.length≤60:=(Ep.1 h).1
theorem Aj6(v vb p xs k w)(hv:rdP w w.heap.size v p)(hb:rd w w.heap.size vb xs):
 Calls aB 290 #[v,vb,.int .i64 k] w fun e w'=>∃vB vO vs,e=.returned (.tuple #[vB,vO,.bool (Qm p xs k)])∧Fi 27 119 w.heap.size w' vB (Fz p xs k) vs∧own 119 w.heap.size w' vO (Li p xs k)∧D7 vO vB vs∧Below w.heap.size w w':=by
 refine' ZC7;have bw:Hid (∀h:Qm p xs k=false,∀W:World,Fi 27 119 w.heap.size W (.slice none 0 0) (Fz p xs k) []∧own 119 w.heap.size W (.slice none 0 0) (Li p xs k)):=fun h W=>by unfold Fz Li;rw[h];exact⟨Md _ _ _ _,own.nil_ _ _ _⟩
 have HQ:Hid (Qm p xs k=(Ku p k&&okB xs)):=rfl;go_enter Tryz.func290,Tryz.ntmps290
 refine' ZGj;cases h1:Ku p k
 ·have HF:Hid (Qm p xs k=false):=zu
  exact ZKm
 obtain⟨lD,mH,rU⟩:=Jz.1 h1;refine' ZC9;have H1:=aA h1;clear h1 lD
 refine' ZC;refine' ZEO;cases h2:okB xs
 ·have HF:Hid (Qm p xs k=false):=ZEY
  clear h2
  refine' zV;exact⟨_,_,[],Bf ZX,(bw.out HF.out _).1,(bw.out HF.out _).2,⟨.inl rfl,fun k h=>absurd h (aX k)⟩,Aa HT.out l2⟩
 have lG:=Cq h2;have HF:Hid (Qm p xs k=true):=ZG4
 have HY:Hid (Fz p xs k=Bm (fun x=>Dm p x.code k.toNat) p.bins.toNat xs∧Li p xs k=Bn (fun x=>Dm p x.code k.toNat) xs):=by unfold Fz Li;rw[HF.out];exact ZV
 clear h2;refine' ZDB;refine' ZC;refine(Ma _ _ (.slice none 0 0) p xs k [] _ (HP.out.on l2) (HB.out.on l2) rd.nil_ g1 g2 ZA ZA (fun m hm=>by simp at hm) ZA).mono ?_;rintro e w3 ⟨vB,vO,vs,rfl,hB,hR,hF,b3⟩;refine' YC;have jV:=aA hB;have aj:=aA hR;have kA:=aA hF;clear hB hR hF
 refine' zV;have hh:=HY.out;rw[bE]at hh;exact⟨_,_,vs,Bf ZX,by rw[hh.1];exact jV.out.base_ (aG bf l2.size),by rw[hh.2];exact aj.out.base_ (aG bf l2.size),kA.out,Aa HT.out l3⟩
theorem Y5(v vb p xs w)(hv:rdP w w.heap.size v p)(hb:rd w w.heap.size vb xs):
 Calls aB 201 #[v,vb] w fun e w'=>∃vL vO,e=.returned (.tuple #[vL,vO,.bool (M4 p xs)])∧own 119 w.heap.size w' vL (Dr p xs)∧own 119 w.heap.size w' vO (Ha p xs)∧apart vL vO∧Below w.heap.size w w':=by
 refine' ZC7;have bw:Hid (∀h:M4 p xs=false,∀W:World,own 119 w.heap.size W (.slice none 0 0) (Dr p xs)∧own 119 w.heap.size W (.slice none 0 0) (Ha p xs)):=fun h W=>by unfold Dr Ha;rw[h];exact⟨own.nil_ _ _ _,own.nil_ _ _ _⟩
 have HQ:Hid (M4 p xs=(Bq p&&okB xs)):=rfl;go_enter Tryz.func201,Tryz.ntmps201
 refine' ZGw;cases h1:Bq p
 ·have HF:Hid (M4 p xs=false):=zu
  clear h1
  refine' zV;exact⟨_,_,Bf ZX,(bw.out HF.out _).1,(bw.out HF.out _).2,.inl rfl,Aa HT.out l1⟩
 obtain⟨g1,g2,g3,g4,g5⟩:=Dz h1;refine' zP;refine' ZEO;cases h2:okB xs
 ·have HF:Hid (M4 p xs=false):=ZEY
  clear h2
  refine' zV;exact⟨_,_,Bf ZX,(bw.out HF.out _).1,(bw.out HF.out _).2,.inl rfl,Aa HT.out l2⟩
 have lG:=Cq h2;have HF:Hid (M4 p xs=true):=ZG4
 clear h2;refine' ZEL;have sh:1≤M∧M≤4:=ZA6
 have HY:Hid (Dr p xs=Cd p 0 M xs∧Ha p xs=Q3 p 0 M xs):=by unfold Dr Ha;rw[HF.out,pW.out,bE];refine⟨rfl,?_⟩;obtain⟨M',rfl⟩:∃M',M=M'+1:=⟨M - 1,ZA⟩;rw[AqU g1];rfl
 have HD:=aA (fun W (hW:Below w0.heap.size w0 W)=>Qy _ _ p xs 0 M W (HP.out.on hW) (HB.out.on hW) g1 g2 sh.2 (aM _) ZA ZA);have jR:Hid (∀W,Below w0.heap.size w0 W→Calls aB 244 #[.agg #[.int .i64 p.bins,.int .i64 p.passes,.slice A0 p.order.length c0],vb,.int .i64 0,.int .i64 p.passes] W fun e w'=>∃vL vO,e=.returned (.tuple #[vL,vO])∧own 119 W.heap.size w' vL (Cd p 0 M xs)∧own 119 W.heap.size w' vO (Q3 p 0 M xs)∧apart vL vO∧Below W.heap.size W w'):=fun W hW=>by have h:=HD.out W hW;rw[←pW.out]at h;exact h
 clear HD
 refine' ZC;refine(jR.out _ l2).mono ?_;rintro e w3 ⟨vL,vO,rfl,hL,hO,hA,b3⟩;refine' YC;have HL:=aA hL;have HO:=aA hO;have HA:=aA hA;clear hL hO hA
 refine' zV;exact⟨_,_,Bf ZX,by rw[HY.out.1];exact HL.out.base_ (aG bf l2.size),by rw[HY.out.2];exact HO.out.base_ (aG bf l2.size),HA.out,Aa HT.out l3⟩
theorem Tk(v vb p xss k w)(hv:rdP w w.heap.size v p)(hb:rd w w.heap.size vb xss):
 Calls aB 304 #[v,vb,.int .i64 k] w fun e w'=>e=.returned (.bool (Hh p xss k))∧Below w.heap.size w w':=by
 refine' ZBg;obtain⟨A,n,c,rfl,hn,hc,hm,_⟩:=hb;refine' ZBk;subst e0;refine' zX;clear ac hv;refine' ZBh;have HQ:Hid (Hh p xss k=(Ku p k&&(xss.length==p.bins.toNat)&&okB xss.flatten)):=rfl;go_enter Tryz.func304,Tryz.ntmps304
 refine' ZGj;cases h1:Ku p k
 ·have HF:Hid (Hh p xss k=false):=zu
  clear h1
  exact ZEN
 obtain⟨g1,g2,g3,g4,g5⟩:=Dz (Jz.1 h1).1;refine' zS;by_cases jb:(xss.length:Int)=p.bins
 ·have qF:((xss.length:Int) != p.bins)=false:=by simp[jb]
  have lF:Hid ((xss.length==p.bins.toNat)=true):=by show _=_;rw[dE];omega
  have PJ:Hid (xss.length≤60):=ZA8
  clear jb
  refine' ZC;refine(Nb _ xss _ (HB.out.on l1)).mono ?_;rintro e w2 ⟨vL,rfl,hL,b2⟩;have l2:=Aa l1 b2;clear hL;have HR:Hid (Hh p xss k=En xss):=by show _=_;unfold En;rw[HQ.out,H1.out,lF.out,aJ PJ.out];rfl
  generalize En xss=r at *
  refine' ZI;exact⟨Al HR.out.symm,Aa HT.out l2⟩
 ·have qF:((xss.length:Int) != p.bins)=true:=by simp[jb]
  have lF:Hid ((xss.length==p.bins.toNat)=false):=by show _=_;exact ZG5
  clear jb
  refine' ZI;exact⟨Al (by rw[HQ.out,lF.out];simp),Aa HT.out l1⟩
theorem Lf{p xss k}:Hh p xss k=true↔Ku p k=true∧xss.length=p.bins.toNat∧okB xss.flatten=true:=by unfold Hh;simp only[aN,dE,and_assoc]
theorem Aa5(v vb p xss k w)(hv:rdP w w.heap.size v p)(hb:rd w w.heap.size vb xss):
 Calls aB 247 #[v,vb,.int .i64 k] w fun e w'=>∃vL,e=.returned (.tuple #[vL,.bool (Hh p xss k)])∧own 119 w.heap.size w' vL (J9 p xss k)∧Below w.heap.size w w':=by
 refine' ZC7;have bw:Hid (∀h:Hh p xss k=false,∀W:World,own 119 w.heap.size W (.slice none 0 0) (J9 p xss k)):=fun h W=>by unfold J9;rw[h];exact ze
 go_enter Tryz.func247,Tryz.ntmps247
 refine' zD;refine(Tk _ _ p xss k _ HP.out HB.out).mono ?_;refine' zd;cases h1:Hh p xss k
 exact ZLD;refine' ZGl;have HF:=aA h1;clear h1 kX lD;have jU:=Cq pF;clear pF jl;refine' ZDB;refine' ZEL;have hkM:k<M∧M≤4:=ZA6
 obtain⟨fl,sV⟩:∃fl,xss.flatten=fl:=⟨_,rfl⟩;have sW:=aA sV;rw[sV]at jU;clear sV;have HY:Hid (J9 p xss (k:Int)=Cd p (k+1) (M - (k+1)) fl):=by show _=_;unfold J9;rw[HF.out,pW.out,bE,bE,sW.out];rfl
 have CJ:Hid (∀W,Below w0.heap.size w0 W→Calls aB 283 #[vb] W fun e w'=>∃v',e=.returned v'∧own 119 W.heap.size w' v' fl∧Below W.heap.size W w'):=fun W hW=>by have h:=Qz vb xss W (HB.out.on hW) (by rw[sW.out];omega);rw[sW.out]at h;exact h
 have CD:Hid (∀W,Below w0.heap.size w0 W→∀vf,rd W W.heap.size vf fl→Calls aB 244 #[.agg #[.int .i64 p.bins,.int .i64 p.passes,.slice A0 p.order.length c0],vf,.int .i64 ((k:Int)+1),.int .i64 p.passes] W fun e w'=>∃vL vO,e=.returned (.tuple #[vL,vO])∧own 119 W.heap.size w' vL (Cd p (k+1) (M - (k+1)) fl)∧own 119 W.heap.size w' vO (Q3 p (k+1) (M - (k+1)) fl)∧apart vL vO∧Below W.heap.size W w'):=fun W hW vf hf=>by have h:=Qy _ vf p fl (k+1) M W (HP.out.on hW) hf g1 g2 hkM.2 ZA ZA ZA;rw[←pW.out]at h;exact h
 have ld:=Ag l1;have EC:aI.wrap ((k:Int)+1)=(k:Int)+1:=bI _ ZA;go_wp2
 go_region_held3 (fun W=>Below w0.heap.size w0 W) (first|exact ld|exact Aa ld b2|exact Aa (Aa ld b2) b3) (first|(go_at_call 283;refine(CJ.out _ ld).mono ?_;rintro e w2 ⟨vf,rfl,o2,b2⟩)|(go_at_call 244;refine(CD.out _ (Aa ld b2) _ o2.rd).mono ?_;rintro e w3 ⟨vL,vO,rfl,hL,hO,hA,b3⟩))
 have l3:=Aa (Aa ld b2) b3;have HL:=aA (hL.base_ (aG bf (Aa ld b2).size));clear hL hO hA o2;go_wp2;go_ret2;exact⟨_,Bf ZX,by rw[HY.out];exact HL.out,Aa HT.out l3⟩
structure OutI (lo hi:Nat) (w w':World):Prop where
 os:w'.os=w.os
 tape:w'.tape=w.tape
 output:w'.output=w.output
 size:w.heap.size≤w'.heap.size
 block:∀k,k<w.heap.size→k<lo∨hi≤k→w'.heap[k]? =w.heap[k]?
theorem own.keepBlk{α:Type}[Flat α]{T base:Nat}{w w' v}{xs:List α}(h:own T base w v xs)(hk:∀k,v.ownBlock=some k→w'.heap[k]? =w.heap[k]?):own T base w' v xs:=by
 obtain⟨gg,⟨h1,h2⟩,hl,he⟩:=h;refine⟨gg,⟨h1,?_⟩,hl,fun k a b=>Flat.free (he k a b)⟩;rcases h2 with h2|⟨g,cap,bu,hv,hg,hh,r⟩
 ·exact .inl h2
 ·exact .inr ⟨g,cap,bu,hv,hg,by rw[hk g (by rw[hv];rfl)];exact hh,r⟩
theorem Ad6{T base g n c:Nat}{w xs}(h:own T base w (.slice (some ⟨g,0,none⟩) n c) xs){k}(hk:k<xs.length)(y)(hy:y.size≤maxLen):
 own T base (w.setCell ⟨g,k,none⟩ (.string y)) (.slice (some ⟨g,0,none⟩) n c) (xs.set k y):=by
 have h1:=h.setCell (k:=k) (j:=0) hk ZF (.string y) y (fun ecs he=>ZMG)
 rw[show k*El.size ByteArray+0=k from dZ k]at h1;exact h1
theorem AgJ(s w)(hs:s.size≤maxLen):
 Calls aB 284 #[.string s] w fun e w'=>e=.returned (.bool (Gi s))∧w=w':=by
 unfold maxLen at hs;go_enter Tryz.func284,Tryz.ntmps284;by_cases hz:1≤(s.size:Int)∧(s.size:Int)≤8
 ·obtain⟨aw,aq⟩:=hz
  have HI:Hid (∀b,AaA s.data.toList=b→Gi s=b):=fun b h=>by unfold Gi;rw[aJ aw,aJ aq,h];simp
  refine' ZQG
  ·refine' ZC5;by_cases ab:k<s.size
   ·have ku:=Us s k ab
    have am:=aA (AoO s k ab);refine' ZEG;go_wp2
    ·go_ret
     exact⟨Al (HI.out _ (am.out ZFh)).symm,rfl⟩
    exact ZQH
    ·go_ret
     exact⟨Al (HI.out _ (am.out ZFh)).symm,rfl⟩
   ·refine' ZEH;refine' ZO;exact⟨Al (HI.out _ HD.out).symm,rfl⟩
 ·have HF:Hid (Gi s=false):=by
   show _=_;cases hq:Gi s
   ·rfl
   ·have:=(Kb.1 hq).2
    exact absurd ⟨ZA,ZA⟩ hz
  by_cases aw:(s.size:Int)<1
  ·refine' ZO;exact⟨Al HF.out.symm,rfl⟩
  ·have aq:(8:Int)<(s.size:Int):=ZA
   clear hz;refine' ZO;exact⟨Al HF.out.symm,rfl⟩
theorem AdJ(s w)(hs:s.size≤maxLen):
 Calls aB 173 #[.string s] w fun e w'=>e=.returned (.bool (Gi s))∧w=w':=by
 unfold maxLen at hs;go_enter Tryz.func173,Tryz.ntmps173;refine' ZQG
 ·refine' ZC5;by_cases ab:k<s.size
  ·have ku:=Us s k ab
   have am:=aA (AoO s k ab);refine' ZEG;go_wp2
   ·go_ret
    exact⟨Al ZQI,rfl⟩
   exact ZQH
   ·go_ret
    exact⟨Al ZQI,rfl⟩
  ·refine' ZEH;refine' ZC;refine(D0 s.size 1 8 _).mono ?_;refine' ZW;have HR:Hid (Gi s=(decide (1≤(s.size:Int))&&decide ((s.size:Int)≤8))):=by show _=_;unfold Gi;rw[HD.out];rfl
   obtain⟨r,hr⟩:∃r,(decide (1≤(s.size:Int))&&decide ((s.size:Int)≤8))=r:=⟨_,rfl⟩;rw[hr]at HR⊢;clear hr
   refine' ZI;exact⟨Al HR.out.symm,rfl⟩
theorem Rd(s w)(hs:s.size≤maxLen):
 Calls aB 288 #[.string s] w fun e w'=>e=.returned (.bool (Jr s))∧w=w':=by
 go_enter Tryz.func288,Tryz.ntmps288;by_cases h7:s.size≤7
 ·have h7':(s.size:Int)≤7:=ZA
  have HP:Hid (Jr s=Ea s.data.toList):=by show _=_;unfold Jr;rw[aJ h7,Bool.and_true]
  rw[HP.out]
  go_wp2_with (go_at_call 220;refine(Mk _ _ hs).mono ?_;refine' zN)
  go_ret;exact ZV
 ·have h7':¬(s.size:Int)≤7:=ZA
  have HP:Hid (Jr s=false):=by show _=_;unfold Jr;rw[aO h7,Bool.and_false]
  rw[HP.out];refine' ZO;exact ZV
theorem Qw(s w)(hs:s.size≤maxLen):
 Calls aB 253 #[.string s] w fun e w'=>e=.returned (.bool (Jr s))∧w=w':=by
 go_enter Tryz.func253,Tryz.ntmps253;cases hd:(Ea s.data.toList&&decide (s.size≤20))
 ·refine' ZEI;simp only[Jr,eH,eO]at this⊢;rcases this with h|h
  ·simp[h]
  ·have h7:¬s.size≤7:=ZA
   simp[h7]
 ·refine' ZEI;refine' ZGd;refine' ZAU;simp[Jr,this.1]
  try omega
theorem AnJ(v fs c w)(hv:rd w w.heap.size v fs):
 Calls aB 337 #[v,.string c] w fun e w'=>e=.returned (.int .i64 (Gg fs c))∧Below w.heap.size w w':=by refine' ZAJ;go_enter Tryz.func337,Tryz.ntmps337;exact ZMk
theorem AmP(v fs c w)(hv:rd w w.heap.size v fs):
 Calls aB 164 #[v,.string c] w fun e w'=>e=.returned (.int .i64 (Gg fs c))∧w=w':=by refine' ZAJ;go_enter Tryz.func164,Tryz.ntmps164;exact ZMl
theorem At0{s r w}(hs:s.size≤maxLen)(h:Jr s=r):Calls aB 288 #[.string s] w fun e w'=>e=.returned (.bool r)∧w=w':=by rw[←h];exact Rd s w hs
theorem AaE{s r w}(hs:s.size≤maxLen)(h:Gi s=r):Calls aB 284 #[.string s] w fun e w'=>e=.returned (.bool r)∧w=w':=by rw[←h];exact AgJ s w hs
theorem Tr(v fs w)(hv:rd w w.heap.size v fs):
 Calls aB 174 #[v] w fun e w'=>e=.returned (.bool (C7 fs))∧w=w':=by
 refine' ZDW;refine' zw;go_enter Tryz.func174,Tryz.ntmps174;go_wp2
 go_loop[3] (fun i=>∃k:Nat,k≤fs.length∧i=.int .i64 k∧Hid (∀j,j<k→AfL fs j=true)) (fun i=>fs.length - (intOf i).toNat)
 case atStart=>exact ZEi
 case round=>
  refine' YE;by_cases ab:k<fs.length
  ·refine' ZEj;have hG:=aA (Aa4 ab);have hS:=aA (AjD ab);have am:=aA (fun h=>AcN ab h);refine' YU;refine' ZAo;refine' ZC;refine(Qw x.src _ mc).mono ?_;refine' ZW;cases h1:Jr x.src
   exact ZHH;refine' zP;refine(AdJ x.dst _ me).mono ?_;refine' ZW;cases h2:Gi x.dst
   ·refine' zA;exact ZHI
   refine' zA;obtain⟨r,aj⟩:∃r,Hid (Gg fs x.src=r):=⟨_,rfl⟩
   refine' ZC;refine(AmP _ fs x.src _ ev.out).mono ?_;exact ZMt
  ·refine' ZCL;by_cases pH:fs.length≤20
   ·have rS:=aA pH
    have qh:(fs.length:Int)≤20:=ZA
    refine' ZI;exact⟨Al (Zu rS.out ZAF).symm,rfl⟩
   ·have rS:=aA pH
    have qh:¬(fs.length:Int)≤20:=ZA
    refine' ZI;exact⟨Al (AdB rS.out).symm,rfl⟩
theorem Ny(v fs w)(hv:rd w w.heap.size v fs):
 Calls aB 285 #[v] w fun e w'=>e=.returned (.bool (C7 fs))∧Below w.heap.size w w':=by
 refine' ZDW;refine' zw;go_enter Tryz.func285,Tryz.ntmps285;by_cases pH:(20:Int)<(fs.length:Int)
 ·have HF:=aA (show¬fs.length≤20 by omega)
  refine' ZO;exact⟨Al (AdB HF.out).symm,l0⟩
 have rS:=aA (show fs.length≤20 by omega);go_wp2
 go_loopw[10] (fun i wr=>∃k:Nat,k≤fs.length∧i=.int .i64 k∧Below w.heap.size w wr∧Hid (∀j,j<k→AfL fs j=true)) (fun i _=>fs.length - (intOf i).toNat)
 case atStart=>exact ZHJ
 case round=>
  refine' ZBA;clear l0;by_cases ab:k<fs.length
  ·refine' ZEj;have hG:=aA (Aa4 ab);have am:=aA (fun h=>AcN ab h);refine' YU;refine' ZAo;refine' ZIQ;refine' ZMu;cases h1:Jr x.src
   ·refine' zS;have C1:=aA (fun w=>At0 (w:=w) mc H1.out);refine' ZAp;go_quiet (first|(go_at_call 288;exact ZBB))
    exact ZHL
   refine' zS;have C1:=aA (fun w=>At0 (w:=w) mc H1.out);cases h2:Gi x.dst
   ·refine' zA;have C2:=aA (fun w=>AaE (w:=w) me H2.out);refine' ZAp;go_quiet (first|(go_at_call 288;exact ZBB)|(go_at_call 284;refine Da (C2.out _)))
    exact ZHN
   refine' zA;have C2:=aA (fun w=>AaE (w:=w) me H2.out);refine' ZMv;have C3:Hid (∀W,Below wo.heap.size wo W→Calls aB 337 #[.slice (some ⟨b,o,none⟩) k cp,.string x.src] W fun e w'=>e=.returned (.int .i64 r)∧Below W.heap.size W w'):=fun W hW=>by have h:=AnJ (.slice (some ⟨b,o,none⟩) k cp) (fs.take k) x.src W ((im.out.on hW).take hk);rw[aj.out]at h;exact h
   refine' ZHO;by_cases f9:0≤r
   ·have HD:=aA (aJ f9)
    refine' ZQJ;go_ret;exact ZHP
   ·have HD:=aA (aO f9)
    refine' ZQJ;exact ZMx
  ·refine' ZCL;refine' ZO;exact⟨Al (Zu rS.out ZAF).symm,lr⟩
instance elOfc:El Ofc where
 size:=2
 el w B x cs:=x.name.size≤maxLen∧∃v,cs=[.string x.name,v]∧rd w B v x.rules
 len h:=by obtain⟨_,v,rfl,_⟩:=h;rfl
 more h hB:=by obtain⟨h0,v,h1,h2⟩:=h;exact⟨h0,v,h1,h2.more hB⟩
 keep h hk:=by obtain⟨h0,v,h1,h2⟩:=h;exact⟨h0,v,h1,h2.keep hk⟩
 one h:=by obtain⟨_,v,rfl,A,n,c,rfl,_⟩:=h;intro u hu;simp at hu;rcases hu with rfl|rfl<;>rfl
theorem rdA.ofcU{w A}{net:List Ofc}(h:rdA w w.heap.size A net)(k)(hk:k<net.length):
 ∃b o A' c',A=some ⟨b,o,none⟩∧b<w.heap.size∧net[k].name.size≤maxLen∧rd w w.heap.size (.slice A' net[k].rules.length c') net[k].rules∧(∀W,Below w.heap.size w W→W.cell? ⟨b,o+k*2,none⟩=some (.string net[k].name))∧(∀W,Below w.heap.size w W→W.cell? ⟨b,o+k*2+1,none⟩=some (.slice A' net[k].rules.length c')):=by
 obtain⟨b,o,cs,hA,hb,⟨hn,v,rfl,hv⟩,hc⟩:=h k hk;have ev:=hv;obtain⟨A',n',c',rfl,rZ,_⟩:=hv;subst rZ;have c1:w.cell? ⟨b,o+k*2,none⟩=some (.string net[k].name):=ZFY
 have c2:w.cell? ⟨b,o+k*2+1,none⟩=some (.slice A' net[k].rules.length c'):=by simpa [El.size,jH]using hc 1 _ rfl
 exact⟨b,o,A',c',hA,hb,hn,ev,fun W hW=>(hW.cell (p:=⟨b,o+k*2,none⟩) hb).trans c1,fun W hW=>(hW.cell (p:=⟨b,o+k*2+1,none⟩) hb).trans c2⟩
structure OfV where
 name:ByteArray
 val:Value
instance elOfV:El OfV where
 size:=2
 el _ _ x cs:=cs=[.string x.name,x.val]∧x.name.size≤maxLen∧x.val.oneCell'=true
 len h:=by rw[h.1];rfl
 more h _:=h
 keep h _:=h
 one h:=by
  rw[h.1];intro u hu;simp at hu;rcases hu with rfl|rfl
  ·rfl
  ·exact h.2.2
instance flatOfV:Flat OfV where
 free h:=h
def isN(T1 T2:TypeId)(base:Nat)(w:World)(v:Value)(net:List Ofc)(os:List OfV):Prop:=
 own T1 base w v os∧os.length=net.length∧(∀k (h:k<os.length) (h':k<net.length),os[k].name=net[k].name∧own T2 base w os[k].val net[k].rules)∧(∀j k (hj:j<os.length) (hk:k<os.length),j≠k→apart os[j].val os[k].val)∧(∀k (h:k<os.length),apart os[k].val v)
def AoW(T1 T2:TypeId)(base:Nat)(w:World)(v:Value)(net:List Ofc):Prop:=∃os:List OfV,isN T1 T2 base w v net os
section
variable{T1 T2:TypeId}{base:Nat}{w w':World}{v:Value}{net:List Ofc}{os:List OfV}
theorem isN.below(h:isN T1 T2 base w v net os)(hb:Below w.heap.size w w'):isN T1 T2 base w' v net os:=by refine' ZAV;exact⟨h1.below hb,h2,fun k a b=>⟨(h3 k a b).1,(h3 k a b).2.below hb⟩,h4,h5⟩
theorem isN.grown{row}(h:isN T1 T2 base w v net os)(hg:w.grownBy w' row)(hv:v.ownBlock=none∨v.ownBlock≠row)(DX:∀k (h:k<os.length),os[k].val.ownBlock=none∨os[k].val.ownBlock≠row):isN T1 T2 base w' v net os:=by refine' ZAV;exact⟨h1.grown hg hv,h2,fun k a b=>⟨(h3 k a b).1,(h3 k a b).2.grown hg (DX k a)⟩,h4,h5⟩
theorem isN.base_{kc}(h:isN T1 T2 base w v net os)(hb:kc≤base):isN T1 T2 kc w v net os:=by refine' ZAV;exact⟨h1.base_ hb,h2,fun k a b=>⟨(h3 k a b).1,(h3 k a b).2.base_ hb⟩,h4,h5⟩
theorem AzF{g n c}(h:own T1 base w (.slice (some ⟨g,0,none⟩) n c) os)(k)(hk:k<os.length):
 os[k].name.size≤maxLen∧w.cell? ⟨g,k*2,none⟩=some (.string os[k].name)∧w.cell? ⟨g,k*2+1,none⟩=some os[k].val:=by
 refine' ZDO;obtain⟨b,o,cs,hA,_,⟨rfl,hz,_⟩,hc⟩:=pB k hk;refine' ZDP;refine⟨hz,?_,?_⟩
 ·have:=hc 0 _ rfl
  rw[show 0+(k*El.size OfV+0)=k*2 by show 0+(k*2+0)=k*2;omega]at this;exact this
 ·have:=hc 1 _ rfl
  rw[show 0+(k*El.size OfV+1)=k*2+1 by show 0+(k*2+1)=k*2+1;omega]at this;exact this
theorem isN.form(h:isN T1 T2 base w v net os):v=.slice none 0 0∧net=[]∨∃g c,v=.slice (some ⟨g,0,none⟩) net.length c∧base≤g∧g<w.heap.size∧net.length≤c∧c≤maxLen:=by obtain⟨h1,h2,_⟩:=h;exact ZPG
theorem isN.rd(h:isN T1 T2 base w v net os):rd w w.heap.size v net:=by
 rcases h.form with⟨rfl,rfl⟩|⟨g,c,rfl,hg,ab,hc,hm⟩
 ·exact rd.nil_
 ·obtain⟨h1,h2,h3,_⟩:=h
  refine⟨_,_,_,rfl,rfl,hc,hm,fun k hk=>?_⟩;have fu:k<os.length:=ZA
  obtain⟨e1,e2⟩:=h3 k fu hk;obtain⟨z0,z1,z2⟩:=AzF h1 k fu;refine⟨g,0,[.string net[k].name,os[k].val],rfl,ab,⟨by rw[←e1];exact z0,_,rfl,e2.rd⟩,fun j u hu=>?_⟩
  match j,hu with
  |0,hu=> simp at hu;subst hu;rw[show 0+(k*El.size Ofc+0)=k*2 by show 0+(k*2+0)=k*2;omega,z1,e1]
  |1,hu=> simp at hu;subst hu;rw[show 0+(k*El.size Ofc+1)=k*2+1 by show 0+(k*2+1)=k*2+1;omega,z2]
  |j+2,hu=>simp at hu
theorem AoW.rd(h:AoW T1 T2 base w v net):rd w w.heap.size v net:=by obtain⟨os,h⟩:=h;exact h.rd
end
theorem Tryz.infoRul:(aB.info? 181).map (fun i=>(i.zero,i.size,i.bytes))=some (some (.agg #[.string ⟨#[]⟩,.string ⟨#[]⟩]),2,32):=ZB
theorem AwD(T base:Nat)(w:World)(xs)(hx:∀x∈xs,x.size≤maxLen)(hm:xs.length≤maxLen)(hb:base≤w.heap.size):
 own T base (w.alloc (aC (xs.map aK).toArray T)) (.slice (some ⟨w.heap.size,0,none⟩) xs.length xs.length) xs:=by
 have h1:(xs.map fun x=>[aK x]).flatten=xs.map aK:=by
  clear hm hx
  induction xs with
  |nil=>rfl
  |cons x xs ih=>simp[ih]
 refine⟨xs.map fun x=>[aK x],⟨?_,.inr ⟨w.heap.size,xs.length,_,rfl,hb,bD w _,aD _,hm,by simp[El.size],?_⟩⟩,ZE,fun k hk fu=>?_⟩
 ·rw[h1]
  simp[El.size]
 ·rw[h1]
  simp only[El.size,dZ];exact bA ZE
 ·simp only[eZ]
  exact⟨hx _ (aU hk),rfl⟩
theorem Ar6{T base g n c:Nat}{w}{xs:List Ltr}(h:own T base w (.slice (some ⟨g,0,none⟩) n c) xs){k}(hk:k<xs.length)(y)(hy:y.ok):
 own T base ((w.setCell ⟨g,k*2,none⟩ (.int .i64 y.id)).setCell ⟨g,k*2+1,none⟩ (.string y.code)) (.slice (some ⟨g,0,none⟩) n c) (xs.set k y):=by
 have h1:=h.setCell (k:=k) (j:=0) hk ZF (.int .i64 y.id) ⟨y.id,xs[k].code⟩ (fun ecs he=>ZPI)
 have h2:=h1.setCell (k:=k) (j:=1) zM ZF (.string y.code) y (fun ecs he=>by obtain⟨_,rfl⟩:=he;refine⟨hy,?_⟩;simp[Ltr.cells])
 rw[List.set_set]at h2;exact h2
end Go.Proofs.YtfadhdacjpmmeaaGreatDoor
