/- Parts. -/
import Derived.Test.YtfadhdacjpmmeaaGreatDoorQ42
import Derived.Test.YtfadhdacjpmmeaaGreatDoorQ44
import Derived.Test.YtfadhdacjpmmeaaGreatDoorQ39
import Derived.Test.YtfadhdacjpmmeaaGreatDoorQ43
set_option linter.unusedVariables false
set_option linter.unusedSimpArgs false
namespace Go.Proofs.YtfadhdacjpmmeaaGreatDoor
set_option maxRecDepth 100000
set_option maxHeartbeats 16000000
open Go.IntKind renaming i64→aI
open Go.Obj renaming cells→aC
open Go.Proofs.Tryz renaming prog→aB
open Go.Value renaming string→aK,int→bC
open Go.RowKit
def BbN(ak:ByteArray)(s s':Dsk)(a:ByteArray):Prop:=
 ∀(R:Nat→Prop) (vL vO vF vH vN:Value) (w:World),stN R w vL vO vF vH vN s→
  (Lib.indexByte ak.data.toList 32<0→Calls aB 11 #[stV vL vO vF vH vN s,.string ak] w (Bs R s' a w))∧
  (∀q:Nat,Lib.indexByte ak.data.toList 32=(q:Int)→Calls aB 12 #[stV vL vO vF vH vN s,.string (ak.extract 0 q),.string (ak.extract (q+1) ak.size)] w (Bs R s' a w))
theorem BaR{u W vL vO vF vH vN s}(h:stN (fun _=>True) u vL vO vF vH vN s)(hb:Below u.heap.size u W):stN (fun j=>j≠u.heap.size) W vL vO vF vH vN s:=
 have k:∀{V:World},Ct (fun j=>j≠u.heap.size) W V→Ct (fun _=>True) u V:=fun hV=>⟨aG hb.size hV.1,fun j _ hj=>(hV.2 j (Nat.ne_of_lt hj) (bU hj hb.size)).trans (hb.block j hj)⟩
 ⟨fun V hV=>h.l V (k hV),fun V hV=>h.o V (k hV),fun V hV=>h.f V (k hV),fun V hV=>h.h V (k hV),fun V hV=>h.n V (k hV)⟩
def ApR(bS:Nat)(s:Dsk)(w:World):Prop:=∃AL cL AO cO AF cF AH cH AN cN,w.heap[bS]? =some (.cells #[.slice AL s.letters.length cL,.int .i64 s.day.plan.bins,.int .i64 s.day.plan.passes,.slice AO s.day.plan.order.length cO,.slice AF s.day.fwds.length cF,.slice AH s.day.held.length cH,.int .i64 s.day.size,.slice AN s.net.length cN] 36 (0,0))∧stN (fun j=>j≠bS) w (.slice AL s.letters.length cL) (.slice AO s.day.plan.order.length cO) (.slice AF s.day.fwds.length cF) (.slice AH s.day.held.length cH) (.slice AN s.net.length cN) s
theorem ApR.below{bS s w w'}(h:ApR bS s w)(hb:Below w.heap.size w w'):ApR bS s w':=by obtain⟨AL,cL,AO,cO,AF,cF,AH,cH,AN,cN,h1,h2⟩:=h;exact⟨AL,cL,AO,cO,AF,cF,AH,cH,AN,cN,(hb.block bS (Array.getElem?_eq_some_iff.1 h1).1).trans h1,h2.on (Ct.below _ hb)⟩
theorem Ct.set8b(w b x0 x1 x2 x3 x4 x5 x6 x7):Ct (fun j=>j≠b) w ((((((((w.setCell ⟨b,0,none⟩ x0).setCell ⟨b,1,none⟩ x1).setCell ⟨b,2,none⟩ x2).setCell ⟨b,3,none⟩ x3).setCell ⟨b,4,none⟩ x4).setCell ⟨b,5,none⟩ x5).setCell ⟨b,6,none⟩ x6).setCell ⟨b,7,none⟩ x7):=
 have k:∀(W:World) (i:Nat) (u:Value),Ct (fun j=>j≠b) W (W.setCell ⟨b,i,none⟩ u):=fun W i u=>Ct.set _ W b i u fun h=>h rfl
 (((((((k _ 0 x0).trans (k _ 1 x1)).trans (k _ 2 x2)).trans (k _ 3 x3)).trans (k _ 4 x4)).trans (k _ 5 x5)).trans (k _ 6 x6)).trans (k _ 7 x7)
theorem AoL{α:Type}[Flat α]{T base b:Nat}{w v}{xs:List α}(h:own T base w v xs)(hb:b<base)(x0 x1 x2 x3 x4 x5 x6 x7):own T base ((((((((w.setCell ⟨b,0,none⟩ x0).setCell ⟨b,1,none⟩ x1).setCell ⟨b,2,none⟩ x2).setCell ⟨b,3,none⟩ x3).setCell ⟨b,4,none⟩ x4).setCell ⟨b,5,none⟩ x5).setCell ⟨b,6,none⟩ x6).setCell ⟨b,7,none⟩ x7) v xs:=
 Bd (Bd (Bd (Bd (Bd (Bd (Bd (Bd h ⟨b,0,none⟩ x0 hb) ⟨b,1,none⟩ x1 hb) ⟨b,2,none⟩ x2 hb) ⟨b,3,none⟩ x3 hb) ⟨b,4,none⟩ x4 hb) ⟨b,5,none⟩ x5 hb) ⟨b,6,none⟩ x6 hb) ⟨b,7,none⟩ x7 hb
theorem Ae0(t w ls)(ds:Nat→Dsk)(ans:Nat→ByteArray)(ht:t.size≤20000)(pR:Aj 10 t=ls)(h0:ds 0=I5)
 (pS:∀k (h:k<ls.length),ls[k].size≠0→BbN ls[k] (ds k) (ds (k+1)) (ans k)∧(ans k).size≤2000000000)
 (pT:∀k (h:k<ls.length),ls[k].size=0→ds (k+1)=ds k):
 Calls aB 5 #[.string t] w fun e w'=>e=.returned (.string (Qr ans 0 ⟨#[]⟩ ls))∧Below w.heap.size w w':=by
 have H0:=aA h0;have fe:=aA pS;have sJ:=aA pT;clear h0 pS pT;refine' ZUP;have xG:Hid (∀W:World,Calls aB 9 #[.string t,.int .u8 10] W fun e w'=>∃v,e=.returned v∧own (α:=ByteArray) 9 W.heap.size w' v ls∧Below W.heap.size W w'):=by rw[←pR];exact fun W=>I9 t 10 W ZA
 have bn:ls.length≤20001:=by rw[←pR];have:=Lg 10 t;omega
 have NW:Hid (ls≠[]):=by rw[←pR];exact AkK 10 t
 have HLZ:Hid (∀x∈ls,x.size≤20000):=by rw[←pR];exact fun x hx=>aG (Hi hx) ht
 have vM:¬(20000:Int)<(t.size:Int):=ZA
 clear pR;go_enter Tryz.func5,Tryz.ntmps5
 refine' ZC;refine(AlW w).mono ?_;rw[←H0.out];rintro e u1 ⟨AL,cL,AO,cO,AF,cF,AH,cH,AN,cN,rfl,S1,b1⟩;have eu:=aA S1;refine' ZAe;clear S1 b1
 refine' ZC;obtain⟨W1,py⟩:∃W,W=u1.alloc (aC #[.slice AL (ds 0).letters.length cL,.int .i64 (ds 0).day.plan.bins,.int .i64 (ds 0).day.plan.passes,.slice AO (ds 0).day.plan.order.length cO,.slice AF (ds 0).day.fwds.length cF,.slice AH (ds 0).day.held.length cH,.int .i64 (ds 0).day.size,.slice AN (ds 0).net.length cN] 36):=⟨_,rfl⟩;rw[←py];have l1:Below u1.heap.size u1 W1:=by rw[py];exact ZAf
 have yR:Hid (ApR u1.heap.size (ds 0) W1):=⟨AL,cL,AO,cO,AF,cF,AH,cH,AN,cN,by rw[py];exact bD u1 _,BaR eu.out l1⟩;have L1:=aA (ik.out.trans (l1.mono ik.out.size));have lx:w.heap.size≤u1.heap.size:=ik.out.size;have aw:W1.heap.size=u1.heap.size+1:=by rw[py];simp
 clear py l1 eu;obtain⟨bS,OW⟩:∃b,b=u1.heap.size:=⟨_,rfl⟩;have HBS:=aA OW;rw[←OW]at yR lx aw;clear OW
 refine(xG.out W1).mono ?_;refine' ZAm;rw[aw]at o2;have FB:=aA (yR.out.below b2);have gi:=aA (L1.out.trans (b2.mono L1.out.size));obtain⟨gl,cl,rfl,_⟩:=R6 o2 NW.out;have ja:=aA o2;clear o2 b2 yR;rw[←HBS.out]
 refine' ZC;go_loopw[4,6] (fun o i wr=>∃k:Nat,k≤ls.length∧i=.int .i64 k∧o=.string (Sv ans ls k)∧Hid (Below w.heap.size w wr)∧Hid (ApR bS (ds k) wr)∧Hid (own 9 (bS+1) wr (.slice (some ⟨gl,0,none⟩) ls.length cl) ls)∧Hid (Qr ans k (Sv ans ls k) (ls.drop k)=FA)∧(Sv ans ls k).size≤2000050000) (fun _ i _=>ls.length - (intOf i).toNat)
 case atStart=>exact⟨0,aM _,rfl,rfl,gi.out,FB.out,ja.out,yQ.out,by show 0≤_;omega⟩
 case round=>
  obtain⟨k,hk,rfl,rfl,HL,kh,HO,HQ,jj⟩:=hrel;obtain⟨W,rfl⟩:∃W:World,W=wr:=⟨_,rfl⟩;clear gi FB ja;by_cases ab:k<ls.length
  ·refine' ZUQ;have se:=HLZ.out _ (aU ab);obtain⟨o,ho⟩:∃o,Sv ans ls k=o:=⟨_,rfl⟩;rw[ho]at HQ jj vQ qJ⊢;clear ho;generalize ls[k]=x at *;by_cases he:x.size=0
   ·obtain⟨e1,e2⟩:=L6 he
    have HE:=aA he;clear he
    refine' ZC;go_roundw
    case rel=>exact⟨k+1,ZA,ZJ,by rw[vQ.out HE.out],HL.out,by show ApR _ _ _;rw[yS.out HE.out];exact kh.out,HO.out,ZUR,by rw[vQ.out HE.out];exact jj⟩
    case measure=>exact ZK
   obtain⟨e1,e2⟩:=G7 he;have uK:=aA he;have OZ:¬9223372036854775807<o.size+5:=ZA
   by_cases PA:100≤k
   ·have kX:(100:Int)≤(k:Int):=ZA
    refine' ZI;exact⟨B8 ZUS,HL.out⟩
   have kX:¬(100:Int)≤(k:Int):=ZA
   by_cases fj:40000<o.size
   ·have bz:(40000:Int)<(o.size:Int):=ZA
    refine' ZI;exact⟨B8 ZUS,HL.out⟩
   have bz:¬(40000:Int)<(o.size:Int):=ZA
   obtain⟨FC,FD⟩:=vP.out he;have KY:=Ry (ans k);have hadd2:¬9223372036854775807<o.size+(Em (ans k)).size:=by unfold Em;refine' ZAk;show¬_<o.size+(_+1);omega
   obtain⟨AL,cL,AO,cO,AF,cF,AH,cH,AN,cN,kO,SK⟩:=kh.out;have au:=(Array.getElem?_eq_some_iff.1 kO).1;obtain⟨⟨c0,c1,c2,c3,c4,c5,c6,c7⟩,_⟩:=Ac kO;have KZ:=aA (FC _ _ _ _ _ _ W.drew (SK.on (Ct.below _ (Ag (aF _ _)))));have LB:Hid (∀V:World,Calls aB 10 #[.string x,.int .u8 32] V fun e w'=>e=.returned (.int .i64 (Lib.indexByte x.data.toList 32))∧V=w'):=fun V=>Nq x 32 V ZN
   have y1d:W.drew.cell? ⟨gl,k,none⟩=some (.string x):=y1;clear FC SK;by_cases xH:Lib.indexByte x.data.toList 32<0
   ·have HC:Hid (Calls aB 11 #[.agg #[.slice AL (ds k).letters.length cL,.int .i64 (ds k).day.plan.bins,.int .i64 (ds k).day.plan.passes,.slice AO (ds k).day.plan.order.length cO,.slice AF (ds k).day.fwds.length cF,.slice AH (ds k).day.held.length cH,.int .i64 (ds k).day.size,.slice AN (ds k).net.length cN],.string x] W.drew (Bs (fun j=>j≠bS) (ds (k+1)) (ans k) W.drew)):=KZ.out.1 xH
    obtain⟨q,hq⟩:∃q,Lib.indexByte x.data.toList 32=q:=⟨_,rfl⟩;rw[hq]at LB xH;clear hq KZ
    go_wp2_with (go_at_call 10;refine(LB.out _).mono ?_;refine' ZP)
    go_region_law (first|((try go_simp);go_at_call 11;go_loud (refine' ZUT))|fail)
    all_goals exact ZUU
   ·obtain⟨q,hq⟩:=aQ (Int.not_lt.1 xH)
    have kI:=(Mr hq).2;have HC:Hid (Calls aB 12 #[.agg #[.slice AL (ds k).letters.length cL,.int .i64 (ds k).day.plan.bins,.int .i64 (ds k).day.plan.passes,.slice AO (ds k).day.plan.order.length cO,.slice AF (ds k).day.fwds.length cF,.slice AH (ds k).day.held.length cH,.int .i64 (ds k).day.size,.slice AN (ds k).net.length cN],.string (x.extract 0 q),.string (x.extract (q+1) x.size)] W.drew (Bs (fun j=>j≠bS) (ds (k+1)) (ans k) W.drew)):=KZ.out.2 q hq;rw[hq]at LB;have oV:x.data.toList.length=x.size:=ZE
    rw[oV]at kI;have xI:(q:Int)+1≤(x.size:Int):=ZA
    have sf:(q:Int)≤(x.size:Int):=ZA
    have DJ:¬(q:Int)<0:=ZA
    have hq4:(0:Int)≤(q:Int)+1:=ZA
    have hq5:((q:Int)+1).toNat=q+1:=ZA
    have hq6:aI.wrap ((q:Int)+1)=(q:Int)+1:=bI _ ZA;clear hq xH KZ oV
    go_wp2_with (go_at_call 10;refine(LB.out _).mono ?_;refine' ZP)
    go_region_law (first|(go_simp;go_at_call 12;refine' ZUT)|fail)
    all_goals exact ZUU
  ·have bc:¬(k:Int)<(ls.length:Int):=ZA
   have HE:Hid (ls.drop k=[]):=dK ZA
   refine' ZI;exact⟨B8 (by rw[←HQ.out,HE.out,Qr]),HL.out⟩
def K6(wd:ByteArray):Int:=if wd=He∨wd=Gn∨wd=Ga∨wd=Eo∨wd=Fj∨wd=Ds∨wd=Cc∨wd=Dl∨wd=B5∨wd=Dk∨wd=Cy∨wd=C4∨wd=C8 then 1 else if wd=Fl∨wd=Bt∨wd=C0 then 2 else if wd=Cz then 3 else -1
def Of(wd:ByteArray):Bool:=decide (wd=Dk∨wd=Cy∨wd=C4∨wd=C8∨wd=Bt∨wd=C0)
theorem Td(wd w):Calls aB 46 #[.string wd] w fun e w'=>e=.returned (.tuple #[.int .i64 (K6 wd),.bool (Of wd)])∧w=w':=by
 by_cases hm:wd∈[He,Gn,Ga,Eo,Fj,Ds,Cc,Dl,B5,Fl,Cz,Dk,Cy,C4,C8,Bt,C0]
 ·simp only[List.mem_cons,List.not_mem_nil,or_false]at hm
  rcases hm with rfl|rfl|rfl|rfl|rfl|rfl|rfl|rfl|rfl|rfl|rfl|rfl|rfl|rfl|rfl|rfl|rfl
  ·rw[show K6 He=((1:Nat):Int) by exact ZS,show Of He=false by exact ZS];exact Ad2 w
  ·rw[show K6 Gn=((1:Nat):Int) by exact ZS,show Of Gn=false by exact ZS];exact AcV w
  ·rw[show K6 Ga=((1:Nat):Int) by exact ZS,show Of Ga=false by exact ZS];exact AcT w
  ·rw[show K6 Eo=((1:Nat):Int) by exact ZS,show Of Eo=false by exact ZS];exact Zo w
  ·rw[show K6 Fj=((1:Nat):Int) by exact ZS,show Of Fj=false by exact ZS];exact AcL w
  ·rw[show K6 Ds=((1:Nat):Int) by exact ZS,show Of Ds=false by exact ZS];exact Aa9 w
  ·rw[show K6 Cc=((1:Nat):Int) by exact ZS,show Of Cc=false by exact ZS];exact Uv w
  ·rw[show K6 Dl=((1:Nat):Int) by exact ZS,show Of Dl=false by exact ZS];exact AdF w
  ·rw[show K6 B5=((1:Nat):Int) by exact ZS,show Of B5=false by exact ZS];exact Qo w
  ·rw[show K6 Fl=((2:Nat):Int) by exact ZS,show Of Fl=false by exact ZS];exact AdK w
  ·rw[show K6 Cz=((3:Nat):Int) by exact ZS,show Of Cz=false by exact ZS];exact Aa8 w
  ·rw[show K6 Dk=((1:Nat):Int) by exact ZS,show Of Dk=true by exact ZS];exact Vc w
  ·rw[show K6 Cy=((1:Nat):Int) by exact ZS,show Of Cy=true by exact ZS];exact Qc w
  ·rw[show K6 C4=((1:Nat):Int) by exact ZS,show Of C4=true by exact ZS];exact Ue w
  ·rw[show K6 C8=((1:Nat):Int) by exact ZS,show Of C8=true by exact ZS];exact U7 w
  ·rw[show K6 Bt=((2:Nat):Int) by exact ZS,show Of Bt=true by exact ZS];exact Pf w
  ·rw[show K6 C0=((2:Nat):Int) by exact ZS,show Of C0=true by exact ZS];exact U8 w
 ·have jm:∀x∈[He,Gn,Ga,Eo,Fj,Ds,Cc,Dl,B5,Fl,Cz,Dk,Cy,C4,C8,Bt,C0],wd≠x:=fun x hx e=>hm (e▸hx)
  have e1:K6 wd= -1:=by
   unfold K6;rw[aL,aL,aL (jm _ ZE)]
   ·intro h
    rcases h with h|h|h
    all_goals exact jm _ ZE h
   ·intro h
    rcases h with h|h|h|h|h|h|h|h|h|h|h|h|h
    all_goals exact jm _ ZE h
  have e2:Of wd=false:=by
   unfold Of;refine aO fun h=>?_
   rcases h with h|h|h|h|h|h
   all_goals exact jm _ ZE h
  rw[e1,e2];exact AnR wd w fun x hx=>Fy (jm x hx)
theorem AjZ{xs f}: -1≤Fw xs f∧Fw xs f≤9999:=by
 unfold Fw
 split
 ·rename_i h
  refine' ZRn;omega
 ·omega
theorem ApM{p c}: -1≤Hl p c∧Hl p c≤9999:=by
 unfold Hl
 split
 ·rename_i h
  have:=(De.1 h).2.1.2;unfold rkI
  split<;>omega
 ·omega
theorem ArB(l):1≤(Sj l).size:=by unfold Sj;refine' YY;show 1≤_+_+1;omega
theorem AwW(ds:Nat→Nat):1≤(AiY ds).size:=by show 1≤7;omega
theorem AzP(f):(if Ap f then Kz f else⟨#[]⟩)=Kz f:=by
 unfold Kz
 split<;>rfl
theorem AzG(f):(if Fb f then Hr f else⟨#[]⟩)=Hr f:=by
 unfold Hr
 split<;>rfl
theorem AuL(R:Nat→Prop)(vL vO vF vH vN s wd r f w)(h:Inv s)(hS:stN R w vL vO vF vH vN s)(hz:r.size≤1000000)(d9:Aj 32 r=[f])(ib:f.size≤maxLen)(h4:∀x∈[Cf,Df,Bg,Es],(wd.toList==x.data.toList)=false):
 Calls aB 12 #[stV vL vO vF vH vN s,.string wd,.string r] w (Bs R (Af0 s wd f).1 (Af0 s wd f).2 w):=by
 have ef:(Aj 32 r).length=1:=by rw[d9];rfl
 unfold Af0;by_cases e0:wd=C8
 ·subst e0
  refine' ZR;rw[AlO,AlJ];cases ho:Jo s.letters (Am f)
  ·exact Gz R _ _ _ _ _ s _ r 1 s ⟨#[]⟩ w hS hz h4 (U7) ef fun R' uL uO uF uH uN g c B W ia df=>by rw[d9]at df;exact ArA R' uL uO uF uH uN s f B g c W ia df ib ho
  ·exact Gz R _ _ _ _ _ s _ r 1 _ _ w hS hz h4 (U7) ef fun R' uL uO uF uH uN g c B W ia df=>by rw[d9]at df;exact Ao2 R' uL uO uF uH uN s f B g c W ia df ib ho (Ui (AsY ho))
 rw[aL e0];by_cases e1:wd=Eo
 ·subst e1
  refine' ZR;exact Lb R _ _ _ _ _ s _ r 1 _ w hS hz h4 (Zo) ef fun R' uL uO uF uH uN g c B W ia df=>by rw[d9]at df;exact AyB R' uL uO uF uH uN s f B g c W ia df ib AjZ.1 AjZ.2
 rw[aL e1];by_cases e2:wd=Fj
 ·subst e2
  refine' ZR;exact Lb R _ _ _ _ _ s _ r 1 _ w hS hz h4 (AcL) ef fun R' uL uO uF uH uN g c B W ia df=>by rw[d9]at df;exact AzN R' uL uO uF uH uN s f B g c W ia df ib (Ss h) ApM.1 ApM.2
 rw[aL e2];by_cases e3:wd=Ds
 ·subst e3
  refine' ZR;exact Lb R _ _ _ _ _ s _ r 1 _ w hS hz h4 (Aa9) ef fun R' uL uO uF uH uN g c B W ia df=>by rw[d9]at df;exact AwO R' uL uO uF uH uN s f B g c W ia df ib (Ss h)
 rw[aL e3];by_cases e4:wd=C4
 ·subst e4
  refine' ZR;rw[Am2,Am9];have ct:=Pc (N6 s.day.fwds f);cases ho:Jy s.day.fwds f
  ·exact Gz R _ _ _ _ _ s _ r 1 s ⟨#[]⟩ w hS hz h4 (Ue) ef fun R' uL uO uF uH uN g c B W ia df=>by rw[d9]at df;exact ArI R' uL uO uF uH uN s f B g c W ia df h.fwds ho ZA
  ·exact Gz R _ _ _ _ _ s _ r 1 _ _ w hS hz h4 (Ue) ef fun R' uL uO uF uH uN g c B W ia df=>by rw[d9]at df;exact Ap8 R' uL uO uF uH uN s f B g c W ia df h.fwds ho (V5 (AgD ho)) ZA
 rw[aL e4];by_cases e5:wd=Cc
 ·subst e5
  refine' ZR;exact Lb R _ _ _ _ _ s _ r 1 _ w hS hz h4 (Uv) ef fun R' uL uO uF uH uN g c B W ia df=>by rw[d9]at df;exact AqX R' uL uO uF uH uN s f B g c W ia df ib h.fwds
 rw[aL e5];by_cases e6:wd=Cy
 ·subst e6
  refine' ZR;have hk:=AsX h.held;have hq:∀p∈s.day.held,1≤p.size∧p.size≤1000:=fun p hp=>by have:=Cp (hk.2 p hp);omega
  cases ho:Ap f
  ·rw[aL ZE]
   exact Gz R _ _ _ _ _ s _ r 1 s ⟨#[]⟩ w hS hz h4 (Qc) ef fun R' uL uO uF uH uN g c B W ia df=>by rw[d9]at df;exact AoQ R' uL uO uF uH uN s f B g c W ia df ib ho ZA hq
  ·by_cases ab:s.day.held.length<30
   ·rw[aP (by simp[ab])]
    have jl:=AsX (Vn h.held ho ab);have pR:=(Sh jl.1 jl.2).1;exact Gz R _ _ _ _ _ s _ r 1 _ _ w hS hz h4 (Qc) ef fun R' uL uO uF uH uN g c B W ia df=>by rw[d9]at df;exact AoJ R' uL uO uF uH uN s f B g c W ia df ib ho ab (fun p hp=>by have:=Cp (jl.2 p hp);omega) ZA
   ·rw[aL (by simp[ab])]
    exact Gz R _ _ _ _ _ s _ r 1 s ⟨#[]⟩ w hS hz h4 (Qc) ef fun R' uL uO uF uH uN g c B W ia df=>by rw[d9]at df;exact AoU R' uL uO uF uH uN s f B g c W ia df ib ho ZA ZA hq
 rw[aL e6];by_cases e7:wd=Dk
 ·subst e7
  refine' ZR;cases ho:Fp (Am f)
  ·rw[aL ZE]
   exact Gz R _ _ _ _ _ s _ r 1 s ⟨#[]⟩ w hS hz h4 (Vc) ef fun R' uL uO uF uH uN g c B W ia df=>by rw[d9]at df;exact ArX R' uL uO uF uH uN s f B g c W ia df ib ho
  ·rw[aP rfl]
   exact Gz R _ _ _ _ _ s _ r 1 _ okW w hS hz h4 (Vc) ef fun R' uL uO uF uH uN g c B W ia df=>by rw[d9]at df;exact AnP R' uL uO uF uH uN s f B g c W ia df ib ho
 rw[aL e7];by_cases e8:wd=Dl
 ·subst e8
  refine' ZR;exact Lb R _ _ _ _ _ s _ r 1 _ w hS hz h4 (AdF) ef fun R' uL uO uF uH uN g c B W ia df=>by rw[d9]at df;exact Ba8 R' uL uO uF uH uN s f B g c W ia df ib (AhQ h) h.fwds
 rw[aL e8];by_cases e9:wd=B5
 ·subst e9
  refine' ZR;unfold Wh;by_cases ho:Gq s.net f<0
  ·rw[aP ho]
   exact Lb R _ _ _ _ _ s _ r 1 ⟨#[]⟩ w hS hz h4 (Qo) ef fun R' uL uO uF uH uN g c B W ia df=>by rw[d9]at df;exact AlH R' uL uO uF uH uN s f B g c W ia df ho
  ·rw[aL ho]
   exact Lb R _ _ _ _ _ s _ r 1 _ w hS hz h4 (Qo) ef fun R' uL uO uF uH uN g c B W ia df=>by rw[d9]at df;exact Ai8 R' uL uO uF uH uN s f B g c W ia df ZA
 rw[aL e9];by_cases qY:wd=He
 ·subst qY
  refine' ZR;exact Lb R _ _ _ _ _ s _ r 1 _ w hS hz h4 (Ad2) ef fun R' uL uO uF uH uN g c B W ia df=>by rw[d9]at df;exact BaA R' uL uO uF uH uN s f B g c W ia df ib
 rw[aL qY];by_cases qZ:wd=Gn
 ·subst qZ
  refine' ZR;have hb:=AhA f;exact Lb R _ _ _ _ _ s _ r 1 _ w hS hz h4 (AcV) ef fun R' uL uO uF uH uN g c B W ia df=>by rw[d9]at df;exact BaH R' uL uO uF uH uN s f B g c W ia df ib (fun ho=>by unfold Kz;rw[aP ho];exact ArB _) ZA (AzP f)
 rw[aL qZ];by_cases q8:wd=Ga
 ·subst q8
  refine' ZR;have hb:=AfX f;exact Lb R _ _ _ _ _ s _ r 1 _ w hS hz h4 (AcT) ef fun R' uL uO uF uH uN g c B W ia df=>by rw[d9]at df;exact BaU R' uL uO uF uH uN s f B g c W ia df ib (fun ho=>by unfold Hr;rw[aP ho];exact AwW _) ZA (AzG f)
 rw[aL q8];have bj:K6 wd≠1:=by
  unfold K6;rw[aL]
  ·split
   ·omega
   ·split<;>omega
  ·intro hm
   rcases hm with hm|hm|hm|hm|hm|hm|hm|hm|hm|hm|hm|hm|hm
   ·exact qY hm
   ·exact qZ hm
   ·exact q8 hm
   ·exact e1 hm
   ·exact e2 hm
   ·exact e3 hm
   ·exact e5 hm
   ·exact e8 hm
   ·exact e9 hm
   ·exact e7 hm
   ·exact e6 hm
   ·exact e4 hm
   ·exact e0 hm
 exact AeK R _ _ _ _ _ s wd r (K6 wd) (Of wd) w hS hz h4 (Td wd) (.inr (by rw[ef];exact fun e=>bj e.symm))
end Go.Proofs.YtfadhdacjpmmeaaGreatDoor
