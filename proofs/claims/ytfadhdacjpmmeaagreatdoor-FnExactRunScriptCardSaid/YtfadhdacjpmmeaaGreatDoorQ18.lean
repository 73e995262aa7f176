/- Parts. -/
import Derived.Test.YtfadhdacjpmmeaaGreatDoorQ17
set_option linter.unusedVariables false
set_option linter.unusedSimpArgs false
namespace Go.Proofs.YtfadhdacjpmmeaaGreatDoor
set_option maxRecDepth 100000
set_option maxHeartbeats 1600000
open Go.IntKind renaming i64→aI
open Go.Obj renaming cells→aC
open Go.Proofs.Tryz renaming prog→aB
open Go.Value renaming string→aK,int→bC
open Go.RowKit
theorem Tl(s):sEq s L8=(s.toList==[104,101,114,101]):=by unfold sEq;rw[bR L8];rfl
theorem BbB(net:List Ofc)(k c){r}(h:Gq (net.take k) c=r):(net.take k).all (fun y=> !sEq y.name c)= !decide (0≤r):=by have:=ArO (fun y:Ofc=>sEq y.name c) (net.take k);rw[←h];unfold Gq;rw[this,Bool.not_not]
theorem BaJ{net}{k:Nat}(h:k<net.length):(Gq net net[k].name==(k:Int))=(net.take k).all (fun y=> !sEq y.name net[k].name):=
 An4 (p:=fun y:Ofc=>sEq y.name net[k].name) h (Mq _)
theorem Hx(v fs c w)(hv:rd w w.heap.size v fs):
 Calls aB 234 #[v,.string c] w fun e w'=>e=.returned (.int .i64 (Gq fs c))∧Below w.heap.size w w':=by
 refine' ZAJ;go_enter Tryz.func234,Tryz.ntmps234;go_wp2
 go_loopw[9] (fun i wr=>∃k:Nat,k≤fs.length∧i=.int .i64 k∧Below w.heap.size w wr∧Hid (∀j (h:j<fs.length),j<k→sEq fs[j].name c=false)) (fun i _=>fs.length - (intOf i).toNat)
 case atStart=>exact⟨0,aM _,rfl,l0,fun j _ hj=>absurd hj (aX j)⟩
 case round=>
  refine' ZBA;by_cases ab:k<fs.length
  ·refine' ZPl;cases he:sEq x.name c
   ·refine' zg;have hq:(x.name.toList==c.toList)=false:=he;exact ZPm
   ·refine' zg;have hq:(x.name.toList==c.toList)=true:=he;clear he;refine' ZO;exact⟨Bo (HY.out it.out).symm,Ae lr _⟩
  ·have HE:Hid (Gq fs c= -1):=Pk fun j hj=>HG.out j hj ZA
   refine' ZO;exact⟨Bo HE.out.symm,lr⟩
theorem H7(v fs c w)(hv:rd w w.heap.size v fs):
 Calls aB 111 #[v,.string c] w fun e w'=>e=.returned (.int .i64 (Gq fs c))∧w=w':=by
 refine' ZAJ;go_enter Tryz.func111,Tryz.ntmps111;go_wp2
 go_loop[5] (fun i=>∃k:Nat,k≤fs.length∧i=.int .i64 k∧Hid (∀j (h:j<fs.length),j<k→sEq fs[j].name c=false)) (fun i=>fs.length - (intOf i).toNat)
 case atStart=>exact ZAn
 case round=>
  refine' YE;by_cases ab:k<fs.length
  ·refine' ZPl;cases he:sEq x.name c
   ·refine' zg;have hq:(x.name.toList==c.toList)=false:=he;clear he;go_wp2
    exact ZBl
   ·refine' zg;have hq:(x.name.toList==c.toList)=true:=he;clear he;exact ZCW
  ·have HE:Hid (Gq fs c= -1):=Pk fun j hj=>HG.out j hj ZA
   exact ZDf
theorem Mm(v net w)(hv:rd w w.heap.size v net):
 Calls aB 87 #[v] w fun e w'=>e=.returned (.bool (Di net))∧w=w':=by
 refine' ZFd;refine' zw;go_enter Tryz.func87,Tryz.ntmps87;go_wp2
 go_loop[3] (fun i=>∃k:Nat,k≤net.length∧i=.int .i64 k∧Hid (∀j,j<k→AaH net j=true)) (fun i=>net.length - (intOf i).toNat)
 case atStart=>exact ZEi
 case round=>
  refine' YE;by_cases ab:k<net.length
  ·refine' ZDw;have hG:=aA (Zl ab);have hS:=aA (BaJ ab);have am:=aA (fun h=>Aj9 ab h);generalize net[k]=x at *;have HU:=aA hu;clear hu;refine' ZCi;refine' ZC;refine(AdJ x.name _ ag).mono ?_;refine' ZW;cases h1:Gi x.name
   exact ZHH;refine' zS;cases h2:sEq x.name L8
   case true=>
    have H2:=aA h2;rw[Tl]at h2
    exact ZHI
   have H2:=aA h2;rw[Tl]at h2;obtain⟨r,aj⟩:∃r,Hid (Gq net x.name=r):=⟨_,rfl⟩
   refine' ZC;refine(H7 _ net x.name _ ev.out).mono ?_;refine' ZPn;refine' ZPo;refine(Tr _ x.rules _ HU.out).mono ?_;refine' ZW;cases h4:C7 x.rules
   ·have H4:=aA h4;clear h4
    refine' ZI;exact⟨Al (am.out (by rw[hG.out,H4.out];simp)).symm,rfl⟩
   have H4:=aA h4;clear h4;have wI:=(Ev.1 H4.out).1;have oh:Hid (∀b,x.rules.all (I0 net)=b→AaH net k=b):=fun b hb=>by rw[hG.out,H1.out,H2.out,←hS.out,aj.out,H3.out,H4.out,hb];rfl
   refine' ZPp;go_loop[4] (fun i=>∃m:Nat,m≤x.rules.length∧i=.int .i64 m∧Hid ((x.rules.take m).all (I0 net)=true)) (fun i=>x.rules.length - (intOf i).toNat)
   case atStart=>exact ZCV
   case round=>
    obtain⟨m,ly,rfl,HA⟩:=hrel;by_cases nE:m<x.rules.length
    ·refine' ZPq;cases h5:sEq y.dst L8
     case true=>
      have H5:=aA h5;rw[Tl]at h5
      refine' ZC;go_round
      case rel=>exact⟨m+1,ZA,ZJ,ZPr⟩
      case measure=>exact ZK
     refine' ZPs;refine' ZC;refine(H7 _ net y.dst _ ev.out).mono ?_;rw[CT.out];refine' ZW;by_cases hq:q<0
     ·refine' ZPt;exact⟨Al (am.out (oh.out _ (hI.out H6.out))).symm,rfl⟩
     ·refine' ZPu;go_round
      case rel=>exact⟨m+1,ZA,ZJ,ZPv⟩
      case measure=>exact ZK
    ·refine' ZPw;go_round
     case rel=>
      refine' ZHk
      ·refine' ZAE;exact oh.out _ UN.out
     case measure=>exact ZK
  ·refine' ZDy;have HN:Hid (Di net=(decide (1≤(net.length:Int))&&decide ((net.length:Int)≤8))):=AhY ZAF
   refine' ZC;refine(D0 net.length 1 8 _).mono ?_;refine' ZW;obtain⟨r,hr⟩:∃r,(decide (1≤(net.length:Int))&&decide ((net.length:Int)≤8))=r:=⟨_,rfl⟩;rw[hr]at HN⊢;clear hr
   refine' ZI;exact⟨Al HN.out.symm,rfl⟩
theorem Js(v net w)(hv:rd w w.heap.size v net):
 Calls aB 216 #[v] w fun e w'=>e=.returned (.bool (Di net))∧Below w.heap.size w w':=by
 refine' ZFd;refine' zw;go_enter Tryz.func216,Tryz.ntmps216;by_cases h1:(net.length:Int)<1
 exact ZPx;by_cases h8:(8:Int)<(net.length:Int)
 exact ZPx;have HL:Hid ((decide (1≤(net.length:Int))&&decide ((net.length:Int)≤8))=true):=by show _=_;exact ZIW
 have ME:net.length≤8:=ZA
 go_wp2
 go_loopw[17] (fun i wr=>∃k:Nat,k≤net.length∧i=.int .i64 k∧Below w.heap.size w wr∧Hid (∀j,j<k→AaH net j=true)) (fun i _=>net.length - (intOf i).toNat)
 case atStart=>exact ZHJ
 case round=>
  refine' ZBA;clear l0;by_cases ab:k<net.length
  ·refine' ZDw;have hG:=aA (Zl ab);have am:=aA (fun h=>Aj9 ab h);refine' ZPX;have y0:=Af ie 0 (.string x.name) rfl;have y1:=Af ie 1 (.slice A2 x.rules.length k2) rfl;refine' ZDv;have im:=aA (ev.out.on lo);have HU:=aA (hu.on lo);have lR:=aA ie;clear ie hu;cases h1:Gi x.name
   ·refine' zS;have C1:=aA (fun w=>AaE (w:=w) ag H1.out);refine' ZAp;go_quiet (first|(go_at_call 284;exact ZBB))
    exact ZHL
   refine' zS;have C1:=aA (fun w=>AaE (w:=w) ag H1.out);cases h2:sEq x.name L8
   case true=>
    have H2:=aA h2;rw[Tl]at h2;refine' ZAp;go_quiet (first|(go_at_call 284;exact ZBB))
    exact ZHN
   have H2:=aA h2;rw[Tl]at h2;obtain⟨r,aj⟩:∃r,Hid (Gq (net.take k) x.name=r):=⟨_,rfl⟩;have xT:=aA (BbB net k x.name aj.out);have C3:Hid (∀W,Below wo.heap.size wo W→Calls aB 234 #[.slice (some ⟨b,o,none⟩) k cp,.string x.name] W fun e w'=>e=.returned (.int .i64 r)∧Below W.heap.size W w'):=fun W hW=>by have h:=Hx (.slice (some ⟨b,o,none⟩) k cp) (net.take k) x.name W ((im.out.on hW).take hk);rw[aj.out]at h;exact h
   refine' ZHO;by_cases f9:0≤r
   ·have HD:=aA (aJ f9)
    refine' ZPy;have l3:=Aa lo (Aa ld b3);refine' ZO;exact ZHP
   ·have HD:=aA (aO f9)
    refine' ZPy;have l3:=Aa ld b3;clear C1 C3 ld b3
    refine' ZC;refine(Ny _ x.rules _ (HU.out.on l3)).mono ?_;refine' ZAX;have l4:=Aa l3 b4;clear b4 l3;cases h4:C7 x.rules
    ·have H4:=aA h4;clear h4
     refine' ZI;exact⟨Al (am.out (by rw[hG.out,H4.out];simp)).symm,Aa lo l4⟩
    have H4:=aA h4;clear h4;have wI:=(Ev.1 H4.out).1;have oh:Hid (∀b,x.rules.all (I0 net)=b→AaH net k=b):=fun b hb=>by rw[hG.out,H1.out,H2.out,xT.out,HD.out,H4.out,hb];rfl
    refine' ZPp;go_loopw[47] (fun i wi=>∃m:Nat,m≤x.rules.length∧i=.int .i64 m∧Below wo.heap.size wo wi∧Hid ((x.rules.take m).all (I0 net)=true)) (fun i _=>x.rules.length - (intOf i).toNat)
    case atStart=>exact⟨0,aM _,rfl,l4,rfl⟩
    case round=>
     obtain⟨m,ly,rfl,li,HA⟩:=hrel;obtain⟨w5,rfl⟩:∃w5:World,w5=wr:=⟨_,rfl⟩;clear l4;by_cases nE:m<x.rules.length
     ·refine' ZPq;cases h5:sEq y.dst L8
      case true=>
       have H5:=aA h5;rw[Tl]at h5
       refine' ZC;go_roundw
       case rel=>exact⟨m+1,ZA,ZJ,Ae li _,ZPr⟩
       case measure=>exact ZK
      refine' ZPs;have lj:=Ae li (aC #[.string y.src,.string y.dst] 181)
      refine' ZC;refine(Hx _ net y.dst _ (im.out.on lj)).mono ?_;rw[CT.out];rintro e w6 ⟨rfl,b6⟩;have l6:=Aa lj b6;by_cases hq:q<0
      ·refine' ZPt;exact⟨Al (am.out (oh.out _ (hI.out H6.out))).symm,Aa lo l6⟩
      ·refine' ZPu;go_roundw
       case rel=>exact⟨m+1,ZA,ZJ,l6,ZPv⟩
       case measure=>exact ZK
     ·refine' ZPw;go_roundw
      case rel=>
       refine⟨k+1,ZA,ZJ,Aa lo li,fun j hj=>?_⟩;refine' ZBe
       ·refine' ZAE;exact oh.out _ UN.out
      case measure=>exact ZK
  ·refine' ZDy;have HN:Hid (Di net=true):=by show _=_;rw[AhY ZAF,HL.out]
   refine' ZI;exact⟨Al HN.out.symm,lr⟩
theorem AkB{c p}(h:¬p.size≤c.size):pre c p=false:=by unfold pre;rw[aO h];rfl
theorem AaI{c p}(h:p.size≤c.size){b}(hb:sEq (c.extract 0 p.size) p=b):pre c p=b:=by unfold pre;rw[aJ h,hb];rfl
theorem AfY(c p w)(hc:c.size≤maxLen)(hp:p.size≤maxLen):
 Calls aB 338 #[.string c,.string p] w fun e w'=>e=.returned (.bool (pre c p))∧w=w':=by unfold maxLen at hc hp;go_enter Tryz.func338,Tryz.ntmps338;exact ZPz
theorem Mb(c p w)(hc:c.size≤maxLen)(hp:p.size≤maxLen):
 Calls aB 289 #[.string c,.string p] w fun e w'=>e=.returned (.bool (pre c p))∧w=w':=by
 go_enter Tryz.func289,Tryz.ntmps289
 refine' ZC;refine(AfY c p _ hc hp).mono ?_;refine' ZW;obtain⟨r,HR⟩:∃r,Hid (pre c p=r):=⟨_,rfl⟩;rw[HR.out]
 refine' ZI;exact⟨Al HR.out.symm,rfl⟩
theorem Qx(c p w)(hc:c.size≤maxLen)(hp:p.size≤maxLen):
 Calls aB 255 #[.string c,.string p] w fun e w'=>e=.returned (.bool (pre c p))∧w=w':=by unfold maxLen at hc hp;go_enter Tryz.func255,Tryz.ntmps255;exact ZPz
theorem Ac8(v rs c w)(hv:rd w w.heap.size v rs)(jf:c.size≤maxLen):
 Calls aB 362 #[v,.string c,.int .i64 (-1)] w fun e w'=>e=.returned (.int .i64 (Iv rs c))∧Below w.heap.size w w':=by
 refine' ZAJ;go_enter Tryz.func362,Tryz.ntmps362;go_wp2
 go_loopw[7,12] (fun t i wr=>∃k:Nat,k≤rs.length∧i=.int .i64 k∧t=.int .i64 (Ie rs c k)∧Below w.heap.size w wr) (fun _ i _=>rs.length - (intOf i).toNat)
 case atStart=>exact ZDq
 case round=>
  refine' ZP0;by_cases ab:k<rs.length
  ·refine' ZP1;refine' ZIQ;have z0:=Af ie 0 (.string x.src) rfl;refine' ZDv;have lR:=aA ie;clear ie;have BS:((k:Int)== -1)=false:=ZE
   refine' ZC;rw[←lR.out];refine(Mb c x.src _ jf qe).mono ?_;refine' zo;cases hp:pre c x.src
   ·refine' YG;refine' ZC;go_roundw
    case rel=>exact⟨k+1,ZA,ZJ,by rw[HM.out HP.out],lo⟩
    case measure=>exact ZK
   refine' YG;by_cases az:q<0
   ·have ur:decide (q<0)=true:=aJ az
    have SN:=aA az;refine' YP;go_wp2
    go_roundw
    case rel=>exact⟨k+1,ZA,ZJ,ZP2,Ba lo _⟩
    case measure=>exact ZK
   refine' ZP3;by_cases hs:y.src.size<x.src.size
   ·have qt:(y.src.size:Int)<(x.src.size:Int):=ZA
    have HS:=aA hs;refine' YP;go_wp2
    go_roundw
    case rel=>exact⟨k+1,ZA,ZJ,by rw[wP.out HS.out],Ba lo _⟩
    case measure=>exact ZK
   ·have qt:¬(y.src.size:Int)<(x.src.size:Int):=ZA
    have HS:=aA hs;refine' YP;go_wp2
    go_roundw
    case rel=>exact⟨k+1,ZA,ZJ,by rw[DS.out HS.out],Ba lo _⟩
    case measure=>exact ZK
  exact ZP4
theorem AfU{c p r w}(hc:c.size≤maxLen)(hp:p.size≤maxLen)(h:pre c p=r):Calls aB 255 #[.string c,.string p] w fun e w'=>e=.returned (.bool r)∧w=w':=by rw[←h];exact Qx c p w hc hp
theorem Ao1(v rs c w)(hv:rd w w.heap.size v rs)(jf:c.size≤maxLen):
 Calls aB 345 #[v,.string c] w fun e w'=>e=.returned (.int .i64 (Iv rs c))∧Below w.heap.size w w':=by
 refine' ZAJ;go_enter Tryz.func345,Tryz.ntmps345;go_wp2
 go_loopw[5,6] (fun t i wr=>∃k:Nat,k≤rs.length∧i=.int .i64 k∧t=.int .i64 (Ie rs c k)∧Below w.heap.size w wr) (fun _ i _=>rs.length - (intOf i).toNat)
 case atStart=>exact ZDq
 case round=>
  refine' ZP0;by_cases ab:k<rs.length
  ·refine' ZP1;refine' ZFe;cases hp:pre c x.src
   ·refine' YG;have CB:=aA (fun w=>AfU (w:=w) jf qe HP.out);refine' ZFf;go_roundw
    case rel=>exact⟨k+1,ZA,ZJ,by rw[HM.out HP.out],Ba lr _⟩
    case measure=>exact ZK
   refine' YG;have CB:=aA (fun w=>AfU (w:=w) jf qe HP.out);by_cases az:q<0
   ·have ur:decide (q<0)=true:=aJ az
    have SN:=aA az;refine' ZFf;go_roundw
    case rel=>exact⟨k+1,ZA,ZJ,ZP2,Ba lr _⟩
    case measure=>exact ZK
   refine' ZP3;by_cases hs:y.src.size<x.src.size
   ·have qt:(y.src.size:Int)<(x.src.size:Int):=ZA
    have HS:=aA hs;refine' ZFf;go_roundw
    case rel=>exact⟨k+1,ZA,ZJ,by rw[wP.out HS.out],Ba lr _⟩
    case measure=>exact ZK
   ·have qt:¬(y.src.size:Int)<(x.src.size:Int):=ZA
    have HS:=aA hs;refine' ZFf;go_roundw
    case rel=>exact⟨k+1,ZA,ZJ,by rw[DS.out HS.out],Ba lr _⟩
    case measure=>exact ZK
  exact ZP4
theorem AqG(v rs c w)(hv:rd w w.heap.size v rs)(jf:c.size≤maxLen):
 Calls aB 342 #[v,.string c] w fun e w'=>e=.returned (.tuple #[.string (Gw rs c),.bool (decide (0≤Iv rs c))])∧Below w.heap.size w w':=by
 refine' ZP5;rw[HQ.out];go_enter Tryz.func342,Tryz.ntmps342
 refine' ZC;refine(Ac8 _ rs c _ ev.out jf).mono ?_;rw[HQ.out];refine' ZT;by_cases az:q<0
 ·have HS:Hid (Gw rs c=⟨#[]⟩):=Th (by rw[HQ.out];exact az)
  have HD:Hid (decide (0≤q)=false):=aO ZA
  refine' ZQ;exact⟨Bf (by rw[HS.out,HD.out]<;>rfl),b1⟩
 ·refine' ZP6;have HD:Hid (decide (0≤(u:Int))=true):=aJ ZA;generalize rs[u]=y at *;refine' ZIX;refine' ZQ;exact⟨Bf (by rw[HS.out,HD.out]<;>rfl),b1⟩
theorem ApO(v rs c w)(hv:rd w w.heap.size v rs)(jf:c.size≤maxLen):
 Calls aB 308 #[v,.string c] w fun e w'=>e=.returned (.string (Gw rs c))∧Below w.heap.size w w':=by
 refine' ZP5;go_enter Tryz.func308,Tryz.ntmps308
 refine' ZC;refine(Ao1 _ rs c _ ev.out jf).mono ?_;rw[HQ.out];refine' ZT;by_cases az:q<0
 ·have HS:Hid (Gw rs c=⟨#[]⟩):=Th (by rw[HQ.out];exact az)
  refine' ZI;exact⟨B8 HS.out.symm,b1⟩
 ·refine' ZP6;generalize rs[u]=y at *;refine' ZIX;refine' ZI;exact⟨B8 HS.out.symm,b1⟩
theorem Tryz.infoOfc:(aB.info? 45).map (fun i=>(i.zero,i.size,i.bytes))=some (some (.agg #[.string ⟨#[]⟩,.slice none 0 0]),2,40):=ZB
end Go.Proofs.YtfadhdacjpmmeaaGreatDoor
