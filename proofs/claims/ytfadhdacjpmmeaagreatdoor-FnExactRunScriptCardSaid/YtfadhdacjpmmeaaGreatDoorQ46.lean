/- Parts. -/
import Derived.Test.YtfadhdacjpmmeaaGreatDoorQ36
import Derived.Test.YtfadhdacjpmmeaaGreatDoorQ43
set_option linter.unusedVariables false
set_option linter.unusedSimpArgs false
namespace Go.Proofs.YtfadhdacjpmmeaaGreatDoor
set_option maxRecDepth 100000
set_option maxHeartbeats 16000000
open Go.IntKind renaming i64→aI
open Go.Obj renaming cells→aC
open Go.Proofs.Tryz renaming prog→aB
open Go.Value renaming string→aK,int→bC
open Go.RowKit
theorem Az8{α:Type}{xs:List α}{k}(h:k<xs.length):xs.take k++xs.drop (k+1)=wo xs (k:Int):=by
 have jm:∀i,i≤xs.length→wo (xs.take i) (k:Int)=xs.take (min i k)++(xs.take i).drop (k+1):=fun i=>by
  induction i with
  |zero=>intro _;simp[wo]
  |succ i ih=>
   intro hi;rw[Z7 ZA (k:Int),ih ZA];by_cases hk:i=k
   ·subst hk
    rw[aP rfl,Nat.min_self,jG (fG i)]
    congr 1
    rw[dK zF,dK zF]
   ·rw[aL ZA]
    rcases gE i k with hl|hl
    ·rw[Nat.min_eq_left ZA,Nat.min_eq_left ZA,dK zF,dK zF,eB,eB,aH ZA]
    ·rw[jG ZA,jG ZA,bY,aH (show i<xs.length by omega),List.drop_append_of_le_length zF]
 have:=jm xs.length (aD _);rw[aY,jG ZA]at this;exact this.symm
theorem Eb{w:World}{b b' i}(h:b≠b')(x y z):(((w.setCell ⟨b',0,none⟩ x).setCell ⟨b',1,none⟩ y).setCell ⟨b',2,none⟩ z).cell? ⟨b,i,none⟩=w.cell? ⟨b,i,none⟩:=by
 have e:∀(W:World) (k:Nat) (u:Value),(W.setCell ⟨b',k,none⟩ u).heap[b]? =W.heap[b]? :=fun W k u=>bP _ _ _ _ h
 unfold World.cell?;rw[e,e,e]
def mvQ(p:Pln)(f t:Int)(w:World)(e:Ending)(w':World):Prop:=
 ∃vo,e=.returned (.tuple #[.agg #[.int .i64 (Ei p f t).bins,.int .i64 (Ei p f t).passes,vo],.bool (Eg p f t)])∧own 9 w.heap.size w' vo (Ei p f t).order∧Below w.heap.size w w'
theorem AqZ{p f t w w'}(h:Eg p f t=false)(hb:Below w.heap.size w w'):mvQ p f t w (.returned (.tuple #[.agg #[.int .i64 0,.int .i64 0,.slice none 0 0],.bool false])) w':=by unfold mvQ;rw[Q5 h,h];exact⟨_,rfl,own.nil_ _ _ _,hb⟩
theorem Wr(v p f t w)(hv:rdP w w.heap.size v p)(k7:Eg p f t=false)(hk:Bq p=false):
 Calls aB 97 #[v,.int .i64 f,.int .i64 t] w (mvQ p f t w):=by refine' ZSu;refine' ZJa;refine' ZC;exact ZJb
theorem Ws(v p f t w)(hv:rdP w w.heap.size v p)(k7:Eg p f t=false)(hk:Bq p=true)(hf:(decide (0≤f)&&decide (f≤(p.order.length:Int) - 1))=false):
 Calls aB 97 #[v,.int .i64 f,.int .i64 t] w (mvQ p f t w):=by
 refine' ZJc;have dy:Hid (∀W:World,Calls aB 167 #[.int .i64 f,.int .i64 0,.int .i64 (p.order.length - 1)] W fun e w'=>e=.returned (.bool false)∧W=w'):=fun W=>by
  have:=D0 f 0 ((p.order.length:Int) - 1) W
  rwa [show(decide (0≤f)&&decide (f≤(p.order.length:Int) - 1))=false from hf]at this
 refine' ZJa;go_wp2_with (go_at_call 167;first|((with_reducible refine(dy.out _).mono ?_);refine' ZP))
 exact ZJb
theorem Z6(v p f t w)(hv:rdP w w.heap.size v p)(k7:Eg p f t=false)(hk:Bq p=true)(hf:(decide (0≤f)&&decide (f≤(p.order.length:Int) - 1))=true)(ht:(decide (0≤t)&&decide (t≤(p.order.length:Int) - 1))=false):
 Calls aB 97 #[v,.int .i64 f,.int .i64 t] w (mvQ p f t w):=by
 refine' ZJc;have dy:Hid (∀W:World,Calls aB 167 #[.int .i64 f,.int .i64 0,.int .i64 (p.order.length - 1)] W fun e w'=>e=.returned (.bool true)∧W=w'):=fun W=>by
  have:=D0 f 0 ((p.order.length:Int) - 1) W
  rwa [show(decide (0≤f)&&decide (f≤(p.order.length:Int) - 1))=true from hf]at this
 have vI:Hid (∀W:World,Calls aB 167 #[.int .i64 t,.int .i64 0,.int .i64 (p.order.length - 1)] W fun e w'=>e=.returned (.bool false)∧W=w'):=fun W=>by
  have:=D0 t 0 ((p.order.length:Int) - 1) W
  rwa [show(decide (0≤t)&&decide (t≤(p.order.length:Int) - 1))=false from ht]at this
 refine' ZJa;refine' ZSv;exact ZJb
theorem Xp(v p f t w)(hv:rdP w w.heap.size v p)(hk:Bq p=true)(hf:f<p.order.length)(ht:t<p.order.length):
 Calls aB 97 #[v,.int .i64 f,.int .i64 t] w (mvQ p f t w):=by
 refine' ZJc;have dy:Hid (∀W:World,Calls aB 167 #[.int .i64 (f:Int),.int .i64 0,.int .i64 (p.order.length - 1)] W fun e w'=>e=.returned (.bool true)∧W=w'):=fun W=>by
  have:=D0 (f:Int) 0 ((p.order.length:Int) - 1) W
  rwa [show(decide (0≤(f:Int))&&decide ((f:Int)≤(p.order.length:Int) - 1))=true from ZIW]at this
 have vI:Hid (∀W:World,Calls aB 167 #[.int .i64 (t:Int),.int .i64 0,.int .i64 (p.order.length - 1)] W fun e w'=>e=.returned (.bool true)∧W=w'):=fun W=>by
  have:=D0 (t:Int) 0 ((p.order.length:Int) - 1) W
  rwa [show(decide (0≤(t:Int))&&decide ((t:Int)≤(p.order.length:Int) - 1))=true from ZIW]at this
 have ee:Hid (Eg p (f:Int) (t:Int)=true):=by show _=_;unfold Eg;rw[hk,aJ (show(0:Int)≤(f:Int) by omega),aJ (show(f:Int)<p.order.length by omega),aJ (show(0:Int)≤(t:Int) by omega),aJ (show(t:Int)<p.order.length by omega)];rfl
 have lT:Hid (Ei p (f:Int) (t:Int)=⟨p.bins,p.passes,Ju p.order f t⟩):=Ac6 ee.out;have ry:Hid (Ju p.order f t=(wo p.order (f:Int)).take t++(p.order.getD f ⟨#[]⟩::(wo p.order (f:Int)).drop t)):=rfl;have kj:=aA (Az8 hf);have cz:(wo p.order (f:Int)).length+1=p.order.length:=by rw[←kj.out,aS,bH,dO];omega
 have oh:Hid (p.order.getD f ⟨#[]⟩=p.order[f]):=by show _=_;rw[bL,aR hf];rfl
 obtain⟨A',n',c',yW,jk,f8,xP,ce⟩:=(show rd w w.heap.size (.slice A0 p.order.length c0) p.order by obtain⟨vo,h1,_,_,h4⟩:=HV.out;refine' ZEW;rw[h1];exact h4)
 cases yW;have sX:Hid (∀W,Below w.heap.size w W→rd W W.heap.size (.slice A0 p.order.length c0) p.order):=fun W hW=>rd.on ⟨_,_,_,rfl,jk,f8,xP,ce⟩ hW
 obtain⟨bo,oo,MJ,x9,se,yx⟩:=rdA.strU ce f hf;subst MJ;clear ce jk;unfold maxLen at xP;obtain⟨x,hx⟩:∃x,p.order[f]=x:=⟨_,rfl⟩;rw[hx]at oh yx se;have EE:=aA se;obtain⟨L,hL⟩:∃L,wo p.order (f:Int)=L:=⟨_,rfl⟩;rw[hL]at ry kj cz;have HL:=aA hL;clear hx hL hk;refine' ZSw;have ik:=aA bt;have il:=aA na;have cy:=aA l1;have jO:((f:Int)+1).toNat=f+1:=ZA
 have uQ:(0:Int)≤(f:Int)+1:=ZA
 have kP:(f:Int)≤(c0:Int):=ZA
 have IF:(f:Int)+1≤(p.order.length:Int):=ZA
 have hi4:aI.wrap ((f:Int)+1)=(f:Int)+1:=bI _ ZA;have sE:Hid (p.order.length≤60):=jb.2;have hlenc:=f8;have hi5:(f:Int)≤(f:Int)+1:=ZA
 clear jb r0 r1 r2 f0 f1 f2
 refine' ZSv;have u0:∀W,Below w1.heap.size w1 W→W.cell? ⟨w.heap.size,0,none⟩=some (.int .i64 p.bins):=fun W h=>(h.cell (p:=⟨w.heap.size,0,none⟩) (Array.getElem?_eq_some_iff.1 ik.out).1).trans x0
 have u1:∀W,Below w1.heap.size w1 W→W.cell? ⟨w.heap.size,1,none⟩=some (.int .i64 p.passes):=fun W h=>(h.cell (p:=⟨w.heap.size,1,none⟩) (Array.getElem?_eq_some_iff.1 ik.out).1).trans x1
 have u2:∀W,Below w1.heap.size w1 W→W.cell? ⟨w.heap.size,2,none⟩=some (.slice (some ⟨bo,oo,none⟩) p.order.length c0):=fun W h=>(h.cell (p:=⟨w.heap.size,2,none⟩) (Array.getElem?_eq_some_iff.1 ik.out).1).trans x2
 have yf:∀W,Below w1.heap.size w1 W→W.cell? ⟨bo,oo+f,none⟩=some (.string x):=fun W h=>yx W (l1.trans (h.mono l1.size))
 have CX:Hid (∀W,Below w1.heap.size w1 W→rd W W.heap.size (.slice (some ⟨bo,oo,none⟩) p.order.length c0) p.order):=fun W h=>sX.out W (l1.trans (h.mono l1.size))
 have xr:Hid (∀W,Below w1.heap.size w1 W→rd W W.heap.size (.slice (some ⟨bo,oo,none⟩) f c0) (p.order.take f)):=fun W h=>(CX.out W h).take ZA
 clear bt na l1 lB b1 mz rg x0 x1 x2 yx;have ks:([]:List ByteArray).length+(p.order.take f).length≤maxLen:=by have:=sE.out;unfold maxLen;rw[cK,bH];omega
 have kt:(([]:List ByteArray).length+(p.order.take f).length)*16≤140737488355328:=by have:=sE.out;rw[cK,bH];omega
 have kr:(p.order.take f).length+(p.order.drop (f+1)).length≤maxLen:=by have:=sE.out;unfold maxLen;rw[bH,dO];omega
 have mj:((p.order.take f).length+(p.order.drop (f+1)).length)*16≤140737488355328:=by have:=sE.out;rw[bH,dO];omega
 have js:=(aF w1.heap.size w1).drew;have la:Below w1.heap.size w1 (w1.alloc (aC #[] 9)):=(aF w1.heap.size w1).alloc (aD _) _;have ea:own (α:=ByteArray) 9 w1.heap.size (w1.alloc (aC #[] 9)) (.slice (some ⟨w1.heap.size,0,none⟩) 0 0) []:=own.made0 w1 _ (aD _);refine' ZJd;by_cases sH:c0=f+1
 ·have vj:Hid (∀W,Below w1.heap.size w1 W→rd W W.heap.size (.slice (some ⟨bo,oo,none⟩) 0 0) (p.order.drop (f+1))):=fun W h=>by
   have h:=(CX.out W h).drop (k:=f+1) ZA
   rwa [aP sH,sH,Nat.sub_self,show p.order.length - (f+1)=0 by omega]at h
  subst sH;refine' ZSx;refine' ZSy;show Bu _ _ _ _ _ _ _ _ (Act.put _ (some 33) _) _
  refine' ZSz;show Bu _ _ _ _ _ _ _ _ (Act.put _ (some 34) _) _
  refine' ZS0;show Bu _ _ _ _ _ _ _ _ (Act.put _ (some 35) _) _
  refine' ZU;refine Bh (i:=4) (v:=?zv4) rfl rfl ZB ZB ZB ZB (fun _ _ _ h=>h) (aZ ⟨ZG,?zy4⟩) ZL ?zr4
  case zy4=> exact ZM
  show Bu _ _ _ _ _ _ _ _ (Act.put _ (some 36) _) _
  refine' ZS1;show Bu _ _ _ _ _ _ _ _ (Act.put _ (some 38) _) _
  refine' ZU;refine' ZS2;show Bu _ _ _ _ _ _ _ _ (Act.put _ (some 39) _) _
  refine' ZU;refine Bh (i:=8) (v:=?zv7) rfl rfl ZB ZB ZB ZB (fun _ _ _ h=>h) (aZ ⟨ZG,?zy7⟩) ZL ?zr7
  case zy7=> exact ZM
  show Bu _ _ _ _ _ _ _ _ (Act.put _ (some 40) _) _
  refine' ZU;refine Bh (i:=9) (v:=?zv8) rfl rfl ZB ZB ZB ZB (fun _ _ _ h=>h) (aZ ⟨ZG,?zy8⟩) ZL ?zr8
  case zy8=> exact ZM
  show Bu _ _ _ _ _ _ _ _ (Act.put _ (some 41) _) _
  refine' ZU;refine Bh (i:=10) (v:=?zv9) rfl rfl ZB ZB ZB ZB (fun _ _ _ h=>h) (aZ ⟨ZG,?zy9⟩) ZL ?zr9
  case zy9=> exact ZM
  refine' ZS3;have sF:∀W,Below W3.heap.size W3 W→W.cell? ⟨w.heap.size,2,none⟩=_:=fun W h=>u2 W (l3.trans (h.mono l3.size))
  refine' ZS4;refine Bh (i:=1) (v:=?zv10) rfl rfl ZB ZB ZB ZB (fun _ _ _ h=>h) (aZ ⟨ZG,?zy10⟩) ZL ?zr10
  case zy10=> exact ZM
  show Bu _ _ _ _ _ _ _ _ (Act.put _ (some 45) _) _
  refine' ZU;refine Bh (i:=2) (v:=?zv11) rfl rfl ZB ZB ZB ZB (fun _ _ _ h=>h) (aZ ⟨ZG,?zy11⟩) ZL ?zr11
  case zy11=> exact ZM
  show Bu _ _ _ _ _ _ _ _ (Act.put _ (some 46) _) _
  refine' ZU;refine Bh (i:=3) (v:=?zv12) rfl rfl ZB ZB ZB ZB (fun _ _ _ h=>h) (aZ ⟨ZG,?zy12⟩) ZL ?zr12
  case zy12=> exact ZM
  show Bu _ _ _ _ _ _ _ _ (Act.put _ (some 47) _) _
  refine' ZU;refine Bh (i:=5) (v:=?zv13) rfl rfl ZB ZB ZB ZB (fun _ _ _ h=>h) (aZ ⟨ZG,?zy13⟩) ZL ?zr13
  case zy13=> exact ZM
  show Bu _ _ _ _ _ _ _ _ (Act.put _ (some 49) _) _
  refine' ZU;refine Bh (i:=6) (v:=?zv14) rfl rfl ZB ZB ZB ZB (fun _ _ _ h=>h) (aZ ⟨ZG,?zy14⟩) ZL ?zr14
  case zy14=> exact ZM
  show Bu _ _ _ _ _ _ _ _ (Act.put _ (some 50) _) _
  refine' ZU;refine Bh (i:=7) (v:=?zv15) rfl rfl ZB ZB ZB ZB (fun _ _ _ h=>h) (aZ ⟨ZG,?zy15⟩) ZL ?zr15
  case zy15=> exact ZM
  refine' ZJe;refine' ZU;refine Bh (i:=8) (v:=?zv16) rfl rfl ZB ZB ZB ZB (fun _ _ _ h=>h) (aZ ⟨ZG,?zy16⟩) ZL ?zr16
  case zy16=> exact ZM
  refine' ZJf;refine' ZU;refine Bh (i:=9) (v:=?zv17) rfl rfl ZB ZB ZB ZB (fun _ _ _ h=>h) (aZ ⟨ZG,?zy17⟩) ZL ?zr17
  case zy17=> exact ZM
  refine' ZS5;refine Bi.cons rfl (fun K hK=>?_) ?_
  ·
   refine' ZD6;refine Bk (rs:=[4,10]) ZB ZE ?_;refine Bi.cons rfl (fun K hK=>?_) ?_
   ·
    refine' ZS6;by_cases ju:cr=t
    ·refine' ZCp;refine Bh (i:=0) (v:=?zv18) rfl rfl ZB ZB ZB ZB (fun _ _ _ h=>h) (aZ ⟨ZG,?zy18⟩) ZL ?zr18
     case zy18=> exact ZM
     refine' YK;refine Bh (i:=1) (v:=?zv19) rfl rfl ZB ZB ZB ZB (fun _ _ _ h=>h) (aZ ⟨ZG,?zy19⟩) ZL ?zr19
     case zy19=> exact ZM
     refine' YL;refine Bh (i:=2) (v:=?zv20) rfl rfl ZB ZB ZB ZB (fun _ _ _ h=>h) (aZ ⟨ZG,?zy20⟩) ZL ?zr20
     case zy20=> exact ZM
     refine' ZAA;refine Bh (i:=3) (v:=?zv21) rfl rfl ZB ZB ZB ZB (fun _ _ _ h=>h) (aZ ⟨ZG,?zy21⟩) ZL ?zr21
     case zy21=> exact ZM
     refine' ZAB;refine Bh (i:=4) (v:=?zv22) rfl rfl ZB ZB ZB ZB (fun _ _ _ h=>h) (aZ ⟨ZG,?zy22⟩) ZL ?zr22
     case zy22=> exact ZM
     refine' zt;refine Bh (i:=5) (v:=?zv23) rfl rfl ZB ZB ZB ZB (fun _ _ _ h=>h) (aZ ⟨ZG,?zy23⟩) ZL ?zr23
     case zy23=> exact ZM
     refine' YM;refine Bh (i:=6) (v:=?zv24) rfl rfl ZB ZB ZB ZB (fun _ _ _ h=>h) (aZ ⟨ZG,?zy24⟩) ZL ?zr24
     case zy24=> exact ZM
     refine' ZAC;refine Bh (i:=7) (v:=?zv25) rfl rfl ZB ZB ZB ZB (fun _ _ _ h=>h) (aZ ⟨ZG,?zy25⟩) ZL ?zr25
     case zy25=> exact ZM
     exact ZAD
    ·refine' ZCq;refine Bh (i:=0) (v:=?zv26) rfl rfl ZB ZB ZB ZB (fun _ _ _ h=>h) (aZ ⟨ZG,?zy26⟩) ZL ?zr26
     case zy26=> exact ZM
     refine' YK;refine Bh (i:=1) (v:=?zv27) rfl rfl ZB ZB ZB ZB (fun _ _ _ h=>h) (aZ ⟨ZG,?zy27⟩) ZL ?zr27
     case zy27=> exact ZM
     refine' YL;refine Bh (i:=2) (v:=?zv28) rfl rfl ZB ZB ZB ZB (fun _ _ _ h=>h) (aZ ⟨ZG,?zy28⟩) ZL ?zr28
     case zy28=> exact ZM
     refine' ZAA;refine Bh (i:=3) (v:=?zv29) rfl rfl ZB ZB ZB ZB (fun _ _ _ h=>h) (aZ ⟨ZG,?zy29⟩) ZL ?zr29
     case zy29=> exact ZM
     refine' ZAB;refine Bh (i:=4) (v:=?zv30) rfl rfl ZB ZB ZB ZB (fun _ _ _ h=>h) (aZ ⟨ZG,?zy30⟩) ZL ?zr30
     case zy30=> exact ZM
     refine' zt;refine Bh (i:=5) (v:=?zv31) rfl rfl ZB ZB ZB ZB (fun _ _ _ h=>h) (aZ ⟨ZG,?zy31⟩) ZL ?zr31
     case zy31=> exact ZM
     refine' YM;refine Bh (i:=6) (v:=?zv32) rfl rfl ZB ZB ZB ZB (fun _ _ _ h=>h) (aZ ⟨ZG,?zy32⟩) ZL ?zr32
     case zy32=> exact ZM
     refine' ZAC;refine Bh (i:=7) (v:=?zv33) rfl rfl ZB ZB ZB ZB (fun _ _ _ h=>h) (aZ ⟨ZG,?zy33⟩) ZL ?zr33
     case zy33=> exact ZM
     exact ZAD
   refine' ZS7;by_cases ju:cr=t
   ·refine' ZCp;refine Bh (i:=0) (v:=?zv34) rfl rfl ZB ZB ZB ZB (fun _ _ _ h=>h) (aZ ⟨ZG,?zy34⟩) ZL ?zr34
    case zy34=> exact ZM
    refine' YK;refine Bh (i:=1) (v:=?zv35) rfl rfl ZB ZB ZB ZB (fun _ _ _ h=>h) (aZ ⟨ZG,?zy35⟩) ZL ?zr35
    case zy35=> exact ZM
    refine' YL;refine Bh (i:=2) (v:=?zv36) rfl rfl ZB ZB ZB ZB (fun _ _ _ h=>h) (aZ ⟨ZG,?zy36⟩) ZL ?zr36
    case zy36=> exact ZM
    refine' ZAA;refine Bh (i:=3) (v:=?zv37) rfl rfl ZB ZB ZB ZB (fun _ _ _ h=>h) (aZ ⟨ZG,?zy37⟩) ZL ?zr37
    case zy37=> exact ZM
    refine' ZAB;refine Bh (i:=4) (v:=?zv38) rfl rfl ZB ZB ZB ZB (fun _ _ _ h=>h) (aZ ⟨ZG,?zy38⟩) ZL ?zr38
    case zy38=> exact ZM
    refine' zt;refine Bh (i:=5) (v:=?zv39) rfl rfl ZB ZB ZB ZB (fun _ _ _ h=>h) (aZ ⟨ZG,?zy39⟩) ZL ?zr39
    case zy39=> exact ZM
    refine' YM;refine Bh (i:=6) (v:=?zv40) rfl rfl ZB ZB ZB ZB (fun _ _ _ h=>h) (aZ ⟨ZG,?zy40⟩) ZL ?zr40
    case zy40=> exact ZM
    refine' ZAC;refine Bh (i:=7) (v:=?zv41) rfl rfl ZB ZB ZB ZB (fun _ _ _ h=>h) (aZ ⟨ZG,?zy41⟩) ZL ?zr41
    case zy41=> exact ZM
    exact ZAD
   ·refine' ZCq;refine Bh (i:=0) (v:=?zv42) rfl rfl ZB ZB ZB ZB (fun _ _ _ h=>h) (aZ ⟨ZG,?zy42⟩) ZL ?zr42
    case zy42=> exact ZM
    refine' YK;refine Bh (i:=1) (v:=?zv43) rfl rfl ZB ZB ZB ZB (fun _ _ _ h=>h) (aZ ⟨ZG,?zy43⟩) ZL ?zr43
    case zy43=> exact ZM
    refine' YL;refine Bh (i:=2) (v:=?zv44) rfl rfl ZB ZB ZB ZB (fun _ _ _ h=>h) (aZ ⟨ZG,?zy44⟩) ZL ?zr44
    case zy44=> exact ZM
    refine' ZAA;refine Bh (i:=3) (v:=?zv45) rfl rfl ZB ZB ZB ZB (fun _ _ _ h=>h) (aZ ⟨ZG,?zy45⟩) ZL ?zr45
    case zy45=> exact ZM
    refine' ZAB;refine Bh (i:=4) (v:=?zv46) rfl rfl ZB ZB ZB ZB (fun _ _ _ h=>h) (aZ ⟨ZG,?zy46⟩) ZL ?zr46
    case zy46=> exact ZM
    refine' zt;refine Bh (i:=5) (v:=?zv47) rfl rfl ZB ZB ZB ZB (fun _ _ _ h=>h) (aZ ⟨ZG,?zy47⟩) ZL ?zr47
    case zy47=> exact ZM
    refine' YM;refine Bh (i:=6) (v:=?zv48) rfl rfl ZB ZB ZB ZB (fun _ _ _ h=>h) (aZ ⟨ZG,?zy48⟩) ZL ?zr48
    case zy48=> exact ZM
    refine' ZAC;refine Bh (i:=7) (v:=?zv49) rfl rfl ZB ZB ZB ZB (fun _ _ _ h=>h) (aZ ⟨ZG,?zy49⟩) ZL ?zr49
    case zy49=> exact ZM
    exact ZAD
  refine' ZS8;by_cases ju:cr=t
  ·refine' ZCp;refine Bh (i:=0) (v:=?zv50) rfl rfl ZB ZB ZB ZB (fun _ _ _ h=>h) (aZ ⟨ZG,?zy50⟩) ZL ?zr50
   case zy50=> exact ZM
   refine' YK;refine Bh (i:=1) (v:=?zv51) rfl rfl ZB ZB ZB ZB (fun _ _ _ h=>h) (aZ ⟨ZG,?zy51⟩) ZL ?zr51
   case zy51=> exact ZM
   refine' YL;refine Bh (i:=2) (v:=?zv52) rfl rfl ZB ZB ZB ZB (fun _ _ _ h=>h) (aZ ⟨ZG,?zy52⟩) ZL ?zr52
   case zy52=> exact ZM
   refine' ZAA;refine Bh (i:=3) (v:=?zv53) rfl rfl ZB ZB ZB ZB (fun _ _ _ h=>h) (aZ ⟨ZG,?zy53⟩) ZL ?zr53
   case zy53=> exact ZM
   refine' ZAB;refine Bh (i:=4) (v:=?zv54) rfl rfl ZB ZB ZB ZB (fun _ _ _ h=>h) (aZ ⟨ZG,?zy54⟩) ZL ?zr54
   case zy54=> exact ZM
   refine' zt;refine Bh (i:=5) (v:=?zv55) rfl rfl ZB ZB ZB ZB (fun _ _ _ h=>h) (aZ ⟨ZG,?zy55⟩) ZL ?zr55
   case zy55=> exact ZM
   refine' YM;refine Bh (i:=6) (v:=?zv56) rfl rfl ZB ZB ZB ZB (fun _ _ _ h=>h) (aZ ⟨ZG,?zy56⟩) ZL ?zr56
   case zy56=> exact ZM
   refine' ZAC;refine Bh (i:=7) (v:=?zv57) rfl rfl ZB ZB ZB ZB (fun _ _ _ h=>h) (aZ ⟨ZG,?zy57⟩) ZL ?zr57
   case zy57=> exact ZM
   exact ZAD
  ·refine' ZCq;refine Bh (i:=0) (v:=?zv58) rfl rfl ZB ZB ZB ZB (fun _ _ _ h=>h) (aZ ⟨ZG,?zy58⟩) ZL ?zr58
   case zy58=> exact ZM
   refine' YK;refine Bh (i:=1) (v:=?zv59) rfl rfl ZB ZB ZB ZB (fun _ _ _ h=>h) (aZ ⟨ZG,?zy59⟩) ZL ?zr59
   case zy59=> exact ZM
   refine' YL;refine Bh (i:=2) (v:=?zv60) rfl rfl ZB ZB ZB ZB (fun _ _ _ h=>h) (aZ ⟨ZG,?zy60⟩) ZL ?zr60
   case zy60=> exact ZM
   refine' ZAA;refine Bh (i:=3) (v:=?zv61) rfl rfl ZB ZB ZB ZB (fun _ _ _ h=>h) (aZ ⟨ZG,?zy61⟩) ZL ?zr61
   case zy61=> exact ZM
   refine' ZAB;refine Bh (i:=4) (v:=?zv62) rfl rfl ZB ZB ZB ZB (fun _ _ _ h=>h) (aZ ⟨ZG,?zy62⟩) ZL ?zr62
   case zy62=> exact ZM
   refine' zt;refine Bh (i:=5) (v:=?zv63) rfl rfl ZB ZB ZB ZB (fun _ _ _ h=>h) (aZ ⟨ZG,?zy63⟩) ZL ?zr63
   case zy63=> exact ZM
   refine' YM;refine Bh (i:=6) (v:=?zv64) rfl rfl ZB ZB ZB ZB (fun _ _ _ h=>h) (aZ ⟨ZG,?zy64⟩) ZL ?zr64
   case zy64=> exact ZM
   refine' ZAC;refine Bh (i:=7) (v:=?zv65) rfl rfl ZB ZB ZB ZB (fun _ _ _ h=>h) (aZ ⟨ZG,?zy65⟩) ZL ?zr65
   case zy65=> exact ZM
   exact ZAD
 ·have vj:Hid (∀W,Below w1.heap.size w1 W→rd W W.heap.size (.slice (some ⟨bo,oo+(f+1),none⟩) (p.order.length - (f+1)) (c0 - (f+1))) (p.order.drop (f+1))):=fun W h=>by have h:=(CX.out W h).drop (k:=f+1) ZA;rw[aL sH]at h;simpa [Ii,El.size]using h
  refine' ZSx;refine Bh (i:=1) (v:=?zv66) rfl rfl ZB ZB ZB ZB (fun _ _ _ h=>h) (aZ ⟨ZG,?zy66⟩) ZL ?zr66
  case zy66=> exact ZM
  show Bu _ _ _ _ _ _ _ _ (Act.put _ (some 33) _) _
  refine' ZU;refine Bh (i:=2) (v:=?zv67) rfl rfl ZB ZB ZB ZB (fun _ _ _ h=>h) (aZ ⟨ZG,?zy67⟩) ZL ?zr67
  case zy67=> exact ZM
  show Bu _ _ _ _ _ _ _ _ (Act.put _ (some 34) _) _
  refine' ZU;refine Bh (i:=3) (v:=?zv68) rfl rfl ZB ZB ZB ZB (fun _ _ _ h=>h) (aZ ⟨ZG,?zy68⟩) ZL ?zr68
  case zy68=> exact ZM
  show Bu _ _ _ _ _ _ _ _ (Act.put _ (some 35) _) _
  refine' ZU;refine Bh (i:=4) (v:=?zv69) rfl rfl ZB ZB ZB ZB (fun _ _ _ h=>h) (aZ ⟨ZG,?zy69⟩) ZL ?zr69
  case zy69=> exact ZM
  show Bu _ _ _ _ _ _ _ _ (Act.put _ (some 36) _) _
  refine' ZU;refine Bh (i:=6) (v:=?zv70) rfl rfl ZB ZB ZB ZB (fun _ _ _ h=>h) (aZ ⟨ZG,?zy70⟩) ZL ?zr70
  case zy70=> exact ZM
  show Bu _ _ _ _ _ _ _ _ (Act.put _ (some 38) _) _
  refine' ZU;refine Bh (i:=7) (v:=?zv71) rfl rfl ZB ZB ZB ZB (fun _ _ _ h=>h) (aZ ⟨ZG,?zy71⟩) ZL ?zr71
  case zy71=> exact ZM
  show Bu _ _ _ _ _ _ _ _ (Act.put _ (some 39) _) _
  refine' ZU;refine Bh (i:=8) (v:=?zv72) rfl rfl ZB ZB ZB ZB (fun _ _ _ h=>h) (aZ ⟨ZG,?zy72⟩) ZL ?zr72
  case zy72=> exact ZM
  show Bu _ _ _ _ _ _ _ _ (Act.put _ (some 40) _) _
  refine' ZU;refine Bh (i:=9) (v:=?zv73) rfl rfl ZB ZB ZB ZB (fun _ _ _ h=>h) (aZ ⟨ZG,?zy73⟩) ZL ?zr73
  case zy73=> exact ZM
  show Bu _ _ _ _ _ _ _ _ (Act.put _ (some 41) _) _
  refine' ZU;refine Bh (i:=10) (v:=?zv74) rfl rfl ZB ZB ZB ZB (fun _ _ _ h=>h) (aZ ⟨ZG,?zy74⟩) ZL ?zr74
  case zy74=> exact ZM
  refine' ZS3;have sF:∀W,Below W3.heap.size W3 W→W.cell? ⟨w.heap.size,2,none⟩=_:=fun W h=>u2 W (l3.trans (h.mono l3.size))
  refine' ZS4;refine Bh (i:=1) (v:=?zv75) rfl rfl ZB ZB ZB ZB (fun _ _ _ h=>h) (aZ ⟨ZG,?zy75⟩) ZL ?zr75
  case zy75=> exact ZM
  show Bu _ _ _ _ _ _ _ _ (Act.put _ (some 45) _) _
  refine' ZU;refine Bh (i:=2) (v:=?zv76) rfl rfl ZB ZB ZB ZB (fun _ _ _ h=>h) (aZ ⟨ZG,?zy76⟩) ZL ?zr76
  case zy76=> exact ZM
  show Bu _ _ _ _ _ _ _ _ (Act.put _ (some 46) _) _
  refine' ZU;refine Bh (i:=3) (v:=?zv77) rfl rfl ZB ZB ZB ZB (fun _ _ _ h=>h) (aZ ⟨ZG,?zy77⟩) ZL ?zr77
  case zy77=> exact ZM
  show Bu _ _ _ _ _ _ _ _ (Act.put _ (some 47) _) _
  refine' ZU;refine Bh (i:=5) (v:=?zv78) rfl rfl ZB ZB ZB ZB (fun _ _ _ h=>h) (aZ ⟨ZG,?zy78⟩) ZL ?zr78
  case zy78=> exact ZM
  show Bu _ _ _ _ _ _ _ _ (Act.put _ (some 49) _) _
  refine' ZU;refine Bh (i:=6) (v:=?zv79) rfl rfl ZB ZB ZB ZB (fun _ _ _ h=>h) (aZ ⟨ZG,?zy79⟩) ZL ?zr79
  case zy79=> exact ZM
  show Bu _ _ _ _ _ _ _ _ (Act.put _ (some 50) _) _
  refine' ZU;refine Bh (i:=7) (v:=?zv80) rfl rfl ZB ZB ZB ZB (fun _ _ _ h=>h) (aZ ⟨ZG,?zy80⟩) ZL ?zr80
  case zy80=> exact ZM
  refine' ZJe;refine' ZU;refine Bh (i:=8) (v:=?zv81) rfl rfl ZB ZB ZB ZB (fun _ _ _ h=>h) (aZ ⟨ZG,?zy81⟩) ZL ?zr81
  case zy81=> exact ZM
  refine' ZJf;refine' ZU;refine Bh (i:=9) (v:=?zv82) rfl rfl ZB ZB ZB ZB (fun _ _ _ h=>h) (aZ ⟨ZG,?zy82⟩) ZL ?zr82
  case zy82=> exact ZM
  refine' ZS5;refine Bi.cons rfl (fun K hK=>?_) ?_
  ·
   refine' ZD6;refine Bk (rs:=[4,10]) ZB ZE ?_;refine Bi.cons rfl (fun K hK=>?_) ?_
   ·
    refine' ZS6;by_cases ju:cr=t
    ·refine' ZCp;refine Bh (i:=0) (v:=?zv83) rfl rfl ZB ZB ZB ZB (fun _ _ _ h=>h) (aZ ⟨ZG,?zy83⟩) ZL ?zr83
     case zy83=> exact ZM
     refine' YK;refine Bh (i:=1) (v:=?zv84) rfl rfl ZB ZB ZB ZB (fun _ _ _ h=>h) (aZ ⟨ZG,?zy84⟩) ZL ?zr84
     case zy84=> exact ZM
     refine' YL;refine Bh (i:=2) (v:=?zv85) rfl rfl ZB ZB ZB ZB (fun _ _ _ h=>h) (aZ ⟨ZG,?zy85⟩) ZL ?zr85
     case zy85=> exact ZM
     refine' ZAA;refine Bh (i:=3) (v:=?zv86) rfl rfl ZB ZB ZB ZB (fun _ _ _ h=>h) (aZ ⟨ZG,?zy86⟩) ZL ?zr86
     case zy86=> exact ZM
     refine' ZAB;refine Bh (i:=4) (v:=?zv87) rfl rfl ZB ZB ZB ZB (fun _ _ _ h=>h) (aZ ⟨ZG,?zy87⟩) ZL ?zr87
     case zy87=> exact ZM
     refine' zt;refine Bh (i:=5) (v:=?zv88) rfl rfl ZB ZB ZB ZB (fun _ _ _ h=>h) (aZ ⟨ZG,?zy88⟩) ZL ?zr88
     case zy88=> exact ZM
     refine' YM;refine Bh (i:=6) (v:=?zv89) rfl rfl ZB ZB ZB ZB (fun _ _ _ h=>h) (aZ ⟨ZG,?zy89⟩) ZL ?zr89
     case zy89=> exact ZM
     refine' ZAC;refine Bh (i:=7) (v:=?zv90) rfl rfl ZB ZB ZB ZB (fun _ _ _ h=>h) (aZ ⟨ZG,?zy90⟩) ZL ?zr90
     case zy90=> exact ZM
     exact ZAD
    ·refine' ZCq;refine Bh (i:=0) (v:=?zv91) rfl rfl ZB ZB ZB ZB (fun _ _ _ h=>h) (aZ ⟨ZG,?zy91⟩) ZL ?zr91
     case zy91=> exact ZM
     refine' YK;refine Bh (i:=1) (v:=?zv92) rfl rfl ZB ZB ZB ZB (fun _ _ _ h=>h) (aZ ⟨ZG,?zy92⟩) ZL ?zr92
     case zy92=> exact ZM
     refine' YL;refine Bh (i:=2) (v:=?zv93) rfl rfl ZB ZB ZB ZB (fun _ _ _ h=>h) (aZ ⟨ZG,?zy93⟩) ZL ?zr93
     case zy93=> exact ZM
     refine' ZAA;refine Bh (i:=3) (v:=?zv94) rfl rfl ZB ZB ZB ZB (fun _ _ _ h=>h) (aZ ⟨ZG,?zy94⟩) ZL ?zr94
     case zy94=> exact ZM
     refine' ZAB;refine Bh (i:=4) (v:=?zv95) rfl rfl ZB ZB ZB ZB (fun _ _ _ h=>h) (aZ ⟨ZG,?zy95⟩) ZL ?zr95
     case zy95=> exact ZM
     refine' zt;refine Bh (i:=5) (v:=?zv96) rfl rfl ZB ZB ZB ZB (fun _ _ _ h=>h) (aZ ⟨ZG,?zy96⟩) ZL ?zr96
     case zy96=> exact ZM
     refine' YM;refine Bh (i:=6) (v:=?zv97) rfl rfl ZB ZB ZB ZB (fun _ _ _ h=>h) (aZ ⟨ZG,?zy97⟩) ZL ?zr97
     case zy97=> exact ZM
     refine' ZAC;refine Bh (i:=7) (v:=?zv98) rfl rfl ZB ZB ZB ZB (fun _ _ _ h=>h) (aZ ⟨ZG,?zy98⟩) ZL ?zr98
     case zy98=> exact ZM
     exact ZAD
   refine' ZS7;by_cases ju:cr=t
   ·refine' ZCp;refine Bh (i:=0) (v:=?zv99) rfl rfl ZB ZB ZB ZB (fun _ _ _ h=>h) (aZ ⟨ZG,?zy99⟩) ZL ?zr99
    case zy99=> exact ZM
    refine' YK;refine Bh (i:=1) (v:=?zv100) rfl rfl ZB ZB ZB ZB (fun _ _ _ h=>h) (aZ ⟨ZG,?zy100⟩) ZL ?zr100
    case zy100=> exact ZM
    refine' YL;refine Bh (i:=2) (v:=?zv101) rfl rfl ZB ZB ZB ZB (fun _ _ _ h=>h) (aZ ⟨ZG,?zy101⟩) ZL ?zr101
    case zy101=> exact ZM
    refine' ZAA;refine Bh (i:=3) (v:=?zv102) rfl rfl ZB ZB ZB ZB (fun _ _ _ h=>h) (aZ ⟨ZG,?zy102⟩) ZL ?zr102
    case zy102=> exact ZM
    refine' ZAB;refine Bh (i:=4) (v:=?zv103) rfl rfl ZB ZB ZB ZB (fun _ _ _ h=>h) (aZ ⟨ZG,?zy103⟩) ZL ?zr103
    case zy103=> exact ZM
    refine' zt;refine Bh (i:=5) (v:=?zv104) rfl rfl ZB ZB ZB ZB (fun _ _ _ h=>h) (aZ ⟨ZG,?zy104⟩) ZL ?zr104
    case zy104=> exact ZM
    refine' YM;refine Bh (i:=6) (v:=?zv105) rfl rfl ZB ZB ZB ZB (fun _ _ _ h=>h) (aZ ⟨ZG,?zy105⟩) ZL ?zr105
    case zy105=> exact ZM
    refine' ZAC;refine Bh (i:=7) (v:=?zv106) rfl rfl ZB ZB ZB ZB (fun _ _ _ h=>h) (aZ ⟨ZG,?zy106⟩) ZL ?zr106
    case zy106=> exact ZM
    exact ZAD
   ·refine' ZCq;refine Bh (i:=0) (v:=?zv107) rfl rfl ZB ZB ZB ZB (fun _ _ _ h=>h) (aZ ⟨ZG,?zy107⟩) ZL ?zr107
    case zy107=> exact ZM
    refine' YK;refine Bh (i:=1) (v:=?zv108) rfl rfl ZB ZB ZB ZB (fun _ _ _ h=>h) (aZ ⟨ZG,?zy108⟩) ZL ?zr108
    case zy108=> exact ZM
    refine' YL;refine Bh (i:=2) (v:=?zv109) rfl rfl ZB ZB ZB ZB (fun _ _ _ h=>h) (aZ ⟨ZG,?zy109⟩) ZL ?zr109
    case zy109=> exact ZM
    refine' ZAA;refine Bh (i:=3) (v:=?zv110) rfl rfl ZB ZB ZB ZB (fun _ _ _ h=>h) (aZ ⟨ZG,?zy110⟩) ZL ?zr110
    case zy110=> exact ZM
    refine' ZAB;refine Bh (i:=4) (v:=?zv111) rfl rfl ZB ZB ZB ZB (fun _ _ _ h=>h) (aZ ⟨ZG,?zy111⟩) ZL ?zr111
    case zy111=> exact ZM
    refine' zt;refine Bh (i:=5) (v:=?zv112) rfl rfl ZB ZB ZB ZB (fun _ _ _ h=>h) (aZ ⟨ZG,?zy112⟩) ZL ?zr112
    case zy112=> exact ZM
    refine' YM;refine Bh (i:=6) (v:=?zv113) rfl rfl ZB ZB ZB ZB (fun _ _ _ h=>h) (aZ ⟨ZG,?zy113⟩) ZL ?zr113
    case zy113=> exact ZM
    refine' ZAC;refine Bh (i:=7) (v:=?zv114) rfl rfl ZB ZB ZB ZB (fun _ _ _ h=>h) (aZ ⟨ZG,?zy114⟩) ZL ?zr114
    case zy114=> exact ZM
    exact ZAD
  refine' ZS8;by_cases ju:cr=t
  ·refine' ZCp;refine Bh (i:=0) (v:=?zv115) rfl rfl ZB ZB ZB ZB (fun _ _ _ h=>h) (aZ ⟨ZG,?zy115⟩) ZL ?zr115
   case zy115=> exact ZM
   refine' YK;refine Bh (i:=1) (v:=?zv116) rfl rfl ZB ZB ZB ZB (fun _ _ _ h=>h) (aZ ⟨ZG,?zy116⟩) ZL ?zr116
   case zy116=> exact ZM
   refine' YL;refine Bh (i:=2) (v:=?zv117) rfl rfl ZB ZB ZB ZB (fun _ _ _ h=>h) (aZ ⟨ZG,?zy117⟩) ZL ?zr117
   case zy117=> exact ZM
   refine' ZAA;refine Bh (i:=3) (v:=?zv118) rfl rfl ZB ZB ZB ZB (fun _ _ _ h=>h) (aZ ⟨ZG,?zy118⟩) ZL ?zr118
   case zy118=> exact ZM
   refine' ZAB;refine Bh (i:=4) (v:=?zv119) rfl rfl ZB ZB ZB ZB (fun _ _ _ h=>h) (aZ ⟨ZG,?zy119⟩) ZL ?zr119
   case zy119=> exact ZM
   refine' zt;refine Bh (i:=5) (v:=?zv120) rfl rfl ZB ZB ZB ZB (fun _ _ _ h=>h) (aZ ⟨ZG,?zy120⟩) ZL ?zr120
   case zy120=> exact ZM
   refine' YM;refine Bh (i:=6) (v:=?zv121) rfl rfl ZB ZB ZB ZB (fun _ _ _ h=>h) (aZ ⟨ZG,?zy121⟩) ZL ?zr121
   case zy121=> exact ZM
   refine' ZAC;refine Bh (i:=7) (v:=?zv122) rfl rfl ZB ZB ZB ZB (fun _ _ _ h=>h) (aZ ⟨ZG,?zy122⟩) ZL ?zr122
   case zy122=> exact ZM
   exact ZAD
  ·refine' ZCq;refine Bh (i:=0) (v:=?zv123) rfl rfl ZB ZB ZB ZB (fun _ _ _ h=>h) (aZ ⟨ZG,?zy123⟩) ZL ?zr123
   case zy123=> exact ZM
   refine' YK;refine Bh (i:=1) (v:=?zv124) rfl rfl ZB ZB ZB ZB (fun _ _ _ h=>h) (aZ ⟨ZG,?zy124⟩) ZL ?zr124
   case zy124=> exact ZM
   refine' YL;refine Bh (i:=2) (v:=?zv125) rfl rfl ZB ZB ZB ZB (fun _ _ _ h=>h) (aZ ⟨ZG,?zy125⟩) ZL ?zr125
   case zy125=> exact ZM
   refine' ZAA;refine Bh (i:=3) (v:=?zv126) rfl rfl ZB ZB ZB ZB (fun _ _ _ h=>h) (aZ ⟨ZG,?zy126⟩) ZL ?zr126
   case zy126=> exact ZM
   refine' ZAB;refine Bh (i:=4) (v:=?zv127) rfl rfl ZB ZB ZB ZB (fun _ _ _ h=>h) (aZ ⟨ZG,?zy127⟩) ZL ?zr127
   case zy127=> exact ZM
   refine' zt;refine Bh (i:=5) (v:=?zv128) rfl rfl ZB ZB ZB ZB (fun _ _ _ h=>h) (aZ ⟨ZG,?zy128⟩) ZL ?zr128
   case zy128=> exact ZM
   refine' YM;refine Bh (i:=6) (v:=?zv129) rfl rfl ZB ZB ZB ZB (fun _ _ _ h=>h) (aZ ⟨ZG,?zy129⟩) ZL ?zr129
   case zy129=> exact ZM
   refine' ZAC;refine Bh (i:=7) (v:=?zv130) rfl rfl ZB ZB ZB ZB (fun _ _ _ h=>h) (aZ ⟨ZG,?zy130⟩) ZL ?zr130
   case zy130=> exact ZM
   exact ZAD
end Go.Proofs.YtfadhdacjpmmeaaGreatDoor
