/- Parts. -/
import Derived.Test.YtfadhdacjpmmeaaGreatDoorU16a
set_option linter.unusedVariables false
set_option linter.unusedSimpArgs false
set_option maxRecDepth 1000000
set_option maxHeartbeats 16000000
open Go.Proofs.Tryz
open Go renaming madeCells->bF
open Go.IntKind renaming i64->aD
open Go.Obj renaming cells->aB
open Go.Value renaming string->aG,int->aH
namespace Go.Proofs.YtfadhdacjpmmeaaGreatDoor
open Go.RowKit
theorem Az8{α:Type}{xs:List α}{k}(h:k<xs.length):xs.take k++xs.drop (k+1)=wo xs (k:Int):=by
 have jy:∀i,i<=xs.length->wo (xs.take i) (k:Int)=xs.take (min i k)++(xs.take i).drop (k+1):=fun i=>by
  induction i with
  |zero=>intro _;simp[wo]
  |succ i ih=>
   intro hi;rw[Z7 ZA (k:Int),ih ZA];by_cases hk:i=k
   .subst hk
    rw[aQ rfl,Nat.min_self,ZEG (eL i)]
    congr 1
    rw[dP zF,dP zF]
   .rw[aM ZA]
    rcases gG i k with hl|hl
    .rw[Nat.min_eq_left ZA,Nat.min_eq_left ZA,dP zF,dP zF,eI,eI,aJ ZA]
    .rw[ZEG ZA,ZEG ZA,cZ,aJ (show i<xs.length by omega),List.drop_append_of_le_length zF]
 have:=jy xs.length (aC _);rw[bA,ZEG ZA]at this;exact this.symm
theorem ZDN{w:World}{b b' i}(h:b≠b')(x y z):(((w.setCell ⟨b',0,none⟩ x).setCell ⟨b',1,none⟩ y).setCell ⟨b',2,none⟩ z).cell? ⟨b,i,none⟩=w.cell? ⟨b,i,none⟩:=by
 have e:∀(W:World) (k:Nat) (u:Value),(W.setCell ⟨b',k,none⟩ u).heap[b]? =W.heap[b]? :=fun W k u=>bQ _ _ _ _ h
 unfold World.cell?;rw[e,e,e]
def mvQ(p:Pln)(f t:Int)(w:World)(e:Ending)(w':World):Prop:=
 ∃vo,e=.returned (.tuple #[.agg #[.int .i64 (Ei p f t).bins,.int .i64 (Ei p f t).passes,vo],.bool (Eg p f t)])/\own 9 w.heap.size w' vo (Ei p f t).order/\B_ w w'
theorem AqZ{p f t w w'}(h:Eg p f t=false)(hb:B_ w w'):mvQ p f t w (.returned (.tuple #[.agg #[.int .i64 0,.int .i64 0,.slice none 0 0],.bool false])) w':=by unfold mvQ;rw[ZDm h,h];exact⟨_,rfl,own.nil_ _ _ _,hb⟩
theorem ZDI(v p f t w)(hv:rdP w w.heap.size v p)(mq:Eg p f t=false)(hk:Bq p=false):
 Calls Tryz.prog 97 #[v,.int .i64 f,.int .i64 t] w (mvQ p f t w):=by refine' ZXM;refine' ZLH;refine' ZC;exact ZLI
theorem ZDf(v p f t w)(hv:rdP w w.heap.size v p)(mq:Eg p f t=false)(hk:Bq p=true)(hf:(decide (0<=f)&&decide (f<=(p.order.length:Int) - 1))=false):
 Calls Tryz.prog 97 #[v,.int .i64 f,.int .i64 t] w (mvQ p f t w):=by
 refine' ZLJ;have eo:Hid (∀W:World,ya 167 #[.int .i64 f,.int .i64 0,.int .i64 (p.order.length - 1)] W (.bool false)):=fun W=>by
  have:=D0 f 0 ((p.order.length:Int) - 1) W
  rwa [show(decide (0<=f)&&decide (f<=(p.order.length:Int) - 1))=false from hf]at this
 refine' ZLH;go_wp2_with (go_at_call 167;first|(refine' ZLK;refine' ZP))
 exact ZLI
theorem ZBO(v p f t w)(hv:rdP w w.heap.size v p)(mq:Eg p f t=false)(hk:Bq p=true)(hf:(decide (0<=f)&&decide (f<=(p.order.length:Int) - 1))=true)(ht:(decide (0<=t)&&decide (t<=(p.order.length:Int) - 1))=false):
 Calls Tryz.prog 97 #[v,.int .i64 f,.int .i64 t] w (mvQ p f t w):=by
 refine' ZLJ;have eo:Hid (∀W:World,ya 167 #[.int .i64 f,.int .i64 0,.int .i64 (p.order.length - 1)] W (.bool true)):=fun W=>by
  have:=D0 f 0 ((p.order.length:Int) - 1) W
  rwa [show(decide (0<=f)&&decide (f<=(p.order.length:Int) - 1))=true from hf]at this
 have tN:Hid (∀W:World,ya 167 #[.int .i64 t,.int .i64 0,.int .i64 (p.order.length - 1)] W (.bool false)):=fun W=>by
  have:=D0 t 0 ((p.order.length:Int) - 1) W
  rwa [show(decide (0<=t)&&decide (t<=(p.order.length:Int) - 1))=false from ht]at this
 refine' ZLH;refine' ZXN;exact ZLI
theorem Ad3(v p f t w)(hv:rdP w w.heap.size v p)(hk:Bq p=true)(hf:f<p.order.length)(ht:t<p.order.length):
 Calls Tryz.prog 97 #[v,.int .i64 f,.int .i64 t] w (mvQ p f t w):=by
 refine' ZLJ;have eo:Hid (∀W:World,ya 167 #[.int .i64 (f:Int),.int .i64 0,.int .i64 (p.order.length - 1)] W (.bool true)):=fun W=>by
  have:=D0 (f:Int) 0 ((p.order.length:Int) - 1) W
  rwa [show(decide (0<=(f:Int))&&decide ((f:Int)<=(p.order.length:Int) - 1))=true from ZJy]at this
 have tN:Hid (∀W:World,ya 167 #[.int .i64 (t:Int),.int .i64 0,.int .i64 (p.order.length - 1)] W (.bool true)):=fun W=>by
  have:=D0 (t:Int) 0 ((p.order.length:Int) - 1) W
  rwa [show(decide (0<=(t:Int))&&decide ((t:Int)<=(p.order.length:Int) - 1))=true from ZJy]at this
 have d9:Hid (Eg p (f:Int) (t:Int)=true):=by show _=_;unfold Eg;rw[hk,aL (show(0:Int)<=(f:Int) by omega),aL (show(f:Int)<p.order.length by omega),aL (show(0:Int)<=(t:Int) by omega),aL (show(t:Int)<p.order.length by omega)];rfl
 have nd:Hid (Ei p (f:Int) (t:Int)=⟨p.bins,p.passes,Ju p.order f t⟩):=Ac6 d9.out;have th:Hid (Ju p.order f t=(wo p.order (f:Int)).take t++(p.order.getD f ⟨#[]⟩::(wo p.order (f:Int)).drop t)):=rfl;have lg:=aA (Az8 hf);have de:(wo p.order (f:Int)).length+1=p.order.length:=by rw[<-lg.out,aT,bJ,dV];omega
 have pR:Hid (p.order.getD f ⟨#[]⟩=p.order[f]):=by show _=_;rw[bH,aR hf];rfl
 obtain⟨A',n',c',EF,j9,gp,xw,cj⟩:=(show R_ w (.slice A0 p.order.length c0) p.order by obtain⟨vo,h1,_,_,h4⟩:=HV.out;refine' ZEq;rw[h1];exact h4)
 cases EF;have ux:Hid (∀W,B_ w W->R_ W (.slice A0 p.order.length c0) p.order):=fun W hW=>rd.on ⟨_,_,_,rfl,j9,gp,xw,cj⟩ hW
 obtain⟨bo,oo,TA,CT,pI,yx⟩:=rdA.strU cj f hf;subst TA;clear cj j9;unfold maxLen at xw;obtain⟨x,hx⟩:∃x,p.order[f]=x:=⟨_,rfl⟩;rw[hx]at pR yx pI;have JP:=aA pI;obtain⟨L,hL⟩:∃L,wo p.order (f:Int)=L:=⟨_,rfl⟩;rw[hL]at th lg de;have HL:=aA hL;clear hx hL hk;refine' ZXO;have it:=aA bv;have i6:=aA ew;have dc:=aA l1;have km:((f:Int)+1).toNat=f+1:=ZA
 have xt:(0:Int)<=(f:Int)+1:=ZA
 have lI:(f:Int)<=(c0:Int):=ZA
 have ES:(f:Int)+1<=(p.order.length:Int):=ZA
 have hi4:aD.wrap ((f:Int)+1)=(f:Int)+1:=bG _ ZA;have ud:Hid (p.order.length<=60):=jV.2;have hlenc:=gp;have hi5:(f:Int)<=(f:Int)+1:=ZA
 clear jV r0 r1 r2 f0 f1 f2
 refine' ZXN;have u0:∀W,B_ w1 W->W.cell? ⟨w.heap.size,0,none⟩=some (.int .i64 p.bins):=fun W h=>(h.cell (p:=⟨w.heap.size,0,none⟩) (Array.getElem?_eq_some_iff.1 it.out).1).trans x0
 have u1:∀W,B_ w1 W->W.cell? ⟨w.heap.size,1,none⟩=some (.int .i64 p.passes):=fun W h=>(h.cell (p:=⟨w.heap.size,1,none⟩) (Array.getElem?_eq_some_iff.1 it.out).1).trans x1
 have u2:∀W,B_ w1 W->W.cell? ⟨w.heap.size,2,none⟩=some (.slice (some ⟨bo,oo,none⟩) p.order.length c0):=fun W h=>(h.cell (p:=⟨w.heap.size,2,none⟩) (Array.getElem?_eq_some_iff.1 it.out).1).trans x2
 have yf:∀W,B_ w1 W->W.cell? ⟨bo,oo+f,none⟩=some (.string x):=fun W h=>yx W (l1.trans (h.mono l1.size))
 have II:Hid (∀W,B_ w1 W->R_ W (.slice (some ⟨bo,oo,none⟩) p.order.length c0) p.order):=fun W h=>ux.out W (l1.trans (h.mono l1.size))
 have BG:Hid (∀W,B_ w1 W->R_ W (.slice (some ⟨bo,oo,none⟩) f c0) (p.order.take f)):=fun W h=>(II.out W h).take ZA
 clear bv ew l1 lB b1 ml qO x0 x1 x2 yx;have lD:([]:List Y_).length+(p.order.take f).length<=maxLen:=by have:=ud.out;unfold maxLen;rw[cT,bJ];omega
 have lF:(([]:List Y_).length+(p.order.take f).length)*16<=140737488355328:=by have:=ud.out;rw[cT,bJ];omega
 have lC:(p.order.take f).length+(p.order.drop (f+1)).length<=maxLen:=by have:=ud.out;unfold maxLen;rw[bJ,dV];omega
 have nJ:((p.order.take f).length+(p.order.drop (f+1)).length)*16<=140737488355328:=by have:=ud.out;rw[bJ,dV];omega
 have ki:=(aF w1.heap.size w1).drew;have la:B_ w1 (w1.alloc (aB #[] 9)):=(aF w1.heap.size w1).alloc (aC _) _;have ea:own (α:=Y_) 9 w1.heap.size (w1.alloc (aB #[] 9)) (.slice (P_ w1.heap.size) 0 0) []:=own.made0 w1 _ (aC _);refine' ZLL;by_cases uh:c0=f+1
 .have xP:Hid (∀W,B_ w1 W->R_ W (.slice (some ⟨bo,oo,none⟩) 0 0) (p.order.drop (f+1))):=fun W h=>by
   have h:=(II.out W h).drop (k:=f+1) ZA
   rwa [aQ uh,uh,Nat.sub_self,show p.order.length - (f+1)=0 by omega]at h
  subst uh;refine' ZXP;refine' ZXQ;show Bu _ _ _ _ _ _ _ _ (Act.put _ (some 33) _) _
  refine' ZXR;show Bu _ _ _ _ _ _ _ _ (Act.put _ (some 34) _) _
  refine' ZXS;show Bu _ _ _ _ _ _ _ _ (Act.put _ (some 35) _) _
  refine' ZV;refine Bh (i:=4) (v:=?zv4) rfl rfl ZB ZB ZB ZB (fun _ _ _ h=>h) (aZ ⟨ZG,?zy4⟩) ZL ?zr4
  case zy4=> exact ZM
  show Bu _ _ _ _ _ _ _ _ (Act.put _ (some 36) _) _
  refine' ZXT;show Bu _ _ _ _ _ _ _ _ (Act.put _ (some 38) _) _
  refine' ZV;refine' ZXU;show Bu _ _ _ _ _ _ _ _ (Act.put _ (some 39) _) _
  refine' ZV;refine Bh (i:=8) (v:=?zv7) rfl rfl ZB ZB ZB ZB (fun _ _ _ h=>h) (aZ ⟨ZG,?zy7⟩) ZL ?zr7
  case zy7=> exact ZM
  show Bu _ _ _ _ _ _ _ _ (Act.put _ (some 40) _) _
  refine' ZV;refine Bh (i:=9) (v:=?zv8) rfl rfl ZB ZB ZB ZB (fun _ _ _ h=>h) (aZ ⟨ZG,?zy8⟩) ZL ?zr8
  case zy8=> exact ZM
  show Bu _ _ _ _ _ _ _ _ (Act.put _ (some 41) _) _
  refine' ZV;refine Bh (i:=10) (v:=?zv9) rfl rfl ZB ZB ZB ZB (fun _ _ _ h=>h) (aZ ⟨ZG,?zy9⟩) ZL ?zr9
  case zy9=> exact ZM
  refine' ZXV;have ue:∀W,B_ W3 W->W.cell? ⟨w.heap.size,2,none⟩=_:=fun W h=>u2 W (l3.trans (h.mono l3.size))
  refine' ZXW;refine Bh (i:=1) (v:=?zv10) rfl rfl ZB ZB ZB ZB (fun _ _ _ h=>h) (aZ ⟨ZG,?zy10⟩) ZL ?zr10
  case zy10=> exact ZM
  show Bu _ _ _ _ _ _ _ _ (Act.put _ (some 45) _) _
  refine' ZV;refine Bh (i:=2) (v:=?zv11) rfl rfl ZB ZB ZB ZB (fun _ _ _ h=>h) (aZ ⟨ZG,?zy11⟩) ZL ?zr11
  case zy11=> exact ZM
  show Bu _ _ _ _ _ _ _ _ (Act.put _ (some 46) _) _
  refine' ZV;refine Bh (i:=3) (v:=?zv12) rfl rfl ZB ZB ZB ZB (fun _ _ _ h=>h) (aZ ⟨ZG,?zy12⟩) ZL ?zr12
  case zy12=> exact ZM
  show Bu _ _ _ _ _ _ _ _ (Act.put _ (some 47) _) _
  refine' ZV;refine Bh (i:=5) (v:=?zv13) rfl rfl ZB ZB ZB ZB (fun _ _ _ h=>h) (aZ ⟨ZG,?zy13⟩) ZL ?zr13
  case zy13=> exact ZM
  show Bu _ _ _ _ _ _ _ _ (Act.put _ (some 49) _) _
  refine' ZV;refine Bh (i:=6) (v:=?zv14) rfl rfl ZB ZB ZB ZB (fun _ _ _ h=>h) (aZ ⟨ZG,?zy14⟩) ZL ?zr14
  case zy14=> exact ZM
  show Bu _ _ _ _ _ _ _ _ (Act.put _ (some 50) _) _
  refine' ZV;refine Bh (i:=7) (v:=?zv15) rfl rfl ZB ZB ZB ZB (fun _ _ _ h=>h) (aZ ⟨ZG,?zy15⟩) ZL ?zr15
  case zy15=> exact ZM
  refine' ZLM;refine' ZV;refine Bh (i:=8) (v:=?zv16) rfl rfl ZB ZB ZB ZB (fun _ _ _ h=>h) (aZ ⟨ZG,?zy16⟩) ZL ?zr16
  case zy16=> exact ZM
  refine' ZLN;refine' ZV;refine Bh (i:=9) (v:=?zv17) rfl rfl ZB ZB ZB ZB (fun _ _ _ h=>h) (aZ ⟨ZG,?zy17⟩) ZL ?zr17
  case zy17=> exact ZM
  refine' ZXX;refine Bi.cons rfl (fun K hK=>?_) ?_
  ·
   refine' OG;refine Bk (rs:=[4,10]) ZB ZF ?_;refine Bi.cons rfl (fun K hK=>?_) ?_
   ·
    refine' ZXY;by_cases kl:cr=t
    .refine' Vi;refine Bh (i:=0) (v:=?zv18) rfl rfl ZB ZB ZB ZB (fun _ _ _ h=>h) (aZ ⟨ZG,?zy18⟩) ZL ?zr18
     case zy18=> exact ZM
     refine' YI;refine Bh (i:=1) (v:=?zv19) rfl rfl ZB ZB ZB ZB (fun _ _ _ h=>h) (aZ ⟨ZG,?zy19⟩) ZL ?zr19
     case zy19=> exact ZM
     refine' YJ;refine Bh (i:=2) (v:=?zv20) rfl rfl ZB ZB ZB ZB (fun _ _ _ h=>h) (aZ ⟨ZG,?zy20⟩) ZL ?zr20
     case zy20=> exact ZM
     refine' YW;refine Bh (i:=3) (v:=?zv21) rfl rfl ZB ZB ZB ZB (fun _ _ _ h=>h) (aZ ⟨ZG,?zy21⟩) ZL ?zr21
     case zy21=> exact ZM
     refine' YX;refine Bh (i:=4) (v:=?zv22) rfl rfl ZB ZB ZB ZB (fun _ _ _ h=>h) (aZ ⟨ZG,?zy22⟩) ZL ?zr22
     case zy22=> exact ZM
     refine' zz;refine Bh (i:=5) (v:=?zv23) rfl rfl ZB ZB ZB ZB (fun _ _ _ h=>h) (aZ ⟨ZG,?zy23⟩) ZL ?zr23
     case zy23=> exact ZM
     refine' YK;refine Bh (i:=6) (v:=?zv24) rfl rfl ZB ZB ZB ZB (fun _ _ _ h=>h) (aZ ⟨ZG,?zy24⟩) ZL ?zr24
     case zy24=> exact ZM
     refine' YY;refine Bh (i:=7) (v:=?zv25) rfl rfl ZB ZB ZB ZB (fun _ _ _ h=>h) (aZ ⟨ZG,?zy25⟩) ZL ?zr25
     case zy25=> exact ZM
     exact YZ
    .refine' Vf;refine Bh (i:=0) (v:=?zv26) rfl rfl ZB ZB ZB ZB (fun _ _ _ h=>h) (aZ ⟨ZG,?zy26⟩) ZL ?zr26
     case zy26=> exact ZM
     refine' YI;refine Bh (i:=1) (v:=?zv27) rfl rfl ZB ZB ZB ZB (fun _ _ _ h=>h) (aZ ⟨ZG,?zy27⟩) ZL ?zr27
     case zy27=> exact ZM
     refine' YJ;refine Bh (i:=2) (v:=?zv28) rfl rfl ZB ZB ZB ZB (fun _ _ _ h=>h) (aZ ⟨ZG,?zy28⟩) ZL ?zr28
     case zy28=> exact ZM
     refine' YW;refine Bh (i:=3) (v:=?zv29) rfl rfl ZB ZB ZB ZB (fun _ _ _ h=>h) (aZ ⟨ZG,?zy29⟩) ZL ?zr29
     case zy29=> exact ZM
     refine' YX;refine Bh (i:=4) (v:=?zv30) rfl rfl ZB ZB ZB ZB (fun _ _ _ h=>h) (aZ ⟨ZG,?zy30⟩) ZL ?zr30
     case zy30=> exact ZM
     refine' zz;refine Bh (i:=5) (v:=?zv31) rfl rfl ZB ZB ZB ZB (fun _ _ _ h=>h) (aZ ⟨ZG,?zy31⟩) ZL ?zr31
     case zy31=> exact ZM
     refine' YK;refine Bh (i:=6) (v:=?zv32) rfl rfl ZB ZB ZB ZB (fun _ _ _ h=>h) (aZ ⟨ZG,?zy32⟩) ZL ?zr32
     case zy32=> exact ZM
     refine' YY;refine Bh (i:=7) (v:=?zv33) rfl rfl ZB ZB ZB ZB (fun _ _ _ h=>h) (aZ ⟨ZG,?zy33⟩) ZL ?zr33
     case zy33=> exact ZM
     exact YZ
   refine' ZXZ;by_cases kl:cr=t
   .refine' Vi;refine Bh (i:=0) (v:=?zv34) rfl rfl ZB ZB ZB ZB (fun _ _ _ h=>h) (aZ ⟨ZG,?zy34⟩) ZL ?zr34
    case zy34=> exact ZM
    refine' YI;refine Bh (i:=1) (v:=?zv35) rfl rfl ZB ZB ZB ZB (fun _ _ _ h=>h) (aZ ⟨ZG,?zy35⟩) ZL ?zr35
    case zy35=> exact ZM
    refine' YJ;refine Bh (i:=2) (v:=?zv36) rfl rfl ZB ZB ZB ZB (fun _ _ _ h=>h) (aZ ⟨ZG,?zy36⟩) ZL ?zr36
    case zy36=> exact ZM
    refine' YW;refine Bh (i:=3) (v:=?zv37) rfl rfl ZB ZB ZB ZB (fun _ _ _ h=>h) (aZ ⟨ZG,?zy37⟩) ZL ?zr37
    case zy37=> exact ZM
    refine' YX;refine Bh (i:=4) (v:=?zv38) rfl rfl ZB ZB ZB ZB (fun _ _ _ h=>h) (aZ ⟨ZG,?zy38⟩) ZL ?zr38
    case zy38=> exact ZM
    refine' zz;refine Bh (i:=5) (v:=?zv39) rfl rfl ZB ZB ZB ZB (fun _ _ _ h=>h) (aZ ⟨ZG,?zy39⟩) ZL ?zr39
    case zy39=> exact ZM
    refine' YK;refine Bh (i:=6) (v:=?zv40) rfl rfl ZB ZB ZB ZB (fun _ _ _ h=>h) (aZ ⟨ZG,?zy40⟩) ZL ?zr40
    case zy40=> exact ZM
    refine' YY;refine Bh (i:=7) (v:=?zv41) rfl rfl ZB ZB ZB ZB (fun _ _ _ h=>h) (aZ ⟨ZG,?zy41⟩) ZL ?zr41
    case zy41=> exact ZM
    exact YZ
   .refine' Vf;refine Bh (i:=0) (v:=?zv42) rfl rfl ZB ZB ZB ZB (fun _ _ _ h=>h) (aZ ⟨ZG,?zy42⟩) ZL ?zr42
    case zy42=> exact ZM
    refine' YI;refine Bh (i:=1) (v:=?zv43) rfl rfl ZB ZB ZB ZB (fun _ _ _ h=>h) (aZ ⟨ZG,?zy43⟩) ZL ?zr43
    case zy43=> exact ZM
    refine' YJ;refine Bh (i:=2) (v:=?zv44) rfl rfl ZB ZB ZB ZB (fun _ _ _ h=>h) (aZ ⟨ZG,?zy44⟩) ZL ?zr44
    case zy44=> exact ZM
    refine' YW;refine Bh (i:=3) (v:=?zv45) rfl rfl ZB ZB ZB ZB (fun _ _ _ h=>h) (aZ ⟨ZG,?zy45⟩) ZL ?zr45
    case zy45=> exact ZM
    refine' YX;refine Bh (i:=4) (v:=?zv46) rfl rfl ZB ZB ZB ZB (fun _ _ _ h=>h) (aZ ⟨ZG,?zy46⟩) ZL ?zr46
    case zy46=> exact ZM
    refine' zz;refine Bh (i:=5) (v:=?zv47) rfl rfl ZB ZB ZB ZB (fun _ _ _ h=>h) (aZ ⟨ZG,?zy47⟩) ZL ?zr47
    case zy47=> exact ZM
    refine' YK;refine Bh (i:=6) (v:=?zv48) rfl rfl ZB ZB ZB ZB (fun _ _ _ h=>h) (aZ ⟨ZG,?zy48⟩) ZL ?zr48
    case zy48=> exact ZM
    refine' YY;refine Bh (i:=7) (v:=?zv49) rfl rfl ZB ZB ZB ZB (fun _ _ _ h=>h) (aZ ⟨ZG,?zy49⟩) ZL ?zr49
    case zy49=> exact ZM
    exact YZ
  refine' ZXa;by_cases kl:cr=t
  .refine' Vi;refine Bh (i:=0) (v:=?zv50) rfl rfl ZB ZB ZB ZB (fun _ _ _ h=>h) (aZ ⟨ZG,?zy50⟩) ZL ?zr50
   case zy50=> exact ZM
   refine' YI;refine Bh (i:=1) (v:=?zv51) rfl rfl ZB ZB ZB ZB (fun _ _ _ h=>h) (aZ ⟨ZG,?zy51⟩) ZL ?zr51
   case zy51=> exact ZM
   refine' YJ;refine Bh (i:=2) (v:=?zv52) rfl rfl ZB ZB ZB ZB (fun _ _ _ h=>h) (aZ ⟨ZG,?zy52⟩) ZL ?zr52
   case zy52=> exact ZM
   refine' YW;refine Bh (i:=3) (v:=?zv53) rfl rfl ZB ZB ZB ZB (fun _ _ _ h=>h) (aZ ⟨ZG,?zy53⟩) ZL ?zr53
   case zy53=> exact ZM
   refine' YX;refine Bh (i:=4) (v:=?zv54) rfl rfl ZB ZB ZB ZB (fun _ _ _ h=>h) (aZ ⟨ZG,?zy54⟩) ZL ?zr54
   case zy54=> exact ZM
   refine' zz;refine Bh (i:=5) (v:=?zv55) rfl rfl ZB ZB ZB ZB (fun _ _ _ h=>h) (aZ ⟨ZG,?zy55⟩) ZL ?zr55
   case zy55=> exact ZM
   refine' YK;refine Bh (i:=6) (v:=?zv56) rfl rfl ZB ZB ZB ZB (fun _ _ _ h=>h) (aZ ⟨ZG,?zy56⟩) ZL ?zr56
   case zy56=> exact ZM
   refine' YY;refine Bh (i:=7) (v:=?zv57) rfl rfl ZB ZB ZB ZB (fun _ _ _ h=>h) (aZ ⟨ZG,?zy57⟩) ZL ?zr57
   case zy57=> exact ZM
   exact YZ
  .refine' Vf;refine Bh (i:=0) (v:=?zv58) rfl rfl ZB ZB ZB ZB (fun _ _ _ h=>h) (aZ ⟨ZG,?zy58⟩) ZL ?zr58
   case zy58=> exact ZM
   refine' YI;refine Bh (i:=1) (v:=?zv59) rfl rfl ZB ZB ZB ZB (fun _ _ _ h=>h) (aZ ⟨ZG,?zy59⟩) ZL ?zr59
   case zy59=> exact ZM
   refine' YJ;refine Bh (i:=2) (v:=?zv60) rfl rfl ZB ZB ZB ZB (fun _ _ _ h=>h) (aZ ⟨ZG,?zy60⟩) ZL ?zr60
   case zy60=> exact ZM
   refine' YW;refine Bh (i:=3) (v:=?zv61) rfl rfl ZB ZB ZB ZB (fun _ _ _ h=>h) (aZ ⟨ZG,?zy61⟩) ZL ?zr61
   case zy61=> exact ZM
   refine' YX;refine Bh (i:=4) (v:=?zv62) rfl rfl ZB ZB ZB ZB (fun _ _ _ h=>h) (aZ ⟨ZG,?zy62⟩) ZL ?zr62
   case zy62=> exact ZM
   refine' zz;refine Bh (i:=5) (v:=?zv63) rfl rfl ZB ZB ZB ZB (fun _ _ _ h=>h) (aZ ⟨ZG,?zy63⟩) ZL ?zr63
   case zy63=> exact ZM
   refine' YK;refine Bh (i:=6) (v:=?zv64) rfl rfl ZB ZB ZB ZB (fun _ _ _ h=>h) (aZ ⟨ZG,?zy64⟩) ZL ?zr64
   case zy64=> exact ZM
   refine' YY;refine Bh (i:=7) (v:=?zv65) rfl rfl ZB ZB ZB ZB (fun _ _ _ h=>h) (aZ ⟨ZG,?zy65⟩) ZL ?zr65
   case zy65=> exact ZM
   exact YZ
 .have xP:Hid (∀W,B_ w1 W->R_ W (.slice (some ⟨bo,oo+(f+1),none⟩) (p.order.length - (f+1)) (c0 - (f+1))) (p.order.drop (f+1))):=fun W h=>by have h:=(II.out W h).drop (k:=f+1) ZA;rw[aM uh]at h;simpa [Ii,El.size]using h
  refine' ZXP;refine Bh (i:=1) (v:=?zv66) rfl rfl ZB ZB ZB ZB (fun _ _ _ h=>h) (aZ ⟨ZG,?zy66⟩) ZL ?zr66
  case zy66=> exact ZM
  show Bu _ _ _ _ _ _ _ _ (Act.put _ (some 33) _) _
  refine' ZV;refine Bh (i:=2) (v:=?zv67) rfl rfl ZB ZB ZB ZB (fun _ _ _ h=>h) (aZ ⟨ZG,?zy67⟩) ZL ?zr67
  case zy67=> exact ZM
  show Bu _ _ _ _ _ _ _ _ (Act.put _ (some 34) _) _
  refine' ZV;refine Bh (i:=3) (v:=?zv68) rfl rfl ZB ZB ZB ZB (fun _ _ _ h=>h) (aZ ⟨ZG,?zy68⟩) ZL ?zr68
  case zy68=> exact ZM
  show Bu _ _ _ _ _ _ _ _ (Act.put _ (some 35) _) _
  refine' ZV;refine Bh (i:=4) (v:=?zv69) rfl rfl ZB ZB ZB ZB (fun _ _ _ h=>h) (aZ ⟨ZG,?zy69⟩) ZL ?zr69
  case zy69=> exact ZM
  show Bu _ _ _ _ _ _ _ _ (Act.put _ (some 36) _) _
  refine' ZV;refine Bh (i:=6) (v:=?zv70) rfl rfl ZB ZB ZB ZB (fun _ _ _ h=>h) (aZ ⟨ZG,?zy70⟩) ZL ?zr70
  case zy70=> exact ZM
  show Bu _ _ _ _ _ _ _ _ (Act.put _ (some 38) _) _
  refine' ZV;refine Bh (i:=7) (v:=?zv71) rfl rfl ZB ZB ZB ZB (fun _ _ _ h=>h) (aZ ⟨ZG,?zy71⟩) ZL ?zr71
  case zy71=> exact ZM
  show Bu _ _ _ _ _ _ _ _ (Act.put _ (some 39) _) _
  refine' ZV;refine Bh (i:=8) (v:=?zv72) rfl rfl ZB ZB ZB ZB (fun _ _ _ h=>h) (aZ ⟨ZG,?zy72⟩) ZL ?zr72
  case zy72=> exact ZM
  show Bu _ _ _ _ _ _ _ _ (Act.put _ (some 40) _) _
  refine' ZV;refine Bh (i:=9) (v:=?zv73) rfl rfl ZB ZB ZB ZB (fun _ _ _ h=>h) (aZ ⟨ZG,?zy73⟩) ZL ?zr73
  case zy73=> exact ZM
  show Bu _ _ _ _ _ _ _ _ (Act.put _ (some 41) _) _
  refine' ZV;refine Bh (i:=10) (v:=?zv74) rfl rfl ZB ZB ZB ZB (fun _ _ _ h=>h) (aZ ⟨ZG,?zy74⟩) ZL ?zr74
  case zy74=> exact ZM
  refine' ZXV;have ue:∀W,B_ W3 W->W.cell? ⟨w.heap.size,2,none⟩=_:=fun W h=>u2 W (l3.trans (h.mono l3.size))
  refine' ZXW;refine Bh (i:=1) (v:=?zv75) rfl rfl ZB ZB ZB ZB (fun _ _ _ h=>h) (aZ ⟨ZG,?zy75⟩) ZL ?zr75
  case zy75=> exact ZM
  show Bu _ _ _ _ _ _ _ _ (Act.put _ (some 45) _) _
  refine' ZV;refine Bh (i:=2) (v:=?zv76) rfl rfl ZB ZB ZB ZB (fun _ _ _ h=>h) (aZ ⟨ZG,?zy76⟩) ZL ?zr76
  case zy76=> exact ZM
  show Bu _ _ _ _ _ _ _ _ (Act.put _ (some 46) _) _
  refine' ZV;refine Bh (i:=3) (v:=?zv77) rfl rfl ZB ZB ZB ZB (fun _ _ _ h=>h) (aZ ⟨ZG,?zy77⟩) ZL ?zr77
  case zy77=> exact ZM
  show Bu _ _ _ _ _ _ _ _ (Act.put _ (some 47) _) _
  refine' ZV;refine Bh (i:=5) (v:=?zv78) rfl rfl ZB ZB ZB ZB (fun _ _ _ h=>h) (aZ ⟨ZG,?zy78⟩) ZL ?zr78
  case zy78=> exact ZM
  show Bu _ _ _ _ _ _ _ _ (Act.put _ (some 49) _) _
  refine' ZV;refine Bh (i:=6) (v:=?zv79) rfl rfl ZB ZB ZB ZB (fun _ _ _ h=>h) (aZ ⟨ZG,?zy79⟩) ZL ?zr79
  case zy79=> exact ZM
  show Bu _ _ _ _ _ _ _ _ (Act.put _ (some 50) _) _
  refine' ZV;refine Bh (i:=7) (v:=?zv80) rfl rfl ZB ZB ZB ZB (fun _ _ _ h=>h) (aZ ⟨ZG,?zy80⟩) ZL ?zr80
  case zy80=> exact ZM
  refine' ZLM;refine' ZV;refine Bh (i:=8) (v:=?zv81) rfl rfl ZB ZB ZB ZB (fun _ _ _ h=>h) (aZ ⟨ZG,?zy81⟩) ZL ?zr81
  case zy81=> exact ZM
  refine' ZLN;refine' ZV;refine Bh (i:=9) (v:=?zv82) rfl rfl ZB ZB ZB ZB (fun _ _ _ h=>h) (aZ ⟨ZG,?zy82⟩) ZL ?zr82
  case zy82=> exact ZM
  refine' ZXX;refine Bi.cons rfl (fun K hK=>?_) ?_
  ·
   refine' OG;refine Bk (rs:=[4,10]) ZB ZF ?_;refine Bi.cons rfl (fun K hK=>?_) ?_
   ·
    refine' ZXY;by_cases kl:cr=t
    .refine' Vi;refine Bh (i:=0) (v:=?zv83) rfl rfl ZB ZB ZB ZB (fun _ _ _ h=>h) (aZ ⟨ZG,?zy83⟩) ZL ?zr83
     case zy83=> exact ZM
     refine' YI;refine Bh (i:=1) (v:=?zv84) rfl rfl ZB ZB ZB ZB (fun _ _ _ h=>h) (aZ ⟨ZG,?zy84⟩) ZL ?zr84
     case zy84=> exact ZM
     refine' YJ;refine Bh (i:=2) (v:=?zv85) rfl rfl ZB ZB ZB ZB (fun _ _ _ h=>h) (aZ ⟨ZG,?zy85⟩) ZL ?zr85
     case zy85=> exact ZM
     refine' YW;refine Bh (i:=3) (v:=?zv86) rfl rfl ZB ZB ZB ZB (fun _ _ _ h=>h) (aZ ⟨ZG,?zy86⟩) ZL ?zr86
     case zy86=> exact ZM
     refine' YX;refine Bh (i:=4) (v:=?zv87) rfl rfl ZB ZB ZB ZB (fun _ _ _ h=>h) (aZ ⟨ZG,?zy87⟩) ZL ?zr87
     case zy87=> exact ZM
     refine' zz;refine Bh (i:=5) (v:=?zv88) rfl rfl ZB ZB ZB ZB (fun _ _ _ h=>h) (aZ ⟨ZG,?zy88⟩) ZL ?zr88
     case zy88=> exact ZM
     refine' YK;refine Bh (i:=6) (v:=?zv89) rfl rfl ZB ZB ZB ZB (fun _ _ _ h=>h) (aZ ⟨ZG,?zy89⟩) ZL ?zr89
     case zy89=> exact ZM
     refine' YY;refine Bh (i:=7) (v:=?zv90) rfl rfl ZB ZB ZB ZB (fun _ _ _ h=>h) (aZ ⟨ZG,?zy90⟩) ZL ?zr90
     case zy90=> exact ZM
     exact YZ
    .refine' Vf;refine Bh (i:=0) (v:=?zv91) rfl rfl ZB ZB ZB ZB (fun _ _ _ h=>h) (aZ ⟨ZG,?zy91⟩) ZL ?zr91
     case zy91=> exact ZM
     refine' YI;refine Bh (i:=1) (v:=?zv92) rfl rfl ZB ZB ZB ZB (fun _ _ _ h=>h) (aZ ⟨ZG,?zy92⟩) ZL ?zr92
     case zy92=> exact ZM
     refine' YJ;refine Bh (i:=2) (v:=?zv93) rfl rfl ZB ZB ZB ZB (fun _ _ _ h=>h) (aZ ⟨ZG,?zy93⟩) ZL ?zr93
     case zy93=> exact ZM
     refine' YW;refine Bh (i:=3) (v:=?zv94) rfl rfl ZB ZB ZB ZB (fun _ _ _ h=>h) (aZ ⟨ZG,?zy94⟩) ZL ?zr94
     case zy94=> exact ZM
     refine' YX;refine Bh (i:=4) (v:=?zv95) rfl rfl ZB ZB ZB ZB (fun _ _ _ h=>h) (aZ ⟨ZG,?zy95⟩) ZL ?zr95
     case zy95=> exact ZM
     refine' zz;refine Bh (i:=5) (v:=?zv96) rfl rfl ZB ZB ZB ZB (fun _ _ _ h=>h) (aZ ⟨ZG,?zy96⟩) ZL ?zr96
     case zy96=> exact ZM
     refine' YK;refine Bh (i:=6) (v:=?zv97) rfl rfl ZB ZB ZB ZB (fun _ _ _ h=>h) (aZ ⟨ZG,?zy97⟩) ZL ?zr97
     case zy97=> exact ZM
     refine' YY;refine Bh (i:=7) (v:=?zv98) rfl rfl ZB ZB ZB ZB (fun _ _ _ h=>h) (aZ ⟨ZG,?zy98⟩) ZL ?zr98
     case zy98=> exact ZM
     exact YZ
   refine' ZXZ;by_cases kl:cr=t
   .refine' Vi;refine Bh (i:=0) (v:=?zv99) rfl rfl ZB ZB ZB ZB (fun _ _ _ h=>h) (aZ ⟨ZG,?zy99⟩) ZL ?zr99
    case zy99=> exact ZM
    refine' YI;refine Bh (i:=1) (v:=?zv100) rfl rfl ZB ZB ZB ZB (fun _ _ _ h=>h) (aZ ⟨ZG,?zy100⟩) ZL ?zr100
    case zy100=> exact ZM
    refine' YJ;refine Bh (i:=2) (v:=?zv101) rfl rfl ZB ZB ZB ZB (fun _ _ _ h=>h) (aZ ⟨ZG,?zy101⟩) ZL ?zr101
    case zy101=> exact ZM
    refine' YW;refine Bh (i:=3) (v:=?zv102) rfl rfl ZB ZB ZB ZB (fun _ _ _ h=>h) (aZ ⟨ZG,?zy102⟩) ZL ?zr102
    case zy102=> exact ZM
    refine' YX;refine Bh (i:=4) (v:=?zv103) rfl rfl ZB ZB ZB ZB (fun _ _ _ h=>h) (aZ ⟨ZG,?zy103⟩) ZL ?zr103
    case zy103=> exact ZM
    refine' zz;refine Bh (i:=5) (v:=?zv104) rfl rfl ZB ZB ZB ZB (fun _ _ _ h=>h) (aZ ⟨ZG,?zy104⟩) ZL ?zr104
    case zy104=> exact ZM
    refine' YK;refine Bh (i:=6) (v:=?zv105) rfl rfl ZB ZB ZB ZB (fun _ _ _ h=>h) (aZ ⟨ZG,?zy105⟩) ZL ?zr105
    case zy105=> exact ZM
    refine' YY;refine Bh (i:=7) (v:=?zv106) rfl rfl ZB ZB ZB ZB (fun _ _ _ h=>h) (aZ ⟨ZG,?zy106⟩) ZL ?zr106
    case zy106=> exact ZM
    exact YZ
   .refine' Vf;refine Bh (i:=0) (v:=?zv107) rfl rfl ZB ZB ZB ZB (fun _ _ _ h=>h) (aZ ⟨ZG,?zy107⟩) ZL ?zr107
    case zy107=> exact ZM
    refine' YI;refine Bh (i:=1) (v:=?zv108) rfl rfl ZB ZB ZB ZB (fun _ _ _ h=>h) (aZ ⟨ZG,?zy108⟩) ZL ?zr108
    case zy108=> exact ZM
    refine' YJ;refine Bh (i:=2) (v:=?zv109) rfl rfl ZB ZB ZB ZB (fun _ _ _ h=>h) (aZ ⟨ZG,?zy109⟩) ZL ?zr109
    case zy109=> exact ZM
    refine' YW;refine Bh (i:=3) (v:=?zv110) rfl rfl ZB ZB ZB ZB (fun _ _ _ h=>h) (aZ ⟨ZG,?zy110⟩) ZL ?zr110
    case zy110=> exact ZM
    refine' YX;refine Bh (i:=4) (v:=?zv111) rfl rfl ZB ZB ZB ZB (fun _ _ _ h=>h) (aZ ⟨ZG,?zy111⟩) ZL ?zr111
    case zy111=> exact ZM
    refine' zz;refine Bh (i:=5) (v:=?zv112) rfl rfl ZB ZB ZB ZB (fun _ _ _ h=>h) (aZ ⟨ZG,?zy112⟩) ZL ?zr112
    case zy112=> exact ZM
    refine' YK;refine Bh (i:=6) (v:=?zv113) rfl rfl ZB ZB ZB ZB (fun _ _ _ h=>h) (aZ ⟨ZG,?zy113⟩) ZL ?zr113
    case zy113=> exact ZM
    refine' YY;refine Bh (i:=7) (v:=?zv114) rfl rfl ZB ZB ZB ZB (fun _ _ _ h=>h) (aZ ⟨ZG,?zy114⟩) ZL ?zr114
    case zy114=> exact ZM
    exact YZ
  refine' ZXa;by_cases kl:cr=t
  .refine' Vi;refine Bh (i:=0) (v:=?zv115) rfl rfl ZB ZB ZB ZB (fun _ _ _ h=>h) (aZ ⟨ZG,?zy115⟩) ZL ?zr115
   case zy115=> exact ZM
   refine' YI;refine Bh (i:=1) (v:=?zv116) rfl rfl ZB ZB ZB ZB (fun _ _ _ h=>h) (aZ ⟨ZG,?zy116⟩) ZL ?zr116
   case zy116=> exact ZM
   refine' YJ;refine Bh (i:=2) (v:=?zv117) rfl rfl ZB ZB ZB ZB (fun _ _ _ h=>h) (aZ ⟨ZG,?zy117⟩) ZL ?zr117
   case zy117=> exact ZM
   refine' YW;refine Bh (i:=3) (v:=?zv118) rfl rfl ZB ZB ZB ZB (fun _ _ _ h=>h) (aZ ⟨ZG,?zy118⟩) ZL ?zr118
   case zy118=> exact ZM
   refine' YX;refine Bh (i:=4) (v:=?zv119) rfl rfl ZB ZB ZB ZB (fun _ _ _ h=>h) (aZ ⟨ZG,?zy119⟩) ZL ?zr119
   case zy119=> exact ZM
   refine' zz;refine Bh (i:=5) (v:=?zv120) rfl rfl ZB ZB ZB ZB (fun _ _ _ h=>h) (aZ ⟨ZG,?zy120⟩) ZL ?zr120
   case zy120=> exact ZM
   refine' YK;refine Bh (i:=6) (v:=?zv121) rfl rfl ZB ZB ZB ZB (fun _ _ _ h=>h) (aZ ⟨ZG,?zy121⟩) ZL ?zr121
   case zy121=> exact ZM
   refine' YY;refine Bh (i:=7) (v:=?zv122) rfl rfl ZB ZB ZB ZB (fun _ _ _ h=>h) (aZ ⟨ZG,?zy122⟩) ZL ?zr122
   case zy122=> exact ZM
   exact YZ
  .refine' Vf;refine Bh (i:=0) (v:=?zv123) rfl rfl ZB ZB ZB ZB (fun _ _ _ h=>h) (aZ ⟨ZG,?zy123⟩) ZL ?zr123
   case zy123=> exact ZM
   refine' YI;refine Bh (i:=1) (v:=?zv124) rfl rfl ZB ZB ZB ZB (fun _ _ _ h=>h) (aZ ⟨ZG,?zy124⟩) ZL ?zr124
   case zy124=> exact ZM
   refine' YJ;refine Bh (i:=2) (v:=?zv125) rfl rfl ZB ZB ZB ZB (fun _ _ _ h=>h) (aZ ⟨ZG,?zy125⟩) ZL ?zr125
   case zy125=> exact ZM
   refine' YW;refine Bh (i:=3) (v:=?zv126) rfl rfl ZB ZB ZB ZB (fun _ _ _ h=>h) (aZ ⟨ZG,?zy126⟩) ZL ?zr126
   case zy126=> exact ZM
   refine' YX;refine Bh (i:=4) (v:=?zv127) rfl rfl ZB ZB ZB ZB (fun _ _ _ h=>h) (aZ ⟨ZG,?zy127⟩) ZL ?zr127
   case zy127=> exact ZM
   refine' zz;refine Bh (i:=5) (v:=?zv128) rfl rfl ZB ZB ZB ZB (fun _ _ _ h=>h) (aZ ⟨ZG,?zy128⟩) ZL ?zr128
   case zy128=> exact ZM
   refine' YK;refine Bh (i:=6) (v:=?zv129) rfl rfl ZB ZB ZB ZB (fun _ _ _ h=>h) (aZ ⟨ZG,?zy129⟩) ZL ?zr129
   case zy129=> exact ZM
   refine' YY;refine Bh (i:=7) (v:=?zv130) rfl rfl ZB ZB ZB ZB (fun _ _ _ h=>h) (aZ ⟨ZG,?zy130⟩) ZL ?zr130
   case zy130=> exact ZM
   exact YZ
theorem duo.set3{w W:World}{T:TypeId}{cs:Array Value}{b:Bool}(h:duo w T cs b W){g:Nat}(hg:w.heap.size+1<g)(x y z:Value):duo w T cs b (((W.setCell ⟨g,0,none⟩ x).setCell ⟨g,1,none⟩ y).setCell ⟨g,2,none⟩ z):=by
 have e:∀(W:World) (k i:Nat) (u:Value),k≠g->(W.setCell ⟨g,i,none⟩ u).heap[k]? =W.heap[k]? :=fun W k i u hk=>bQ _ _ _ _ hk
 have n1:w.heap.size≠g:=ZA
 have n2:w.heap.size+1≠g:=ZA
 have hl:w.heap.size<=g:=ZA
 refine⟨((h.lay.setCell hl x).setCell hl y).setCell hl z,?_,?_,fun hb=>?_⟩
 .rw[e _ _ _ _ n1,e _ _ _ _ n1,e _ _ _ _ n1];exact h.box
 .rw[e _ _ _ _ n2,e _ _ _ _ n2,e _ _ _ _ n2];exact h.res
 .rw[e _ _ _ _ n2,e _ _ _ _ n2,e _ _ _ _ n2];exact h.fin hb
theorem AtY{W:World}{b b':Nat}{x y z:Value}(h:b'≠b):(((W.setCell ⟨b,1,none⟩ x).setCell ⟨b,2,none⟩ y).setCell ⟨b,3,none⟩ z).heap[b']? =W.heap[b']? :=by rw[bQ _ _ _ _ h,bQ _ _ _ _ h,bQ _ _ _ _ h]
theorem mvQ.out{p:Pln}{f t:Int}{w w':World}{e:Ending}(h:mvQ p f t w e w'):∃A n c,e=.returned (.tuple #[.agg #[.int .i64 (Ei p f t).bins,.int .i64 (Ei p f t).passes,.slice A n c],.bool (Eg p f t)])/\own 9 w.heap.size w' (.slice A n c) (Ei p f t).order/\B_ w w':=by obtain⟨vo,rfl,ho,hb⟩:=h;refine' ZJU;exact⟨A,n,c,rfl,ho,hb⟩
theorem ZCB(v:Value)(p:Pln)(f t:Int)(w:World)(hv:rdP w w.heap.size v p):
 Calls Tryz.prog 97 #[v,.int .i64 f,.int .i64 t] w (mvQ p f t w):=by
 cases hk:Bq p
 .exact ZDI v p f t w hv (by unfold Eg;rw[hk];rfl) hk
 cases hf:(decide (0<=f)&&decide (f<=(p.order.length:Int) - 1))
 .refine ZDf v p f t w hv ?_ hk hf
  unfold Eg;rw[show decide (f<(p.order.length:Int))=decide (f<=(p.order.length:Int) - 1) by exact Ud,hf,hk];rfl
 cases ht:(decide (0<=t)&&decide (t<=(p.order.length:Int) - 1))
 .refine ZBO v p f t w hv ?_ hk hf ht
  unfold Eg;rw[show decide (t<(p.order.length:Int))=decide (t<=(p.order.length:Int) - 1) by exact Ud,ht];simp
 .rw[aO,bD,bD]at hf ht
  obtain⟨f,rfl⟩:=aK hf.1;obtain⟨t,rfl⟩:=aK ht.1;exact Ad3 v p f t w hv hk ZA ZA
end Go.Proofs.YtfadhdacjpmmeaaGreatDoor
