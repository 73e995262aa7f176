/- Parts. -/
import Derived.Test.YtfadhdacjpmmeaaGreatDoorU16a
set_option linter.unusedVariables false
set_option linter.unusedSimpArgs false
set_option maxRecDepth 100000
set_option maxHeartbeats 16000000
open Go.Proofs.Tryz
open Go renaming madeCells->bF
open Go.IntKind renaming i64->aD
open Go.Obj renaming cells->aB
open Go.Value renaming string->aG,int->aH
namespace Go.Proofs.YtfadhdacjpmmeaaGreatDoor
open Go.RowKit
attribute [local go_sem] Oper.semAt_some
open Go.Sort
theorem AdT(v xss w)(hv:R_ w v xss)(hn:xss.length<=60)(ht:∀t∈xss,1<=t.length/\t.length<=20)(hb:z_ xss.flatten=true):
 C_ 85 #[v,.int .i64 20] w (.bool true):=by
 have hl6:=Cq hb;refine' zR;refine' ZHf;have HT:=aA ht;refine' eP;clear ht hb;have lh:(xss.length:Int)<=60:=ZA
 have me:Hid (∀W:World,ya 92 #[.int .i64 20] W (.bool true)):=fun W=>Nm 20 W
 go_enter func85,ntmps85
 refine' ZC;go_loop[5] (fun i=>∃k:Nat,k<=xss.length/\i=.int .i64 k) (fun i=>xss.length - (intOf i).toNat)
 case atStart=>exact⟨0,aN _,rfl⟩
 case round=>
  obtain⟨k,hk,rfl⟩:=hrel;by_cases ab:k<xss.length
  .refine' V6;have c1:=c1 w (aF _ _);obtain⟨t1,t2⟩:=HT.out _ (aS ab);refine' ZEo;subst nD;clear fh;refine' Ry;refine' zQ;have rj:Hid (∀W:World,ya 167 #[.int .i64 (ys.length:Int),.int .i64 1,.int .i64 20] W (.bool true)):=fun W=>by have:=D0 (ys.length:Int) 1 20 W;rw[aL (show(1:Int)<=(ys.length:Int) by omega),aL (show(ys.length:Int)<=20 by omega)]at this;exact this
   go_wp2_with (refine' ZGs)
   go_round
   case rel=>exact⟨k+1,ZA,ZJ⟩
   case measure=>exact ZK
  .have bd:¬(k:Int)<(xss.length:Int):=ZA
   have JX:=aA (Im _ xss w HV.out ZA)
   go_wp2_with (first|(go_at_call 92;refine(me.out _).mono ?_;refine' ZP)|(go_at_call 75;refine JX.out.mono ?_;refine' Y4;have rR:=aA (C6 _ xss.flatten w2 o2.rd);rw[HB.out]at rR;refine' ZJR)|(go_at_call 69;refine rR.out.mono ?_;refine' zB))
   have l3:=Aa b2 b3;go_ret;exact⟨rfl,l3⟩
theorem AlT(v xs w)(hv:R_ w v xs)(h0:xs.length≠0)(ag:z_ xs=true):
 C_ 86 #[v] w (.string (jC xs)):=by
 refine' ZR2;have tV:(0:Int)<=(m:Int):=ZA
 refine' ZR3;go_enter func86,ntmps86
 go_wp2_with (go_at_call 69;refine(C6 _ xs _ HV.out).mono ?_;rw[HO.out];refine' ZU)
 have d1:=sk.out w1 b1;have d2:=lJ.out w1 b1;simp only[fG,bV,dF]at d1
 go_quiet (fail)
 refine' ZI;exact⟨B8 HL.out.symm,Ba b1 _⟩
def Ti(xss:List (List Ltr))(k:Nat):Y_:=Cg ((xss.map Ih).take k) y7
theorem Ac2(v xss w)(hv:R_ w v xss)(hk:Vr xss):
 C_ 37 #[v] w (.string (Qq xss)):=by
 refine' zR;have XV:=aA (AdT v xss w hv hk.1 hk.2.1 hk.2.2);have lh:=hk.1;refine' gV;refine' Tu;have cn:Hid ((xss.map Ih).length=xss.length):=Y8
 have me:Hid (∀k,(Ti xss k).size<=1260):=fun k=>by
  have h1:=Dw ((xss.map Ih).take k) y7 20 fun p hp=>(M3 HK.out p (eA hp)).1
  have h2:((xss.map Ih).take k).length*(20+y7.size)<=60*21:=bY (by rw[bJ,cn.out];omega) (aC _);unfold Ti;omega
 have HF:Hid ((if(Ti xss xss.length).size=0 then⟨#[45]⟩else Ti xss xss.length)=Qq xss):=by
  show _=_;have h:=ZAi (xss.map Ih) fun p hp=>(M3 HK.out p hp).2
  unfold Ti;rw[bB Za,h];unfold Cb Qq;rw[cn.out]
 clear hk;go_enter func37,ntmps37
 refine' ZC;refine XV.out.mono ?_;rintro e w1 ⟨rfl,l1⟩
 refine' ZC;go_loopw[3,4] (fun t i wr=>∃k:Nat,k<=xss.length/\i=.int .i64 k/\t=.string (Ti xss k)/\B_ w wr) (fun _ i _=>xss.length - (intOf i).toNat)
 case atStart=>exact⟨0,aN _,rfl,by unfold Ti;rw[dH,Km],l1⟩
 case round=>
  refine' Qv;by_cases ab:k<xss.length
  .refine' V6;obtain⟨t1,t2,t3⟩:=HK.out.each _ (aS ab);have tq:k<(xss.map Ih).length:=za
   have hgm:(xss.map Ih)[k]=Ih xss[k]:=ZF
   have uQ:Hid (k=0->Ti xss (k+1)=Ih xss[k]):=fun h=>by{unfold Ti;rw[aJ tq,hgm];subst h;rw[dH,bT,Kp]};have lm:Hid (0<k->Ti xss (k+1)=Ti xss k++y7++Ih xss[k]):=fun h=>by{unfold Ti;rw[aJ tq,hgm,G5];intro e;have:=aU List.length e;rw[bJ,cn.out,cT]at this;omega};have HZ:Hid (k=0->Ti xss k=⟨#[]⟩):=fun h=>by{subst h;unfold Ti;rw[dH,Km]};have ev:=me.out k;refine' ZR4;have mP:Hid (∀W,B_ w W->Calls Tryz.prog 86 #[u] W fun e W'=>e=.returned (.string (jC xss[k]))/\B_ w W'):=fun W hW=>
    (AlT u xss[k] W (hu.on hW) t1 t3).mono fun e W' h=>⟨h.1,hW.trans (h.2.mono hW.size)⟩
   have tJ:Hid (∀W,B_ w W->Calls Tryz.prog 28 #[.int .i64 (xss[k].length:Int)] W fun e W'=>e=.returned (.string (Cl xss[k].length))/\B_ w W'):=fun W hW=>
    (Hy xss[k].length W ZA).mono fun e W' h=>⟨h.1,hW.trans (h.2.mono hW.size)⟩
   have sl:=eS (AbY t1 t3);have sd:=(C9 (n:=xss[k].length) ZA).1;obtain⟨Au,nu,cu,rfl,XW,_,_,_⟩:=hu;subst XW;obtain⟨P,hP⟩:∃P,Ti xss k=P:=⟨_,rfl⟩;obtain⟨N,hN⟩:∃P,Ti xss (k+1)=P:=⟨_,rfl⟩;rw[hP]at lm HZ ev⊢;rw[hN]at lm uQ;have HN:=aA hN;generalize jC xss[k]=lb at *;generalize Cl xss[k].length=dl at *;generalize Ih xss[k]=pt at *;generalize xss[k].length=tl at *;clear hP hN hgm tq;refine' Ry;refine' zQ;have ld:=Ag lr;by_cases fp:k=0
   .subst fp
    simp only[fG,bV,dF]at c1;have mJ:Hid (P++lb++⟨#[58]⟩++dl=N):=by{show _=_;rw[uQ.out rfl,kJ.out,HZ.out rfl];apply Cv;simp};clear bd et;have bd:(0:Int)<(xss.length:Int):=ZA
    refine' ZXK;refine' ZC;refine' ZXL;all_goals
     refine' ZC;go_roundw
     case rel=>exact⟨0+1,ZA,ZJ,ZGo,by first|exact l4|exact l3⟩
     case measure=>exact ZK
   .refine' ZFD;have mJ:Hid (P++⟨#[32]⟩++lb++⟨#[58]⟩++dl=N):=by{show _=_;rw[lm.out ZA,kJ.out];apply Cv;simp[y7]};have QK:(P++(⟨#[32]⟩:Y_)).size<=1261:=Wp
    refine' ZC;generalize P++(⟨#[32]⟩:Y_)=P at *;refine' ZXK;refine' ZXL;all_goals
     refine' ZC;go_roundw
     case rel=>exact⟨k+1,ZA,ZJ,ZGo,by first|exact l4|exact l3⟩
     case measure=>exact ZK
  .refine' Rw;have bd:¬(k:Int)<(xss.length:Int):=ZA
   have ui:Hid ((if(Ti xss k).size=0 then⟨#[45]⟩else Ti xss k)=Qq xss):=by{show _=_;rw[HE.out];exact HF.out};generalize Ti xss k=P at *;refine' ZGp;rw[ui.out]at HD
   refine' ZC;refine(HD.out _).mono ?_;refine' Tn;exact⟨rfl,lr⟩
theorem Am0{n b w W}(h:Below n w W)(hb:n<=b)(x0 x1 x2 x3 x4 x5 x6 x7):Below n w ((((((((W.setCell ⟨b,0,none⟩ x0).setCell ⟨b,1,none⟩ x1).setCell ⟨b,2,none⟩ x2).setCell ⟨b,3,none⟩ x3).setCell ⟨b,4,none⟩ x4).setCell ⟨b,5,none⟩ x5).setCell ⟨b,6,none⟩ x6).setCell ⟨b,7,none⟩ x7):=
 (((((((h.setCell hb x0).setCell hb x1).setCell hb x2).setCell hb x3).setCell hb x4).setCell hb x5).setCell hb x6).setCell hb x7
theorem Bs.fin{R:Nat->Prop}{vL vO vF vH vN x0 x1 x2 x3 x4 x5 x6 x7 s' a w W}(hS:stN (cut R w.heap.size (w.heap.size+2)) W vL vO vF vH vN s')(hl:B_ w W):
 Bs R s' a w (.returned (.tuple #[y5 vL vO vF vH vN s',.string (Em a)])) ((((((((W.setCell ⟨w.heap.size+1,0,none⟩ x0).setCell ⟨w.heap.size+1,1,none⟩ x1).setCell ⟨w.heap.size+1,2,none⟩ x2).setCell ⟨w.heap.size+1,3,none⟩ x3).setCell ⟨w.heap.size+1,4,none⟩ x4).setCell ⟨w.heap.size+1,5,none⟩ x5).setCell ⟨w.heap.size+1,6,none⟩ x6).setCell ⟨w.heap.size+1,7,none⟩ x7):=
 Bs.of hS ZA (Ct.set8 _ _ _ _ _ _ _ _ _ _ _ _ _ ZA ZA) (Am0 hl ZA _ _ _ _ _ _ _ _)
theorem Bs.out{R:Nat->Prop}{s a w w' e}(h:Bs R s a w e w'):∃AL cL AO cO AF cF AH cH AN cN,e=.returned (.tuple #[.agg (y_ s AL cL AO cO AF cF AH cH AN cN),.string (Em a)])/\stN (plus R w.heap.size) w' (.slice AL s.letters.length cL) (.slice AO s.day.plan.order.length cO) (.slice AF s.day.fwds.length cF) (.slice AH s.day.held.length cH) (.slice AN s.net.length cN) s/\B_ w w':=by obtain⟨vL,vO,vF,vH,vN,rfl,hS,hb⟩:=h;refine' Xq;exact⟨AL,cL,AO,cO,AF,cF,AH,cH,AN,cN,rfl,hS,hb⟩
theorem ZEJ{R:Nat->Prop}{n m p w vL vO vF vH vN s}(h:stN (plus (cut R n m) p) w vL vO vF vH vN s)(hp:m<=p):stN (cut R n m) w vL vO vF vH vN s:=
 h.mono fun k _ hk=>hk.elim id fun h2=>.inr (aI hp h2)
theorem AzW(R:Nat->Prop)(vL vO vF vH vN s w)(hS:stN R w vL vO vF vH vN s)(ag:z_ s.letters=true)(hp:1<=(Co (E9 s.letters)).size):
 Calls Tryz.prog 11 #[y5 vL vO vF vH vN s,.string Mf] w (Bs R {s with letters:=E9 s.letters} (Co (E9 s.letters)) w):=by
 refine' zM;show Calls Tryz.prog _ #[.agg (y_ s AL cL AO cO AF cF AH cH AN cN),.string Mf] w _;refine' Nd;have HC:Hid (∀W,B_ w W->Calls Tryz.prog 24 #[.slice AL s.letters.length cL] W fun e w'=>∃v',e=.returned (.tuple #[v',.bool true])/\own 119 W.heap.size w' v' (E9 s.letters)/\B_ W w'):=fun W hW=>AhF _ s.letters W (hS.l.rd.on hW) ag
 have HM:Hid (∀(v:Value) W,B_ w W->rdN (cut R w.heap.size (w.heap.size+2)) W v (E9 s.letters)->Calls Tryz.prog 25 #[.agg (y_ s AL cL AO cO AF cF AH cH AN cN),v,.bool true] W (Bs (cut R w.heap.size (w.heap.size+2)) {s with letters:=E9 s.letters} (Co (E9 s.letters)) W)):=fun v W hW hv=>AeO _ _ _ _ _ _ v s _ W (hS.cut hW) hv hp
 refine' Zq;clear hS ag hp;generalize E9 s.letters=xs at *;refine' ZWC;refine' YF;go_wp2_with (go_at_call 24;refine' ZGu;refine' Vb;refine' V_;have ar:=k1.lt;have R5:=aA (rdN.of_own (R:=cut R w.heap.size (w.heap.size+2)) o5 fun k hk=>.inr ZA);obtain⟨A5,n5,c5,rfl, -, -, -, -⟩:=o5.rd;clear o5 ah)
 exact ZLT
theorem rdN.nil_{α:Type}[El α]{R:Nat->Prop}{w}:rdN R w (.slice none 0 0) ([]:List α):=fun _ _=>Go.Proofs.YtfadhdacjpmmeaaGreatDoor.rd.nil_
theorem AlD(w W1 W2 W3 W4 box)(T TO:TypeId)(TS TR:TypeId)(h1:W1=w.alloc (.cells box T))(h2:W2=W1.alloc (.cells #[.string ⟨#[48,48,48,48,48,48,48]⟩] TS))(h3:W3=W2.alloc (.cells #[] TR))(h4:W4=W3.alloc (.cells #[.string ⟨#[97]⟩,.slice (some ⟨w.heap.size+1+1,0,none⟩) 0 0] TO)):
 W4.heap[w.heap.size]? =some (.cells box T (0,0))/\R_ W4 (.slice (some ⟨w.heap.size+1,0,none⟩) 1 1) [(⟨#[48,48,48,48,48,48,48]⟩:Y_)]/\R_ W4 (.slice (some ⟨w.heap.size+1+1+1,0,none⟩) 1 1) [(⟨⟨#[97]⟩,[]⟩:Ofc)]/\B_ w W4:=by
 have z1:W1.heap.size=w.heap.size+1:=by rw[h1];simp
 have z2:W2.heap.size=w.heap.size+1+1:=by rw[h2,<-z1];simp
 have z3:W3.heap.size=w.heap.size+1+1+1:=by rw[h3,<-z2];simp
 have z4:W4.heap.size=w.heap.size+1+1+1+1:=by rw[h4,<-z3];simp
 have JN:B_ W1 W2:=by rw[h2];exact Zs
 have l23:B_ W2 W3:=by rw[h3];exact Zs
 have l34:B_ W3 W4:=by rw[h4];exact Zs
 have IM:B_ w W1:=by rw[h1];exact Zs
 have l24:B_ W2 W4:=l23.trans (l34.mono l23.size);have l14:B_ W1 W4:=JN.trans (l24.mono JN.size);refine⟨?_,?_,?_,IM.trans (l14.mono IM.size)⟩
 .rw[l14.block w.heap.size ZA,h1]
  exact X1
 .have o:own (α:=Y_) TS 0 W2 (.slice (P_ W1.heap.size) 1 1) [(⟨#[48,48,48,48,48,48,48]⟩:Y_)]:=by rw[h2];exact own.made1 (α:=Y_) W1 TS [.string ⟨#[48,48,48,48,48,48,48]⟩] ⟨#[48,48,48,48,48,48,48]⟩ ⟨ZE,rfl⟩ (aN _)
  rw[z1]at o;exact o.rd.on l24
 .have hb:W4.heap[w.heap.size+1+1+1]? =some (.cells #[.string ⟨#[97]⟩,.slice (some ⟨w.heap.size+1+1,0,none⟩) 0 0] TO (0,0)):=by have:=bC W3 (.cells #[.string ⟨#[97]⟩,.slice (some ⟨w.heap.size+1+1,0,none⟩) 0 0] TO);rw[<-h4,z3]at this;exact this
  refine⟨_,1,1,rfl,rfl,aC _,ZE,fun k hk=>?_⟩;have fp:k=0:=by simp at hk;exact hk
  subst fp;refine⟨w.heap.size+1+1+1,0,[.string ⟨#[97]⟩,.slice (some ⟨w.heap.size+1+1,0,none⟩) 0 0],rfl,ZA,⟨by show(⟨#[97]⟩:Y_).size<=maxLen;decide,_,rfl,⟨_,0,0,rfl,rfl,aC _,ZE,rdA.nil_⟩⟩,fun j u hu=>?_⟩;rw[eG _ _ _ _ _ _ hb];simpa using hu
theorem AlW(w):
 Calls Tryz.prog 8 #[] w fun e w'=>∃AL cL AO cO AF cF AH cH AN cN,e=.returned (.agg (y_ I5 AL cL AO cO AF cF AH cH AN cN))/\stN (fun _=>True) w' (.slice AL I5.letters.length cL) (.slice AO I5.day.plan.order.length cO) (.slice AF I5.day.fwds.length cF) (.slice AH I5.day.held.length cH) (.slice AN I5.net.length cN) I5/\B_ w w':=by
 go_enter func8,ntmps8
 refine' ZC;obtain⟨W1,h1⟩:∃u,u=w.alloc (aB #[.slice none 0 0,.int .i64 4,.int .i64 2,.slice (some ⟨w.heap.size+1,0,none⟩) 1 1,.slice none 0 0,.slice none 0 0,.int .i64 10,.slice (some ⟨w.heap.size+1+1+1,0,none⟩) 1 1] 36):=⟨_,rfl⟩;obtain⟨W2,h2⟩:∃u,u=W1.alloc (aB #[.string ⟨#[48,48,48,48,48,48,48]⟩] 9):=⟨_,rfl⟩;obtain⟨W3,h3⟩:∃u,u=W2.alloc (aB #[] 181):=⟨_,rfl⟩;obtain⟨W4,h4⟩:∃u,u=W3.alloc (aB #[.string ⟨#[97]⟩,.slice (some ⟨w.heap.size+1+1,0,none⟩) 0 0] 45):=⟨_,rfl⟩;rw[<-h1,<-h2,<-h3,<-h4];obtain⟨hb,ro,rn,lb⟩:=AlD w W1 W2 W3 W4 _ _ _ _ _ h1 h2 h3 h4;refine AzM rfl rfl hb gK rfl Tryz.sizeSt rfl ?_;exact⟨none,0,_,1,none,0,none,0,_,1,rfl,⟨rdN.nil_,rdN.of_rd ro fun _ _=>trivial,rdN.nil_,rdN.nil_,rdN.of_rd rn fun _ _=>trivial⟩,lb⟩
def AyZ:Y_:=⟨#[45,49]⟩
theorem AiT(w):C_ 28 #[.int .i64 (-1)] w (.string AyZ):=by
 have HD:Hid (∀W,C_ 28 #[.int .i64 1] W (.string ⟨#[49]⟩)):=fun W=>by
  have:=Hy 1 W ZA
  rwa [show Cl 1=⟨#[49]⟩ by exact ZR]at this
 go_enter func28,ntmps28
 go_wp2_with (go_at_call 28;refine(HD.out _).mono ?_;refine' ZU)
 go_ret;exact⟨rfl,b1⟩
def jL(n:Int):Y_:=if 0<=n then Cl n.toNat else AyZ
theorem Ji(n w)(h0: -1<=n)(h1:n<=9999):C_ 28 #[.int .i64 n] w (.string (jL n)):=by
 by_cases h:0<=n
 .obtain⟨k,rfl⟩:=aK h
  unfold jL;rw[aQ h];exact Hy k w ZA
 .have:n= -1:=ZA
  subst this;exact AiT w
theorem Ap7(n)(h0: -1<=n):Em (if decide (0<=n)then jL n else⟨#[]⟩)=Em (G1 n):=by
 by_cases h:0<=n
 .rw[aQ (aL h),(Ag9 h).1]
  unfold jL;rw[aQ h]
 .have:n= -1:=ZA
  subst this;rfl
theorem AhZ{n}(h:0<=n):jL n=G1 n:=by unfold jL;rw[aQ h,(Ag9 h).1]
theorem BdF(n)(h1:n<=9999):1<=(jL n).size/\(jL n).size<=20:=by
 unfold jL
 split
 .rename_i h
  have:=AgQ n.toNat;refine⟨this,?_⟩;have h2:=(C9 (n:=n.toNat) ZA).1;omega
 .decide
theorem AfI(v)(ns:List Nat)(w)(hv:R_ w v (ns.map fun n:Nat=>(n:Int)))(hl:ns.length<=1000)(hb:∀n∈ns,n<=9999):
 C_ 105 #[v] w (.string (Cb (ns.map Cl))):=by
 refine' zl;rw[bI]at hn;subst hn;refine' Yi;refine' eP;clear hb;have hp:∀p∈ns.map Cl,1<=p.size/\p.size<=1000:=fun p hp=>by obtain⟨k,hk,rfl⟩:=List.mem_map.1 hp;have h1:=AgQ k;have h2:=(C9 (n:=k) (by have:=HB.out k hk;omega)).1;omega
 have uD:=aA (fun(v:Value) (W:World) (h:R_ W v (ns.map Cl))=>Fn v (ns.map Cl) W h hp U8);have cn:Hid ((ns.map Cl).length=ns.length):=bI _;have ut:=aA hp;clear hp;obtain⟨w0,ac⟩:∃u,u=w.alloc (aB #[] 9):=⟨_,rfl⟩;have o0:own (α:=Y_) 9 w.heap.size w0 (.slice (P_ w.heap.size) 0 0) []:=by rw[ac];exact own.made0 w _ (aC _)
 have l0:B_ w w0:=by rw[ac];exact Zs
 refine' zT;clear ac;refine' zc;go_enter func105,ntmps105
 refine' zG;go_loopw[3,4] (fun t i wr=>∃j:Nat,j<=ns.length/\i=.int .i64 j/\B_ w wr/\own 9 w.heap.size wr t ((ns.map Cl).take j)) (fun _ i _=>ns.length - (intOf i).toNat)
 case atStart=>exact⟨0,aN _,rfl,l0,by rw[dH];exact o0⟩
 case round=>
  obtain⟨j,hj,rfl,lr,ho⟩:=hrel;refine' zO;clear l0 o0;by_cases ab:j<ns.length
  .obtain⟨b,o,rfl,hb,XU,y1⟩:=rdA.intU HR.out j (by refine' ze;exact ab)
   rw[fD]at y1;have y2:=y1 w2 lr;have nt:Hid ((ns.map Cl).take (j+1)=(ns.map Cl).take j++[Cl ns[j]]):=by{show _=_;rw[aJ za,fD]};have UN:=HB.out _ (aS ab);have tI:=ut.out _ (List.mem_map.2 ⟨_,aS ab,rfl⟩);generalize ns[j]=k at *;have tJ:=aA (Hy k w2 ZA);generalize Cl k=x at *;have SC:x.size<=maxLen:=ZN
   have jV:((ns.map Cl).take j).length<=1000:=zF
   generalize(ns.map Cl).take j=D at *;refine' ZK8;have ly:(j:Int)<(ns.length:Int):=ZA
   refine' ZGE;clear ho XU y1
   refine' ZC;refine tJ.out.mono ?_;refine' zB;have l3:=lr.trans (b3.mono lr.size);have mQ:=l3.size;have ez:=aA (HO.out.below b3);have L3:=aA l3;clear b3 l3 lr y2
   go_wp2_with (at_builtin;refine An (α:=Y_) rfl (.tmp 12) (.tmp 18) 28 rfl w.heap.size 9 i0 _ 16 aW hi ah ar ap rfl ZE (.slice Ad D.length cd) D x rfl (ez.out.alloc _) ⟨w3.heap.size,0,none⟩ 1 [.string x] rfl ⟨SC,rfl⟩ (Bz w3 _ [.string x]) ZN ZA ZH ?_;refine' zH)
   have l5:B_ w w5:=(L3.out.alloc L3.out.size (aB #[.string x] 9)).grown aj ZH fun r e=>(ez.out.blk r e).1
   refine' Xz;clear cg aj cy
   go_roundw
   case rel=>exact⟨j+1,ZA,ZJ,l5,by rw[nt.out];exact iu.out⟩
   case measure=>exact ZK
  .have LL:Hid ((ns.map Cl).take j=ns.map Cl):=bB Uq
   have ly:¬(j:Int)<(ns.length:Int):=ZA
   rw[LL.out]at ho;have yS:=aA (uD.out _ w2 ho.rd);refine' ZK9;clear ho
   refine' ZC;refine yS.out.mono ?_;refine' Tn;exact⟨rfl,lr⟩
theorem Aj4(ns:List Nat)(hl:ns.length<=1000)(hb:∀n∈ns,n<=9999):1<=(Cb (ns.map Cl)).size/\(Cb (ns.map Cl)).size<=10000:=by
 have hp:∀p∈ns.map Cl,1<=p.size/\p.size<=4:=fun p hp=>by obtain⟨k,hk,rfl⟩:=List.mem_map.1 hp;have h2:=C9 (n:=k) (hb k hk);omega
 refine⟨Q6 fun p h=>(hp p h).1,?_⟩;have h:(Cg (ns.map Cl) y7).size<=(ns.map Cl).length*5:=Dw (ns.map Cl) y7 4 fun p h=>(hp p h).2
 rw[bI]at h;unfold Cb
 split
 .decide
 .omega
theorem AyU(R:Nat->Prop)(vL vO vF vH vN s w)(hS:stN R w vL vO vF vH vN s)(hp:1<=(G1 (F5 s.day.plan s.letters)).size)(hi:Bj s.day.plan.bins/\Bj s.day.plan.passes)(h0:0<=F5 s.day.plan s.letters)(h1:F5 s.day.plan s.letters<=9999)(hl:s.letters.length<=1000):
 Calls Tryz.prog 11 #[y5 vL vO vF vH vN s,.string Gd] w (Bs R s (G1 (F5 s.day.plan s.letters)) w):=by
 refine' zM;show Calls Tryz.prog _ #[.agg (y_ s AL cL AO cO AF cF AH cH AN cN),.string Gd] w _;refine' Xs;refine' Vc;have HC:Hid (∀W,B_ w W->C_ 29 #[.agg #[.int .i64 s.day.plan.bins,.int .i64 s.day.plan.passes,.slice AO s.day.plan.order.length cO],.slice AL s.letters.length cL] W (.int .i64 (F5 s.day.plan s.letters))):=fun W hW=>AaX _ _ s.day.plan s.letters W (pU.on hW) (hS.l.rd.on hW) ZA
 have HD:Hid (∀W,B_ w W->C_ 28 #[.int .i64 (F5 s.day.plan s.letters)] W (.string (G1 (F5 s.day.plan s.letters)))):=fun W hW=>by
  have:=Ji (F5 s.day.plan s.letters) W ZA h1
  rwa [AhZ h0]at this
 have hz:=H9 ZA h1;refine' Xr;clear hS hi pU h0 h1 hl;generalize G1 (F5 s.day.plan s.letters)=F at *;generalize F5 s.day.plan s.letters=n at *;refine' YE;refine' ZRl;have eu:(Gd.toList==[112,108,97,110])=false:=ZD
 have fw:(Gd.toList==[115,101,113,117,101,110,99,101])=false:=ZD
 refine' ZRm;refine' YF;go_region_law (first|(go_simp;go_at_call 29;refine' ZLP)|(go_simp;refine' ZXf;refine' ZLQ)|fail)
 all_goals have HF:=aA (duo.set8 (Lg sX.out k2));exact ZGt
theorem ArW(R:Nat->Prop)(vL vO vF vH vN s w)(hS:stN R w vL vO vF vH vN s)(hp:1<=(Cb (N2 s.day.fwds)).size)(hk:Be s.day.fwds=true)(hq:∀p∈N2 s.day.fwds,1<=p.size/\p.size<=1000)(hl:(N2 s.day.fwds).length<=1000)(hz:(Cb (N2 s.day.fwds)).size<=4000000000):
 Calls Tryz.prog 11 #[y5 vL vO vF vH vN s,.string Db] w (Bs R s (Cb (N2 s.day.fwds)) w):=by
 refine' zM;show Calls Tryz.prog _ #[.agg (y_ s AL cL AO cO AF cF AH cH AN cN),.string Db] w _;refine' Xs;have HC:Hid (∀W,B_ w W->Calls Tryz.prog 32 #[.slice AF s.day.fwds.length cF] W fun e w'=>∃v',e=.returned v'/\own 9 W.heap.size w' v' (N2 s.day.fwds)/\B_ W w'):=fun W hW=>AaS _ s.day.fwds W (hS.f.rd.on hW) hk
 have HD:Hid (∀(v:Value) W,R_ W v (N2 s.day.fwds)->C_ 31 #[v] W (.string (Cb (N2 s.day.fwds)))):=fun v W h=>by refine(Fn v _ W h hq ZA).mono ?_;refine' ZP;exact zv
 refine' Xr;clear hS hk hq hl;generalize Cb (N2 s.day.fwds)=F at *;generalize N2 s.day.fwds=L at *;refine' YE;refine' ZR6;have eu:(Db.toList==[112,108,97,110])=false:=ZD
 have fw:(Db.toList==[115,101,113,117,101,110,99,101])=false:=ZD
 have iq:(Db.toList==[109,111,118,101,100])=false:=ZD
 have jz:(Db.toList==[102,111,114,119,97,114,100,115])=false:=ZD
 refine' ZR7;refine' YF;go_region_law (first|(go_simp;go_at_call 32;refine' Ny;refine' Vb;have k1:=aq.below z1;have R5:=aA o5.rd;clear o5)|(go_simp;go_at_call 31;(with_reducible refine(HD.out _ _ R5.out).mono ?_);refine' gY;have k2:=k1.below z2;refine' ZLQ)|fail)
 all_goals have HF:=aA (duo.set8 (Lg sX.out k2));exact ZGt
theorem BaE(R:Nat->Prop)(vL vO vF vH vN s w)(hS:stN R w vL vO vF vH vN s)(hp:1<=(G1 (Gy (z_ s.letters) (sL s.letters))++⟨#[32]⟩++G1 (Gy (z_ s.letters) (m_ s.letters))).size)(h0:0<=Gy (z_ s.letters) (sL s.letters))(h1:Gy (z_ s.letters) (sL s.letters)<=9999)(g0:0<=Gy (z_ s.letters) (m_ s.letters))(g1:Gy (z_ s.letters) (m_ s.letters)<=9999):
 Calls Tryz.prog 11 #[y5 vL vO vF vH vN s,.string F4] w (Bs R s (G1 (Gy (z_ s.letters) (sL s.letters))++⟨#[32]⟩++G1 (Gy (z_ s.letters) (m_ s.letters))) w):=by
 refine' zM;show Calls Tryz.prog _ #[.agg (y_ s AL cL AO cO AF cF AH cH AN cN),.string F4] w _;refine' Xs;have HC:Hid (∀W,B_ w W->C_ 39 #[.slice AL s.letters.length cL] W (.int .i64 (Gy (z_ s.letters) (sL s.letters)))):=fun W hW=>ApI _ s.letters W (hS.l.rd.on hW)
 have HD:Hid (∀W,B_ w W->C_ 28 #[.int .i64 (Gy (z_ s.letters) (sL s.letters))] W (.string (G1 (Gy (z_ s.letters) (sL s.letters))))):=fun W hW=>by
  have:=Ji (Gy (z_ s.letters) (sL s.letters)) W ZA h1
  rwa [AhZ h0]at this
 have lJ:Hid (∀W,B_ w W->C_ 40 #[.slice AL s.letters.length cL] W (.int .i64 (Gy (z_ s.letters) (m_ s.letters)))):=fun W hW=>AfJ _ s.letters W (hS.l.rd.on hW)
 have kC:Hid (∀W,B_ w W->C_ 28 #[.int .i64 (Gy (z_ s.letters) (m_ s.letters))] W (.string (G1 (Gy (z_ s.letters) (m_ s.letters))))):=fun W hW=>by
  have:=Ji (Gy (z_ s.letters) (m_ s.letters)) W ZA g1
  rwa [AhZ g0]at this
 have hz:=H9 ZA h1;have ap:=H9 ZA g1;refine' Xr;clear hS h0 h1 g0 g1;generalize G1 (Gy (z_ s.letters) (sL s.letters))=F at *;generalize G1 (Gy (z_ s.letters) (m_ s.letters))=G at *;generalize Gy (z_ s.letters) (sL s.letters)=n at *;generalize Gy (z_ s.letters) (m_ s.letters)=m at *;refine' ZXg;refine' ZRp;have eu:(F4.toList==[112,108,97,110])=false:=ZD
 have fw:(F4.toList==[115,101,113,117,101,110,99,101])=false:=ZD
 have iq:(F4.toList==[109,111,118,101,100])=false:=ZD
 have jz:(F4.toList==[102,111,114,119,97,114,100,115])=false:=ZD
 have kB:(F4.toList==[101,110,100,108,101,115,115])=false:=ZD
 have lT:(F4.toList==[100,105,114,101,99,116])=false:=ZD
 have m6:(F4.toList==[104,101,108,100])=false:=ZD
 have pG:(F4.toList==[100,97,121])=false:=ZD
 have lU:(F4.toList==[116,114,97,121,115])=false:=ZD
 have oJ:(F4.toList==[110,101,116])=false:=ZD
 refine' ZRq;refine' YF;go_region_held3 (fun W=>duo w 36 cs false W) (first|(with_reducible exact aq)|(with_reducible exact k1)|(with_reducible exact k2)|(with_reducible exact k3)|(with_reducible exact k4)|(exact duo.set8f k4)|fail) (first|(go_at_call 39;refine' ZLP)|(refine' ZXf)|(go_at_call 40;(with_reducible refine(lJ.out _ k2.lay).mono ?_);refine' gX;have k3:=k2.below z3)|(go_at_call 28;(with_reducible refine(kC.out _ k3.lay).mono ?_);rintro e u4 ⟨rfl,z4⟩;have k4:=k3.below z4;obtain⟨r0,r1,r2,r3,r4,r5,r6,r7,hr⟩:=k4.res;refine' Va)|fail)
 all_goals have HF:=aA (duo.set8 (Lg sX.out k4));exact ZGt
theorem Ap4(R:Nat->Prop)(vL vO vF vH vN s w)(hS:stN R w vL vO vF vH vN s)(hi:Bj s.day.plan.bins/\Bj s.day.plan.passes):
 Calls Tryz.prog 11 #[y5 vL vO vF vH vN s,.string Ef] w (Bs R {s with letters:=Dr s.day.plan s.letters} (Co (Dr s.day.plan s.letters)++⟨#[47]⟩++Co (Ha s.day.plan s.letters)) w):=by
 refine' zM;show Calls Tryz.prog _ #[.agg (y_ s AL cL AO cO AF cF AH cH AN cN),.string Ef] w _;refine' Nd;refine' Vc;have HC:Hid (∀W,B_ w W->Calls Tryz.prog 27 #[.agg #[.int .i64 s.day.plan.bins,.int .i64 s.day.plan.passes,.slice AO s.day.plan.order.length cO],.slice AL s.letters.length cL] W fun e w'=>∃vX vY,e=.returned (.tuple #[vX,vY,.bool (M4 s.day.plan s.letters)])/\own 119 W.heap.size w' vX (Dr s.day.plan s.letters)/\own 119 W.heap.size w' vY (Ha s.day.plan s.letters)/\apart vX vY/\B_ W w'):=fun W hW=>ZBu _ _ s.day.plan s.letters W (pU.on hW) (hS.l.rd.on hW)
 refine' Zq;clear hS hi pU;have zx:=Du (Dr s.day.plan s.letters);have zy:=Du (Ha s.day.plan s.letters);generalize M4 s.day.plan s.letters=o at *;generalize Dr s.day.plan s.letters=xs at *;generalize Ha s.day.plan s.letters=ys at *;have HX:=aA (fun(v:Value) (W:World) (h:R_ W v xs)=>D6 v xs W h);have HY:=aA (fun(v:Value) (W:World) (h:R_ W v ys)=>D6 v ys W h);have dj:Hid (Em (Co xs++⟨#[47]⟩++Co ys)=Co xs++⟨#[47]⟩++Co ys++⟨#[10]⟩):=Fh Zp;generalize Co xs=F at *;generalize Co ys=G at *;refine' ZXg;refine' ZRs;have eu:(Ef.toList==[112,108,97,110])=false:=ZD
 refine' ZRt;refine' YF;go_wp2_with (go_at_call 27;refine' ZGu;rintro e u1 ⟨vX,vY,rfl,oX,oY, -,z1⟩;refine' V_;have e0:=q0 _ k1;have f0:=k1.frozenS 0;have OX:=aA oX;have OY:=aA oY;obtain⟨AX,nX,cX,rfl, -, -, -, -⟩:=oX.rd;obtain⟨AY,nY,cY,rfl, -, -, -, -⟩:=oY.rd;clear oX oY)
 obtain⟨W2,bg⟩:∃u,u=u1.setCell ⟨w.heap.size,0,none⟩ (.slice AX nX cX):=⟨_,rfl⟩;rw[<-bg];have kH:own 119 wB.heap.size W2 (.slice AX nX cX) xs:=by rw[bg];exact Bd OX.out ⟨w.heap.size,0,none⟩ _ ZGv
 have OY2:own 119 wB.heap.size W2 (.slice AY nY cY) ys:=by rw[bg];exact Bd OY.out ⟨w.heap.size,0,none⟩ _ ZGv
 have k2:duo w 36 #[.slice AX nX cX,.int .i64 s.day.plan.bins,.int .i64 s.day.plan.passes,.slice AO s.day.plan.order.length cO,.slice AF s.day.fwds.length cF,.slice AH s.day.held.length cH,.int .i64 s.day.size,.slice AN s.net.length cN] false W2:=by rw[bg];exact k1.put 0 _
 refine' Nc;have TQ:=aA (fun W (h:B_ W2 W)=>HY.out _ W (OY2.rd.on h));refine' YD;clear bg e0 f0 q0 q1 q2 q3 q4 q5 q6 q7 k0 k1 z1 kH OY2 ah;refine' Xp;have p0:∀W,duo w 36 #[.slice AX nX cX,.int .i64 s.day.plan.bins,.int .i64 s.day.plan.passes,.slice AO s.day.plan.order.length cO,.slice AF s.day.fwds.length cF,.slice AH s.day.held.length cH,.int .i64 s.day.size,.slice AN s.net.length cN] false W->W.cell? ⟨w.heap.size,0,none⟩=some (.slice AX nX cX):=fun W h=>(Ac h.box).1.1
 have p1:∀W,duo w 36 #[.slice AX nX cX,.int .i64 s.day.plan.bins,.int .i64 s.day.plan.passes,.slice AO s.day.plan.order.length cO,.slice AF s.day.fwds.length cF,.slice AH s.day.held.length cH,.int .i64 s.day.size,.slice AN s.net.length cN] false W->W.cell? ⟨w.heap.size,1,none⟩=some (.int .i64 s.day.plan.bins):=fun W h=>(Ac h.box).1.2.1
 have p2:∀W,duo w 36 #[.slice AX nX cX,.int .i64 s.day.plan.bins,.int .i64 s.day.plan.passes,.slice AO s.day.plan.order.length cO,.slice AF s.day.fwds.length cF,.slice AH s.day.held.length cH,.int .i64 s.day.size,.slice AN s.net.length cN] false W->W.cell? ⟨w.heap.size,2,none⟩=some (.int .i64 s.day.plan.passes):=fun W h=>(Ac h.box).1.2.2.1
 have p3:∀W,duo w 36 #[.slice AX nX cX,.int .i64 s.day.plan.bins,.int .i64 s.day.plan.passes,.slice AO s.day.plan.order.length cO,.slice AF s.day.fwds.length cF,.slice AH s.day.held.length cH,.int .i64 s.day.size,.slice AN s.net.length cN] false W->W.cell? ⟨w.heap.size,3,none⟩=some (.slice AO s.day.plan.order.length cO):=fun W h=>(Ac h.box).1.2.2.2.1
 have p4:∀W,duo w 36 #[.slice AX nX cX,.int .i64 s.day.plan.bins,.int .i64 s.day.plan.passes,.slice AO s.day.plan.order.length cO,.slice AF s.day.fwds.length cF,.slice AH s.day.held.length cH,.int .i64 s.day.size,.slice AN s.net.length cN] false W->W.cell? ⟨w.heap.size,4,none⟩=some (.slice AF s.day.fwds.length cF):=fun W h=>(Ac h.box).1.2.2.2.2.1
 have p5:∀W,duo w 36 #[.slice AX nX cX,.int .i64 s.day.plan.bins,.int .i64 s.day.plan.passes,.slice AO s.day.plan.order.length cO,.slice AF s.day.fwds.length cF,.slice AH s.day.held.length cH,.int .i64 s.day.size,.slice AN s.net.length cN] false W->W.cell? ⟨w.heap.size,5,none⟩=some (.slice AH s.day.held.length cH):=fun W h=>(Ac h.box).1.2.2.2.2.2.1
 have p6:∀W,duo w 36 #[.slice AX nX cX,.int .i64 s.day.plan.bins,.int .i64 s.day.plan.passes,.slice AO s.day.plan.order.length cO,.slice AF s.day.fwds.length cF,.slice AH s.day.held.length cH,.int .i64 s.day.size,.slice AN s.net.length cN] false W->W.cell? ⟨w.heap.size,6,none⟩=some (.int .i64 s.day.size):=fun W h=>(Ac h.box).1.2.2.2.2.2.2.1
 have p7:∀W,duo w 36 #[.slice AX nX cX,.int .i64 s.day.plan.bins,.int .i64 s.day.plan.passes,.slice AO s.day.plan.order.length cO,.slice AF s.day.fwds.length cF,.slice AH s.day.held.length cH,.int .i64 s.day.size,.slice AN s.net.length cN] false W->W.cell? ⟨w.heap.size,7,none⟩=some (.slice AN s.net.length cN):=fun W h=>(Ac h.box).1.2.2.2.2.2.2.2
 go_region_law (first|(go_simp;go_at_call 23;(with_reducible refine(jk.out _ l2).mono ?_);refine' gX;have k3:=fc.below z3;have l3:=Aa l2 z3)|(go_simp;go_at_call 23;(with_reducible refine(TQ.out _ l3).mono ?_);rintro e u4 ⟨rfl,z4⟩;have k4:=k3.below z4;have l4:=Aa l3 z4;obtain⟨r0,r1,r2,r3,r4,r5,r6,r7,hr⟩:=k4.res;refine' Va)|fail)
 all_goals
  have TP:=aA (RX.out.on (Ct.below _ l4));have L4:=aA k4.lay;refine' iH;clear k2 fc k3 k4 l2 l3 l4 p0 p1 p2 p3 p4 p5 p6 p7
  refine' ZGw;exact Bs.fin (s':={s with letters:=xs}) ((HS.out.cut L4.out).setL TP.out) L4.out
theorem AtR(R:Nat->Prop)(vL vO vF vH vN s w)(hS:stN R w vL vO vF vH vN s)(hk:Be s.day.fwds=true)(hp:1<=(C5 (Q7 s.day.fwds)).size)(hz:(C5 (Q7 s.day.fwds)).size<=4000000000):
 Calls Tryz.prog 11 #[y5 vL vO vF vH vN s,.string Dx] w (Bs R {s with day:={s.day with fwds:=Q7 s.day.fwds}} (C5 (Q7 s.day.fwds)) w):=by
 refine' zM;show Calls Tryz.prog _ #[.agg (y_ s AL cL AO cO AF cF AH cH AN cN),.string Dx] w _;refine' Nd;have HC:Hid (∀W,B_ w W->Calls Tryz.prog 33 #[.slice AF s.day.fwds.length cF] W fun e w'=>∃v',e=.returned v'/\own 128 W.heap.size w' v' (Q7 s.day.fwds)/\B_ W w'):=fun W hW=>ZDY _ s.day.fwds W (hS.f.rd.on hW) hk
 refine' Zq;clear hS hk;generalize Q7 s.day.fwds=xs at *;refine' ZGx;have dj:Hid (Em (C5 xs)=C5 xs++⟨#[10]⟩):=Fh hp;clear hp;generalize C5 xs=F at *;refine' YE;have fs4:=fun W (h:duo w 36 (y_ s AL cL AO cO AF cF AH cH AN cN) false W)=>h.frozenS 4
 refine' ZVk;have eu:(Dx.toList==[112,108,97,110])=false:=ZD
 have fw:(Dx.toList==[115,101,113,117,101,110,99,101])=false:=ZD
 have iq:(Dx.toList==[109,111,118,101,100])=false:=ZD
 have jz:(Dx.toList==[102,111,114,119,97,114,100,115])=false:=ZD
 have kB:(Dx.toList==[101,110,100,108,101,115,115])=false:=ZD
 refine' ZVl;refine' YF;go_wp2_with (go_at_call 33;refine' ZGu;rintro e u1 ⟨vX,rfl,oX,z1⟩;refine' V_;have e4:=q4 _ k1;have f4:=k1.frozenS 4;refine' ZLU)
 refine' ZXi;refine' Nc;refine' YD;clear bg e4 f4 fs4 q0 q1 q2 q3 q4 q5 q6 q7 k0 k1 z1 kH ah;refine' ZLV;go_region_law (first|(go_simp;go_at_call 30;refine' Xo)|fail)
 all_goals
  have TP:=aA (RX.out.on (Ct.below _ l3));have L4:=aA k3.lay;refine' iH;clear k2 fc k3 l2 l3 p0 p1 p2 p3 p4 p5 p6 p7
  refine' ZGw;exact Bs.fin (s':={s with day:={s.day with fwds:=xs}}) ((HS.out.cut L4.out).setF TP.out) L4.out
theorem Bc7(R:Nat->Prop)(vL vO vF vH vN s w)(hS:stN R w vL vO vF vH vN s)(hi:Bj s.day.plan.bins/\Bj s.day.plan.passes/\Bj s.day.size)(hl:AyD (Dh s.day s.letters) 1048576)(hp:1<=(Sx (Dh s.day s.letters)).size)(hz:(Sx (Dh s.day s.letters)).size<=4000000000):
 Calls Tryz.prog 11 #[y5 vL vO vF vH vN s,.string G3] w (Bs R s (Sx (Dh s.day s.letters)) w):=by
 refine' zM;show Calls Tryz.prog _ #[.agg (y_ s AL cL AO cO AF cF AH cH AN cN),.string G3] w _;refine' Nd;refine' ZLW;have HC:Hid (∀W,B_ w W->Calls Tryz.prog 34 #[.agg #[.int .i64 s.day.plan.bins,.int .i64 s.day.plan.passes,.slice AO s.day.plan.order.length cO,.slice AF s.day.fwds.length cF,.slice AH s.day.held.length cH,.int .i64 s.day.size],.slice AL s.letters.length cL] W fun e w'=>∃vR,e=.returned (.tuple #[vR,.bool (Ka s.day s.letters)])/\Wq 119 W.heap.size w' vR (Dh s.day s.letters)/\B_ W w'):=fun W hW=>ZCL _ _ s.day s.letters W (BF.on hW) (hS.l.rd.on hW)
 refine' Zq;clear hS hi BF;generalize Ka s.day s.letters=o at *;generalize Dh s.day s.letters=r at *;have HX:=aA (fun(v:Value) (W:World) (h:rdR W W.heap.size v r)=>ZDh v r W h hl);have dj:Hid (Em (Sx r)=Sx r++⟨#[10]⟩):=Fh hp;clear hp hl;generalize Sx r=F at *;refine' YE;refine' ZSC;have eu:(G3.toList==[112,108,97,110])=false:=ZD
 have fw:(G3.toList==[115,101,113,117,101,110,99,101])=false:=ZD
 have iq:(G3.toList==[109,111,118,101,100])=false:=ZD
 have jz:(G3.toList==[102,111,114,119,97,114,100,115])=false:=ZD
 have kB:(G3.toList==[101,110,100,108,101,115,115])=false:=ZD
 have lT:(G3.toList==[100,105,114,101,99,116])=false:=ZD
 have m6:(G3.toList==[104,101,108,100])=false:=ZD
 refine' ZSD;refine' YF;go_wp2_with (go_at_call 34;refine' ZXj;obtain⟨w0,w1,w2,w3,rfl,o0,o1,o2,o3, -⟩:=oR;obtain⟨A0,n0,c0,rfl, -, -, -, -⟩:=o0.rd;refine' X3;refine' ZJR;obtain⟨A3,n3,c3,rfl, -, -, -, -⟩:=o3.rd;clear o0 o1 o2 o3)
 obtain⟨W2,bg⟩:∃u,u=u1.alloc (aB #[.slice A0 n0 c0,.slice A1 n1 c1,.slice A2 n2 c2,.slice A3 n3 c3] 78):=⟨_,rfl⟩;rw[<-bg];have dq:W2.heap[u1.heap.size]? =some (.cells #[.slice A0 n0 c0,.slice A1 n1 c1,.slice A2 n2 c2,.slice A3 n3 c3] 78 (0,0)):=by rw[bg];exact bC u1 _
 have JN:B_ u1 W2:=by rw[bg];exact Zs
 have k2:=k1.below JN;have jk:=aA (fun W (h:B_ W2 W)=>HX.out _ W ((RR.out.on JN).on h));refine' YD;have g0:=fun W (h:B_ W2 W)=>(T9 ((h.block _ (Array.getElem?_eq_some_iff.1 dq).1).trans dq)).1
 have g1:=fun W (h:B_ W2 W)=>(T9 ((h.block _ (Array.getElem?_eq_some_iff.1 dq).1).trans dq)).2.1
 have g2:=fun W (h:B_ W2 W)=>(T9 ((h.block _ (Array.getElem?_eq_some_iff.1 dq).1).trans dq)).2.2.1
 have g3:=fun W (h:B_ W2 W)=>(T9 ((h.block _ (Array.getElem?_eq_some_iff.1 dq).1).trans dq)).2.2.2.1
 clear bg dq k0 k1 z1 JN RR;refine' Xp;go_region_law (first|(go_simp;go_at_call 35;refine' Xo)|fail)
 all_goals
  have L4:=aA k3.lay;refine' iH;clear k2 fc k3 l2 l3 q0 q1 q2 q3 q4 q5 q6 q7
  refine' ZGw;exact Bs.fin (HS.out.cut L4.out) L4.out
theorem AxC(R:Nat->Prop)(vL vO vF vH vN s w)(hS:stN R w vL vO vF vH vN s)(hi:Bj s.day.plan.bins/\Bj s.day.plan.passes/\Bj s.day.size)(hk:Vr (Eu s.day s.letters))(hp:1<=(Qq (Eu s.day s.letters)).size)(hz:(Qq (Eu s.day s.letters)).size<=4000000000):
 Calls Tryz.prog 11 #[y5 vL vO vF vH vN s,.string Dq] w (Bs R s (Qq (Eu s.day s.letters)) w):=by
 refine' zM;show Calls Tryz.prog _ #[.agg (y_ s AL cL AO cO AF cF AH cH AN cN),.string Dq] w _;refine' Nd;refine' ZLW;have HC:Hid (∀W,B_ w W->Calls Tryz.prog 36 #[.agg #[.int .i64 s.day.plan.bins,.int .i64 s.day.plan.passes,.slice AO s.day.plan.order.length cO,.slice AF s.day.fwds.length cF,.slice AH s.day.held.length cH,.int .i64 s.day.size],.slice AL s.letters.length cL] W fun e w'=>∃v',e=.returned (.tuple #[v',.bool (Tw s.day s.letters)])/\Fu 27 119 W.heap.size w' v' (Eu s.day s.letters)/\B_ W w'):=fun W hW=>Aj1 _ _ s.day s.letters W (BF.on hW) (hS.l.rd.on hW)
 refine' Zq;clear hS hi BF;generalize Tw s.day s.letters=o at *;generalize Eu s.day s.letters=r at *;have HX:=aA (fun(v:Value) (W:World) (h:R_ W v r)=>Ac2 v r W h hk);have dj:Hid (Em (Qq r)=Qq r++⟨#[10]⟩):=Fh hp;clear hp hk;generalize Qq r=F at *;refine' YE;refine' ZSA;have eu:(Dq.toList==[112,108,97,110])=false:=ZD
 have fw:(Dq.toList==[115,101,113,117,101,110,99,101])=false:=ZD
 have iq:(Dq.toList==[109,111,118,101,100])=false:=ZD
 have jz:(Dq.toList==[102,111,114,119,97,114,100,115])=false:=ZD
 have kB:(Dq.toList==[101,110,100,108,101,115,115])=false:=ZD
 have lT:(Dq.toList==[100,105,114,101,99,116])=false:=ZD
 have m6:(Dq.toList==[104,101,108,100])=false:=ZD
 have pG:(Dq.toList==[100,97,121])=false:=ZD
 refine' ZSB;refine' YF;go_wp2_with (go_at_call 36;refine' ZXj;obtain⟨A0,n0,c0,rfl, -, -, -, -⟩:=oR.rd;clear oR)
 have jk:=aA (fun W (h:B_ u1 W)=>HX.out _ W (RR.out.on h));clear k0 z1 RR;have fc:=k1.drew;have l2:=Ag (aF u1.heap.size u1)
 go_region_law (first|(go_simp;go_at_call 37;refine' Xo)|fail)
 all_goals
  have L4:=aA k3.lay;refine' iH;clear k1 fc k3 l2 l3 q0 q1 q2 q3 q4 q5 q6 q7
  refine' ZGw;exact Bs.fin (HS.out.cut L4.out) L4.out
theorem Ba9(R:Nat->Prop)(vL vO vF vH vN s wd w)(hS:stN R w vL vO vF vH vN s)(hw:∀x∈[Cf,Mf,Df,Ef,Gd,Bg,Db,Dx,Fm,G3,Dq,Es,F4],(wd.toList==x.data.toList)=false):
 Calls Tryz.prog 11 #[y5 vL vO vF vH vN s,.string wd] w (Bs R s Hg w):=by refine' zM;show Calls Tryz.prog _ #[.agg (y_ s AL cL AO cO AF cF AH cH AN cN),.string wd] w _;refine' ZXh;have ci:(wd.toList==[108,101,116,116,101,114,115])=false:=hw Cf ZF;have dh:(wd.toList==[115,111,114,116])=false:=hw Mf ZF;have eu:(wd.toList==[112,108,97,110])=false:=hw Df ZF;have fw:(wd.toList==[115,101,113,117,101,110,99,101])=false:=hw Ef ZF;have iq:(wd.toList==[109,111,118,101,100])=false:=hw Gd ZF;have jz:(wd.toList==[102,111,114,119,97,114,100,115])=false:=hw Bg ZF;have kB:(wd.toList==[101,110,100,108,101,115,115])=false:=hw Db ZF;have lT:(wd.toList==[100,105,114,101,99,116])=false:=hw Dx ZF;have m6:(wd.toList==[104,101,108,100])=false:=hw Fm ZF;have pG:(wd.toList==[100,97,121])=false:=hw G3 ZF;have lU:(wd.toList==[116,114,97,121,115])=false:=hw Dq ZF;have oJ:(wd.toList==[110,101,116])=false:=hw Es ZF;have sS:(wd.toList==[115,101,97,108])=false:=hw F4 ZF;clear k0 m0 hS hw;refine' YF;refine Ax rfl rfl M0.out gK rfl Tryz.sizeSt rfl ?_;have h:=Bs.of (m:=w.heap.size+2) (a:=Hg) (HS.out.cut K0.out.lay) ZA (Ct.refl _ _) K0.out.lay;rw[show Em Hg=⟨#[119,104,97,116,10]⟩ by exact ZR]at h;exact h
theorem Fy{a b:Y_}(h:a≠b):(a.toList==b.data.toList)=false:=ZWT
theorem Ta{s}(h:Inv s):Bj s.day.plan.bins/\Bj s.day.plan.passes/\Bj s.day.size:=ZWU
theorem Ss{s}(h:Inv s):Bj s.day.plan.bins/\Bj s.day.plan.passes:=⟨(Ta h).1,(Ta h).2.1⟩
theorem BcD{s}(h:Inv s):AyD (Dh s.day s.letters) 1048576:=by obtain⟨h1,h2,h3,h4⟩:=AbJ h.rd;have h1:=Cq h1;have h2:=Cq h2;have h3:=Cq h3;have h4:=Cq h4;exact⟨ZA,ZA,ZA,ZA⟩
theorem Ba4(R:Nat->Prop)(vL vO vF vH vN s wd w)(h:Inv s)(hS:stN R w vL vO vF vH vN s):
 Calls Tryz.prog 11 #[y5 vL vO vF vH vN s,.string wd] w (Bs R (Rh s wd).1 (Rh s wd).2 w):=by
 have hP:=Az4 h wd;have hZ:=AgU h wd;unfold Rh at hP hZ⊢;by_cases e0:wd=Cf
 .subst e0
  refine' YM;exact AsA R _ _ _ _ _ s w hS hP ZA
 rw[aM e0]at hP hZ⊢;by_cases e1:wd=Mf
 .subst e1
  refine' YM;exact AzW R _ _ _ _ _ s w hS h.bs hP
 rw[aM e1]at hP hZ⊢;by_cases e2:wd=Ef
 .subst e2
  refine' YM;exact Ap4 R _ _ _ _ _ s w hS (Ss h)
 rw[aM e2]at hP hZ⊢;by_cases e3:wd=F4
 .subst e3
  refine' YM;have h1:=Ho h.bs;have h2:=Io h.bs;exact BaE R _ _ _ _ _ s w hS hP ZA ZA ZA ZA
 rw[aM e3]at hP hZ⊢;by_cases e4:wd=Df
 .subst e4
  refine' YM;exact AzI R _ _ _ _ _ s w hS hP ZA (Ss h)
 rw[aM e4]at hP hZ⊢;by_cases e5:wd=Gd
 .subst e5
  refine' YM;exact AyU R _ _ _ _ _ s w hS hP (Ss h) (Al1 h.rp) (by have:=Ac0 (p:=s.day.plan) h.bs;omega) (by have:=Cq h.bs;omega)
 rw[aM e5]at hP hZ⊢;by_cases e6:wd=Bg
 .subst e6
  refine' YM;exact ApX R _ _ _ _ _ s w hS hP ZA
 rw[aM e6]at hP hZ⊢;by_cases e7:wd=Dx
 .subst e7
  refine' YM;exact AtR R _ _ _ _ _ s w hS h.fwds hP ZA
 rw[aM e7]at hP hZ⊢;by_cases e8:wd=Db
 .subst e8
  refine' YM;exact ArW R _ _ _ _ _ s w hS hP h.fwds (fun p hp=>by have:=Cp (Mb _ p hp);omega) (by have:=AhE (fs:=s.day.fwds);have:=(Ch.1 h.fwds).1;omega) ZA
 rw[aM e8]at hP hZ⊢;by_cases e9:wd=Fm
 .subst e9
  refine' YM;exact BaK R _ _ _ _ _ s w hS hP ZA (fun p hp=>by have:=Cp ((Hc h.held).2 p hp);omega) (by have:=(Hc h.held).1;omega)
 rw[aM e9]at hP hZ⊢;by_cases sU:wd=G3
 .subst sU
  refine' YM;exact Bc7 R _ _ _ _ _ s w hS (Ta h) (BcD h) hP ZA
 rw[aM sU]at hP hZ⊢;by_cases sV:wd=Dq
 .subst sV
  refine' YM;exact AxC R _ _ _ _ _ s w hS (Ta h) (ZC7 h.rd).2 hP ZA
 rw[aM sV]at hP hZ⊢;by_cases sW:wd=Es
 .subst sW
  refine' YM;exact Bc2 R _ _ _ _ _ s w hS hP ZA
 rw[aM sW]at hP hZ⊢;exact Ba9 R _ _ _ _ _ s wd w hS (by
  refine' ZGl;rcases hx with rfl|rfl|rfl|rfl|rfl|rfl|rfl|rfl|rfl|rfl|rfl|rfl|rfl
  .exact Fy e0
  .exact Fy e1
  .exact Fy e4
  .exact Fy e2
  .exact Fy e5
  .exact Fy e6
  .exact Fy e8
  .exact Fy e7
  .exact Fy e9
  .exact Fy sU
  .exact Fy sV
  .exact Fy sW
  .exact Fy e3
  )
theorem AhT(R:Nat->Prop)(vL vO vF vH vN s a b B g c w)(hS:stN R w vL vO vF vH vN s)(hf:own 9 B w (.slice (P_ g) 2 c) [a,b])(hk:Be s.day.fwds=true)(z0:a.size<=maxLen)(z1:b.size<=maxLen)(ho:Ig s.day.fwds a b=true)(hp:1<=(C5 (My s.day.fwds a b)).size)(hz:(C5 (My s.day.fwds a b)).size<=1000000000):
 Calls Tryz.prog 47 #[y5 vL vO vF vH vN s,.string Bt,.slice (P_ g) 2 c] w (Bs R {s with day:={s.day with fwds:=My s.day.fwds a b}} (C5 (My s.day.fwds a b)) w):=by
 refine' ZX8;have HC:Hid (∀W,B_ w W->Calls Tryz.prog 95 #[.slice AF s.day.fwds.length cF,.string a,.string b] W fun e w'=>∃v',e=.returned (.tuple #[v',.bool true])/\own 128 W.heap.size w' v' (My s.day.fwds a b)/\B_ W w'):=fun W hW=>ZX9
 refine' ZG6;clear ho;generalize My s.day.fwds a b=xs at *;refine' ZYA;refine' ZYB;all_goals exact ZYC
theorem AiS(R:Nat->Prop)(vL vO vF vH vN s a b B g c w)(hS:stN R w vL vO vF vH vN s)(hf:own 9 B w (.slice (P_ g) 2 c) [a,b])(hk:Be s.day.fwds=true)(z0:a.size<=maxLen)(z1:b.size<=maxLen)(ho:Ig s.day.fwds a b=false)(hz:(C5 (My s.day.fwds a b)).size<=1000000000):
 Calls Tryz.prog 47 #[y5 vL vO vF vH vN s,.string Bt,.slice (P_ g) 2 c] w (Bs R s (⟨#[]⟩) w):=by
 refine' ZX8;have HC:Hid (∀W,B_ w W->Calls Tryz.prog 95 #[.slice AF s.day.fwds.length cF,.string a,.string b] W fun e w'=>∃v',e=.returned (.tuple #[v',.bool false])/\own 128 W.heap.size w' v' (My s.day.fwds a b)/\B_ W w'):=fun W hW=>ZX9
 refine' ZG6;clear ho;generalize My s.day.fwds a b=xs at *;refine' ZGx;have eo:=aA (fun W=>Fa (C5 xs) W);refine' ZG7;refine' ZYB;all_goals exact ZYD
theorem Ap8(R:Nat->Prop)(vL vO vF vH vN s a B g c w)(hS:stN R w vL vO vF vH vN s)(hf:own 9 B w (.slice (P_ g) 1 c) [a])(hk:Be s.day.fwds=true)(ho:Jy s.day.fwds a=true)(hp:1<=(C5 (N6 s.day.fwds a)).size)(hz:(C5 (N6 s.day.fwds a)).size<=1000000000):
 Calls Tryz.prog 47 #[y5 vL vO vF vH vN s,.string C4,.slice (P_ g) 1 c] w (Bs R {s with day:={s.day with fwds:=N6 s.day.fwds a}} (C5 (N6 s.day.fwds a)) w):=by
 refine' ZYE;have HC:Hid (∀W,B_ w W->Calls Tryz.prog 96 #[.slice AF s.day.fwds.length cF,.string a] W fun e w'=>∃v',e=.returned (.tuple #[v',.bool true])/\own 128 W.heap.size w' v' (N6 s.day.fwds a)/\B_ W w'):=fun W hW=>ZYF
 refine' ZYG;refine' ZYA;refine' ZYH;all_goals exact ZYC
theorem ArI(R:Nat->Prop)(vL vO vF vH vN s a B g c w)(hS:stN R w vL vO vF vH vN s)(hf:own 9 B w (.slice (P_ g) 1 c) [a])(hk:Be s.day.fwds=true)(ho:Jy s.day.fwds a=false)(hz:(C5 (N6 s.day.fwds a)).size<=1000000000):
 Calls Tryz.prog 47 #[y5 vL vO vF vH vN s,.string C4,.slice (P_ g) 1 c] w (Bs R s (⟨#[]⟩) w):=by
 refine' ZYE;have HC:Hid (∀W,B_ w W->Calls Tryz.prog 96 #[.slice AF s.day.fwds.length cF,.string a] W fun e w'=>∃v',e=.returned (.tuple #[v',.bool false])/\own 128 W.heap.size w' v' (N6 s.day.fwds a)/\B_ W w'):=fun W hW=>ZYF
 refine' ZYG;refine' ZGx;have eo:=aA (fun W=>Fa (C5 xs) W);refine' ZG7;refine' ZYH;all_goals exact ZYD
theorem ifB{f:Nat}{args w r}(h:Calls Tryz.prog f args w fun e w'=>e=r/\w=w'):Calls Tryz.prog f args w fun e w'=>e=r/\B_ w w':=h.mono fun e w' h=>⟨h.1,h.2▸aF _ _⟩
theorem stZ{R:Nat->Prop}{w vL vO vF vH vN s}(h:stN R w vL vO vF vH vN s)(n):stN R w vL vO vF vH vN {s with day:={s.day with size:=n}}:=⟨h.l,h.o,h.f,h.h,h.n⟩
theorem AnP(R:Nat->Prop)(vL vO vF vH vN s f B g c w)(hS:stN R w vL vO vF vH vN s)(hf:own 9 B w (.slice (P_ g) 1 c) [f])(hz:f.size<=maxLen)(ho:Fp (Am f)=true):
 Calls Tryz.prog 47 #[y5 vL vO vF vH vN s,.string Dk,.slice (P_ g) 1 c] w (Bs R {s with day:={s.day with size:=Am f}} (kR) w):=by
 refine' ZYI;obtain⟨wA,ae⟩:∃u,u=w.alloc (aB #[.slice AL s.letters.length cL,.int .i64 s.day.plan.bins,.int .i64 s.day.plan.passes,.slice AO s.day.plan.order.length cO,.slice AF s.day.fwds.length cF,.slice AH s.day.held.length cH,.int .i64 (Am f),.slice AN s.net.length cN] 36):=⟨_,rfl⟩;refine' ZLR;refine' Nj;have aq:=k0.drew;clear m0;refine' ZYJ;refine' ZG8;have q0:∀W,duo w 36 #[.slice AL s.letters.length cL,.int .i64 s.day.plan.bins,.int .i64 s.day.plan.passes,.slice AO s.day.plan.order.length cO,.slice AF s.day.fwds.length cF,.slice AH s.day.held.length cH,.int .i64 (Am f),.slice AN s.net.length cN] false W->W.cell? ⟨w.heap.size,0,none⟩=some (.slice AL s.letters.length cL):=fun W h=>(Ac h.box).1.1
 have q1:∀W,duo w 36 #[.slice AL s.letters.length cL,.int .i64 s.day.plan.bins,.int .i64 s.day.plan.passes,.slice AO s.day.plan.order.length cO,.slice AF s.day.fwds.length cF,.slice AH s.day.held.length cH,.int .i64 (Am f),.slice AN s.net.length cN] false W->W.cell? ⟨w.heap.size,1,none⟩=some (.int .i64 s.day.plan.bins):=fun W h=>(Ac h.box).1.2.1
 have q2:∀W,duo w 36 #[.slice AL s.letters.length cL,.int .i64 s.day.plan.bins,.int .i64 s.day.plan.passes,.slice AO s.day.plan.order.length cO,.slice AF s.day.fwds.length cF,.slice AH s.day.held.length cH,.int .i64 (Am f),.slice AN s.net.length cN] false W->W.cell? ⟨w.heap.size,2,none⟩=some (.int .i64 s.day.plan.passes):=fun W h=>(Ac h.box).1.2.2.1
 have q3:∀W,duo w 36 #[.slice AL s.letters.length cL,.int .i64 s.day.plan.bins,.int .i64 s.day.plan.passes,.slice AO s.day.plan.order.length cO,.slice AF s.day.fwds.length cF,.slice AH s.day.held.length cH,.int .i64 (Am f),.slice AN s.net.length cN] false W->W.cell? ⟨w.heap.size,3,none⟩=some (.slice AO s.day.plan.order.length cO):=fun W h=>(Ac h.box).1.2.2.2.1
 have q4:∀W,duo w 36 #[.slice AL s.letters.length cL,.int .i64 s.day.plan.bins,.int .i64 s.day.plan.passes,.slice AO s.day.plan.order.length cO,.slice AF s.day.fwds.length cF,.slice AH s.day.held.length cH,.int .i64 (Am f),.slice AN s.net.length cN] false W->W.cell? ⟨w.heap.size,4,none⟩=some (.slice AF s.day.fwds.length cF):=fun W h=>(Ac h.box).1.2.2.2.2.1
 have q5:∀W,duo w 36 #[.slice AL s.letters.length cL,.int .i64 s.day.plan.bins,.int .i64 s.day.plan.passes,.slice AO s.day.plan.order.length cO,.slice AF s.day.fwds.length cF,.slice AH s.day.held.length cH,.int .i64 (Am f),.slice AN s.net.length cN] false W->W.cell? ⟨w.heap.size,5,none⟩=some (.slice AH s.day.held.length cH):=fun W h=>(Ac h.box).1.2.2.2.2.2.1
 have q6:∀W,duo w 36 #[.slice AL s.letters.length cL,.int .i64 s.day.plan.bins,.int .i64 s.day.plan.passes,.slice AO s.day.plan.order.length cO,.slice AF s.day.fwds.length cF,.slice AH s.day.held.length cH,.int .i64 (Am f),.slice AN s.net.length cN] false W->W.cell? ⟨w.heap.size,6,none⟩=some (.int .i64 (Am f)):=fun W h=>(Ac h.box).1.2.2.2.2.2.2.1
 have q7:∀W,duo w 36 #[.slice AL s.letters.length cL,.int .i64 s.day.plan.bins,.int .i64 s.day.plan.passes,.slice AO s.day.plan.order.length cO,.slice AF s.day.fwds.length cF,.slice AH s.day.held.length cH,.int .i64 (Am f),.slice AN s.net.length cN] false W->W.cell? ⟨w.heap.size,7,none⟩=some (.slice AN s.net.length cN):=fun W h=>(Ac h.box).1.2.2.2.2.2.2.2
 have x0:=Bx hf 0 ZF;refine' ZYK;go_region_held3 (fun W=>duo w 36 #[.slice AL s.letters.length cL,.int .i64 s.day.plan.bins,.int .i64 s.day.plan.passes,.slice AO s.day.plan.order.length cO,.slice AF s.day.fwds.length cF,.slice AH s.day.held.length cH,.int .i64 (Am f),.slice AN s.net.length cN] false W) (first|(with_reducible exact aq)|(with_reducible exact k3)|exact gA|fail) (first|(refine' W9;refine' ZLe)|fail)
 all_goals refine' ZLf;exact Bs.fin (s':={s with day:={s.day with size:=Am f}}) (stZ (HS.out.cut L4.out) _) L4.out
theorem ArX(R:Nat->Prop)(vL vO vF vH vN s f B g c w)(hS:stN R w vL vO vF vH vN s)(hf:own 9 B w (.slice (P_ g) 1 c) [f])(hz:f.size<=maxLen)(ho:Fp (Am f)=false):
 Calls Tryz.prog 47 #[y5 vL vO vF vH vN s,.string Dk,.slice (P_ g) 1 c] w (Bs R s (⟨#[]⟩) w):=by
 refine' ZYI;refine' f_;refine' ZYJ;refine' ZG9;refine' W7;refine' ZYK;go_region_held3 (fun W=>duo w 36 (y_ s AL cL AO cO AF cF AH cH AN cN) false W) (first|(with_reducible exact aq)|(with_reducible exact k3)|exact gA|fail) (first|(refine' W9;refine' ZLe)|fail)
 all_goals refine' ZLf;exact W6
theorem Ao2(R:Nat->Prop)(vL vO vF vH vN s f B g c w)(hS:stN R w vL vO vF vH vN s)(hf:own 9 B w (.slice (P_ g) 1 c) [f])(hz:f.size<=maxLen)(ho:Jo s.letters (Am f)=true)(hp:1<=(Co (pg s.letters (Am f))).size):
 Calls Tryz.prog 47 #[y5 vL vO vF vH vN s,.string C8,.slice (P_ g) 1 c] w (Bs R {s with letters:=pg s.letters (Am f)} (Co (pg s.letters (Am f))) w):=by
 refine' ZYL;have HC:Hid (∀W,B_ w W->Calls Tryz.prog 98 #[.slice AL s.letters.length cL,.int .i64 (Am f)] W fun e w'=>∃v',e=.returned (.tuple #[v',.bool true])/\own 119 W.heap.size w' v' (pg s.letters (Am f))/\B_ W w'):=fun W hW=>ZYM
 have HM:Hid (∀(v:Value) W,B_ w W->rdN (cut R w.heap.size (w.heap.size+2)) W v (pg s.letters (Am f))->Calls Tryz.prog 25 #[.agg (y_ s AL cL AO cO AF cF AH cH AN cN),v,.bool true] W (Bs (cut R w.heap.size (w.heap.size+2)) {s with letters:=pg s.letters (Am f)} (Co (pg s.letters (Am f))) W)):=fun v W hW hv=>AeO _ _ _ _ _ _ v s _ W (hS.cut hW) hv hp
 refine' W7;clear hS hf x0;clear hz ho hp;exact ZYN
theorem ArA(R:Nat->Prop)(vL vO vF vH vN s f B g c w)(hS:stN R w vL vO vF vH vN s)(hf:own 9 B w (.slice (P_ g) 1 c) [f])(hz:f.size<=maxLen)(ho:Jo s.letters (Am f)=false):
 Calls Tryz.prog 47 #[y5 vL vO vF vH vN s,.string C8,.slice (P_ g) 1 c] w (Bs R s (⟨#[]⟩) w):=by
 refine' ZYL;have HC:Hid (∀W,B_ w W->Calls Tryz.prog 98 #[.slice AL s.letters.length cL,.int .i64 (Am f)] W fun e w'=>∃v',e=.returned (.tuple #[v',.bool false])/\own 119 W.heap.size w' v' (pg s.letters (Am f))/\B_ W w'):=fun W hW=>ZYM
 have HM:Hid (∀(v:Value) W,B_ w W->rdN (cut R w.heap.size (w.heap.size+2)) W v (pg s.letters (Am f))->Calls Tryz.prog 25 #[.agg (y_ s AL cL AO cO AF cF AH cH AN cN),v,.bool false] W (Bs (cut R w.heap.size (w.heap.size+2)) s ⟨#[]⟩ W)):=fun v W hW _=>AaM _ _ _ _ _ _ v s W (hS.cut hW)
 refine' W7;clear hS hf x0;clear hz ho;exact ZYN
theorem AjP{ps:List Y_}{k}(hk:k<ps.length)(h:Ko (ps.take k)=true):Ko (ps.take (k+1))=(K7 ps[k]).isSome:=by rw[aJ hk,ZDU,h,fF]
theorem BbQ{ps:List Y_}{k}(hk:k<=ps.length)(jp:k<=21)(ib:k=ps.length\/20<k):ps.take 21=ps.take k:=by
 refine' ZGO
 .rw[show k=21 by omega]
theorem AzB{ps:List Y_}{k}(hk:k<ps.length)(jp:k<=20)(h:Ko (ps.take (k+1))=false):Ko (ps.take 21)=false:=
 P8 (AmL ZA) h
theorem G9{v b b'}(h:b'=b):Ending.returned (.tuple #[v,.bool b])=.returned (.tuple #[v,.bool b']):=eO
theorem AeD(t w)(ht:t.size<=1000000000000):
 Calls Tryz.prog 175 #[.string t] w fun e w'=>∃v',e=.returned (.tuple #[v',.bool (Qu t)])/\own 181 w.heap.size w' v' (kT t)/\B_ w w':=by
 obtain⟨i0,ji,dr,du,dw⟩:=dD Tryz.infoRul;have lA:B_ w (w.alloc (aB #[] 181)):=(aF _ _).alloc (aC _) _;have pC:own (α:=Fwd) 181 w.heap.size (w.alloc (aB #[] 181)) (.slice (P_ w.heap.size) 0 0) []:=own.made0 w _ (aC _);refine' ZKB;go_enter func175,ntmps175;by_cases cv:zU t ⟨#[45]⟩=true
 .refine' ZTz;exact ZKC
 .refine' ZKD;have lg:=aA (BcP pO);have HO:Hid (Qu t=Ua t):=by show _=_;rw[lg.out.1];unfold Qu;rw[pO];rfl
  have HR:Hid (kT t=if Ua t then Fx ((Aj 32 t).take 21)else []):=by show _=_;rw[lg.out.1];unfold kT;exact ZKE
  refine' ZKF;obtain⟨wA,wJ⟩:∃W,w.alloc (aB #[] 181)=W:=⟨_,rfl⟩;refine' ZKG;have ef:Hid (Ua t=(Ko (ps.take 21)&&zU (Jj (Fx (ps.take 21))) t)):=by show _=_;unfold Ua;rw[ev]
  clear ev;subst hn
  refine' ZC;go_loopw[4,6,7] (fun v i _ wr=>∃k:Nat,k<=ps.length/\k<=21/\i=.int .i64 k/\Ko (ps.take k)=true/\own 181 w.heap.size wr v (Fx (ps.take k))/\own 9 wA.heap.size wr (.slice A ps.length c) ps/\apart v (.slice A ps.length c)/\B_ w wr) (fun _ i _ _=>21 - (intOf i).toNat)
  case atStart=>exact ZKH
  case round=>
   obtain⟨k,hk,hk21,rfl,da,ho,q_,oT,lw⟩:=hrel;refine' ZGP;by_cases ib:k=ps.length\/20<k
   .have HT:=aA (BbQ hk hk21 ib)
    refine' ZGQ;have HF:=ZAv _ _ w2 kQ.out.rd;clear ho hm;by_cases gq:k=ps.length
    .refine' ZGR;exact ZUF
    .refine' Zv;have s8:¬((k:Int)<=20):=ZA
     exact ZUF
   .refine' ZGS;have wL:k<=20:=ZA
    refine' Zv;have s8:(k:Int)<=20:=ZA
    refine' ZKI;have tz:=aA (AjP gq jZ.out);have ny:=aA (AzB gq wL);refine' ZKJ;have lO:=fun W=>Nq x 62 W pN
    by_cases bc:Lib.indexByte x.data.toList 62<0
    .have mZ:=aA (Ri bc)
     have HB:Hid (Ua t=false):=ZUG
     exact ZUH
    .refine' ZUI;go_region_law (go_loud (refine Ce (α:=Fwd) ZG (.tmp 32) (.tmp 47) 43 ZG w.heap.size 181 i0 _ 32 iO ji dr du dw rfl ZE (.slice Av m cp) gs ⟨x.extract 0 i,x.extract (i+1) x.size⟩ ZG ((kQ.out.alloc _).drew) ⟨w2.heap.size,0,none⟩ 1 (Fwd.cells ⟨x.extract 0 i,x.extract (i+1) x.size⟩) ZG ⟨HY.out,rfl⟩ (Ft w2 _ (Fwd.cells ⟨x.extract 0 i,x.extract (i+1) x.size⟩)) ZN ZA ZH ?_;refine' Zm))
     all_goals
      have gi:B_ w2 (w2.alloc (aB #[aG (x.extract 0 i),aG (x.extract (i+1) x.size)] 181)).drew:=Ag (Ae (aF _ _) _);refine' ZUJ;have uC:=((xK.out.alloc (aB #[aG (x.extract 0 i),aG (x.extract (i+1) x.size)] 181)).drew).grown a6 (Br fe.out);have cy:=Dg (n:=m+1) (c:=cap) fe.out mc (fun j hj=>((xK.out.alloc (aB #[aG (x.extract 0 i),aG (x.extract (i+1) x.size)] 181)).drew.blk j hj).2);refine' ZKK;go_wp2
      exact ZKL
theorem Bc8{ps:List Y_}{k}(hk:k<=ps.length)(jp:k<=61)(ib:k=ps.length\/60<k):ps.take 61=ps.take k:=by
 refine' ZGO
 .rw[show k=61 by omega]
theorem Au3{ps:List Y_}{k}(hk:k<ps.length)(h:Ik Hk (ps.take k)=true):Ik Hk (ps.take (k+1))=(Hk ps[k]).isSome:=ZUd
theorem AyV{ps:List Y_}{k}(hk:k<ps.length)(jp:k<=60)(h:Ik Hk (ps.take (k+1))=false):Ik Hk (ps.take 61)=false:=
 AaT (AmL ZA) h
theorem ZAT(t w)(ht:t.size<=1000000000000):
 Calls Tryz.prog 41 #[.string t] w fun e w'=>∃v',e=.returned (.tuple #[v',.bool (Mv t)])/\own 119 w.heap.size w' v' (t_ t)/\B_ w w':=by
 obtain⟨i0,ji,dr,du,dw⟩:=dD Tryz.infoLt;have lA:B_ w (w.alloc (aB #[] 119)):=(aF _ _).alloc (aC _) _;refine' ZN6;refine' ZKB;go_enter func41,ntmps41;by_cases cv:zU t ⟨#[45]⟩=true
 .refine' ZQ5;exact ZKC
 .refine' ZKD;have lg:=aA (BcQ pO);have HO:Hid (Mv t=Vg t):=by show _=_;rw[lg.out.1];unfold Mv;rw[pO];rfl
  have HR:Hid (t_ t=if Vg t then Gl Hk ((Aj 32 t).take 61)else []):=by show _=_;rw[lg.out.1];unfold t_;exact ZKE
  refine' ZKF;obtain⟨wA,wJ⟩:∃W,w.alloc (aB #[] 119)=W:=⟨_,rfl⟩;refine' ZKG;have ef:Hid (Vg t=(Ik Hk (ps.take 61)&&zU (Co (Gl Hk (ps.take 61))) t)):=by show _=_;unfold Vg;rw[ev]
  clear ev;subst hn
  refine' ZC;go_loopw[4,6,7] (fun v i _ wr=>∃k:Nat,k<=ps.length/\k<=61/\i=.int .i64 k/\Ik Hk (ps.take k)=true/\own 119 w.heap.size wr v (Gl Hk (ps.take k))/\own 9 wA.heap.size wr (.slice A ps.length c) ps/\apart v (.slice A ps.length c)/\B_ w wr) (fun _ i _ _=>61 - (intOf i).toNat)
  case atStart=>exact ZKH
  case round=>
   obtain⟨k,hk,XS,rfl,da,ho,q_,oT,lw⟩:=hrel;refine' ZGP;by_cases ib:k=ps.length\/60<k
   .have HT:=aA (Bc8 hk XS ib)
    refine' ZGQ;have HF:=D6 _ _ w2 kQ.out.rd;clear ho hm;by_cases gq:k=ps.length
    .refine' ZGR;exact ZW0
    .refine' Zv;have s8:¬((k:Int)<=60):=ZA
     exact ZW0
   .refine' ZGS;have wL:k<=60:=ZA
    refine' Zv;have s8:(k:Int)<=60:=ZA
    refine' ZKI;have tz:=aA (Au3 gq jZ.out);have ny:=aA (AyV gq wL);refine' ZKJ;have lO:=fun W=>Nq x 58 W pN
    by_cases bc:Lib.indexByte x.data.toList 58<0
    .have mZ:=aA (Ri bc)
     have HB:Hid (Vg t=false):=by{show _=_;rw[ef.out,ny.out (by rw[tz.out];unfold Hk;rw[mZ.out];rfl)];rfl};clear ho
     refine' Tt;generalize Lib.indexByte x.data.toList 58=j at *
     exact ZW1
    .obtain⟨i,kj⟩:∃i:Nat,Lib.indexByte x.data.toList 58=(i:Int):=⟨(Lib.indexByte x.data.toList 58).toNat,ZA⟩
     refine' ZKP;have xn:=aA (fun W=>ZET (x.extract 0 i) W (aI jw.1 pN));have hnv:=Lp (d:=Mj (x.extract 0 i)) (ng:=Kn (x.extract 0 i));have QH:Hid (Hp (x.extract 0 i)=N5 (Mj (x.extract 0 i)) (Kn (x.extract 0 i))):=rfl;rw[<-QH.out]at hnv;have sf:Hid (Hk x=some ⟨Hp (x.extract 0 i),x.extract (i+1) x.size⟩):=by{show _=_;unfold Hk;rw[ax];rfl};have t7:(x.extract (i+1) x.size).size<=maxLen:=aI jw.2 pN;have pE:Hid (Ik Hk (ps.take (k+1))=true):=ZKQ
     have g7:Hid (Gl Hk (ps.take (k+1))=Gl Hk (ps.take k)++[⟨Hp (x.extract 0 i),x.extract (i+1) x.size⟩]):=ZUi
     have bz:(Gl Hk (ps.take k)).length=k:=by{rw[Un _ jZ.out,bJ];omega};clear kj bc jd ax jw QH;refine' ZKR;refine' ZGq;rw[bz]at hm;subst hm;clear ho;generalize Gl Hk (ps.take m)=gs at *;generalize Hp (x.extract 0 i)=nv at *
     refine' Tt;refine' ZC;refine(xn.out _).mono ?_;refine' ZP;clear xn;have hnq:Bj nv:=ZS
     obtain⟨cd,pP⟩:∃cd,x.extract (i+1) x.size=cd:=⟨_,rfl⟩;rw[pP]at t7 g7
     go_wp2_with (at_builtin;refine An (α:=Ltr) rfl (.tmp 44) (.tmp 54) 27 rfl w.heap.size 119 i0 _ 24 aV ji dr du dw rfl ZE (.slice Av m cp) gs ⟨nv,cd⟩ rfl (kQ.out.alloc _) ⟨w2.heap.size,0,none⟩ 1 (Ltr.cells ⟨nv,cd⟩) rfl ⟨⟨hnq,t7⟩,rfl⟩ (Bz w2 _ (Ltr.cells ⟨nv,cd⟩)) ZN ZA ZH ?_;refine' Zm)
     have gi:B_ w2 (w2.alloc (aB #[aH .i64 nv,aG cd] 119)):=Ae (aF _ _) _;have ju:Below w.heap.size w2 w4:=(gi.mono ap).trans (Ay (kQ.out.alloc _) a6 ZH);have uC:=(xK.out.alloc (aB #[aH .i64 nv,aG cd] 119)).grown a6 (Br fe.out);have cy:=Dg (n:=m+1) (c:=cap) fe.out mc (fun j hj=>((xK.out.alloc (aB #[aH .i64 nv,aG cd] 119)).blk j hj).2);refine' ZKK;exact ZKL
theorem BcN{ps:List Y_}{k}(hk:k<=ps.length)(jp:k<=31)(ib:k=ps.length\/30<k):ps.take 31=ps.take k:=by
 refine' ZGO
 .rw[show k=31 by omega]
theorem AqR{ps:List Y_}{k}(hk:k<ps.length)(jp:k<=30)(h:Ko (ps.take (k+1))=false):Ko (ps.take 31)=false:=
 P8 (AmL ZA) h
theorem ZCi(t w)(ht:t.size<=1000000000000):
 Calls Tryz.prog 44 #[.string t] w fun e w'=>∃v',e=.returned (.tuple #[v',.bool (Tf t)])/\own 128 w.heap.size w' v' (kS t)/\B_ w w':=by
 obtain⟨i0,ji,dr,du,dw⟩:=dD Tryz.infoFo;have lA:B_ w (w.alloc (aB #[] 128)):=(aF _ _).alloc (aC _) _;have pC:own (α:=Fwd) 128 w.heap.size (w.alloc (aB #[] 128)) (.slice (P_ w.heap.size) 0 0) []:=own.made0 w _ (aC _);refine' ZKB;go_enter func44,ntmps44;by_cases cv:zU t ⟨#[45]⟩=true
 .refine' ZRB;exact ZKC
 .refine' ZKD;have lg:=aA (BcS (t:=t));have HO:Hid (Tf t=Vm t):=by show _=_;rw[lg.out.1];unfold Tf;rw[pO];rfl
  have HR:Hid (kS t=if Vm t then Fx ((Aj 32 t).take 31)else []):=by show _=_;rw[lg.out.1];unfold kS;exact ZKE
  refine' ZKF;obtain⟨wA,wJ⟩:∃W,w.alloc (aB #[] 128)=W:=⟨_,rfl⟩;refine' ZKG;have ef:Hid (Vm t=(Ko (ps.take 31)&&zU (C5 (Fx (ps.take 31))) t)):=by show _=_;unfold Vm;rw[ev]
  clear ev;subst hn
  refine' ZC;go_loopw[4,6,7] (fun v i _ wr=>∃k:Nat,k<=ps.length/\k<=31/\i=.int .i64 k/\Ko (ps.take k)=true/\own 128 w.heap.size wr v (Fx (ps.take k))/\own 9 wA.heap.size wr (.slice A ps.length c) ps/\apart v (.slice A ps.length c)/\B_ w wr) (fun _ i _ _=>31 - (intOf i).toNat)
  case atStart=>exact ZKH
  case round=>
   obtain⟨k,hk,hk31,rfl,da,ho,q_,oT,lw⟩:=hrel;refine' ZGP;by_cases ib:k=ps.length\/30<k
   .have HT:=aA (BcN hk hk31 ib)
    refine' ZGQ;have HF:=Et _ _ w2 kQ.out.rd;clear ho hm;by_cases gq:k=ps.length
    .refine' ZGR;exact ZW7
    .refine' Zv;have s8:¬((k:Int)<=30):=ZA
     exact ZW7
   .refine' ZGS;have wL:k<=30:=ZA
    refine' Zv;have s8:(k:Int)<=30:=ZA
    refine' ZKI;have tz:=aA (AjP gq jZ.out);have ny:=aA (AqR gq wL);refine' ZKJ;have lO:=fun W=>Nq x 62 W pN
    by_cases bc:Lib.indexByte x.data.toList 62<0
    .have mZ:=aA (Ri bc)
     have HB:Hid (Vm t=false):=ZUG
     exact ZUH
    .refine' ZUI;go_region_law (go_loud (refine Ce (α:=Fwd) ZG (.tmp 32) (.tmp 47) 31 ZG w.heap.size 128 i0 _ 32 dY ji dr du dw rfl ZE (.slice Av m cp) gs ⟨x.extract 0 i,x.extract (i+1) x.size⟩ ZG ((kQ.out.alloc _).drew) ⟨w2.heap.size,0,none⟩ 1 (Fwd.cells ⟨x.extract 0 i,x.extract (i+1) x.size⟩) ZG ⟨HY.out,rfl⟩ (Ft w2 _ (Fwd.cells ⟨x.extract 0 i,x.extract (i+1) x.size⟩)) ZN ZA ZH ?_;refine' Zm))
     all_goals
      have gi:B_ w2 (w2.alloc (aB #[aG (x.extract 0 i),aG (x.extract (i+1) x.size)] 128)).drew:=Ag (Ae (aF _ _) _);refine' ZUJ;have uC:=((xK.out.alloc (aB #[aG (x.extract 0 i),aG (x.extract (i+1) x.size)] 128)).drew).grown a6 (Br fe.out);have cy:=Dg (n:=m+1) (c:=cap) fe.out mc (fun j hj=>((xK.out.alloc (aB #[aG (x.extract 0 i),aG (x.extract (i+1) x.size)] 128)).drew.blk j hj).2);refine' ZKK;go_wp2
      exact ZKL
theorem AaY(o:Ofc)(A c w)(hv:R_ w (.slice A o.rules.length c) o.rules)(hl:o.rules.length<=1000):
 Calls Tryz.prog 176 #[.agg #[.string o.name,.slice A o.rules.length c]] w fun e w'=>∃v',e=.returned (.agg #[.string o.name,v'])/\own 181 w.heap.size w' v' o.rules/\B_ w w':=by
 have HR0:=aA hv;clear hv;obtain⟨i0,hi,ah,ar,ap⟩:=dD Tryz.infoRul;obtain⟨W3,xi⟩:∃W3,W3=(((w.alloc (aB #[aG o.name,Value.slice A o.rules.length c] 45)).alloc (aB #[aG ⟨#[]⟩,Value.slice none 0 0] 45)).alloc (aB #[] 181)):=⟨_,rfl⟩;have z3:W3.heap.size=w.heap.size+1+1+1:=by subst xi;simp
 have B3:B_ w W3:=by subst xi;go_grown
 have k0:W3.cell? ⟨w.heap.size,0,none⟩=some (.string o.name):=X0
 have k1:W3.cell? ⟨w.heap.size,1,none⟩=some (.slice A o.rules.length c):=X0
 have j0:W3.cell? ⟨w.heap.size+1,0,none⟩=some (.string ⟨#[]⟩):=X0
 have j1:W3.cell? ⟨w.heap.size+1,1,none⟩=some (.slice none 0 0):=X0
 have f1:W3.frozen? ⟨w.heap.size,1,none⟩=false:=X0
 have g0:W3.frozen? ⟨w.heap.size+1,0,none⟩=false:=X0
 have g1:W3.frozen? ⟨w.heap.size+1,1,none⟩=false:=X0
 have HE:Hid (own (α:=Fwd) 181 (w.heap.size+1+1) W3 (.slice (some ⟨w.heap.size+1+1,0,none⟩) 0 0) []):=by have h:=own.made0 (α:=Fwd) ((w.alloc (aB #[aG o.name,Value.slice A o.rules.length c] 45)).alloc (aB #[aG ⟨#[]⟩,Value.slice none 0 0] 45)) 181 (aC _);subst xi;exact aA zI
 have HU:=aA (HR0.out.on B3);have NB:Hid (w.heap.size+1+1<=W3.heap.size):=Zi
 have ep:=aA B3;have HK:=aA (jU k0 (jU k1 (jU j0 (jU j1 (jU f1 (jU g0 g1))))));clear z3 B3 k0 k1 j0 j1 f1 g0 g1;subst xi;go_enter func176,ntmps176
 go_wp2_with (at_builtin;refine Cu (α:=Fwd) rfl (.tmp 3) (.tmp 5) 43 rfl (w.heap.size+1+1) 181 i0 _ 32 iO hi ah ar ap rfl ZE (.slice (some ⟨w.heap.size+1+1,0,none⟩) 0 0) [] rfl HE.out (.slice A o.rules.length c) o.rules rfl _ HU.out V5 ZH NB.out ?_;intro v4 w4 fd a6 _;rw[bT]at fd;have b4:=Ay HE.out a6 NB.out;obtain⟨k0,k1,j0,j1,f1,g0,g1⟩:=HK.out;obtain⟨A4,n4,c4,t8,wG,_⟩:=fd.rd;subst t8 wG;have jx:=aA fd;have bu:=aA (ep.out.trans (b4.mono ZA));replace k0:=(b4.cell (p:=⟨w.heap.size,0,none⟩) (show w.heap.size<_ by omega)).trans k0;replace k1:=(b4.cell (p:=⟨w.heap.size,1,none⟩) (show w.heap.size<_ by omega)).trans k1;replace j0:=(b4.cell (p:=⟨w.heap.size+1,0,none⟩) (show w.heap.size+1<_ by omega)).trans j0;replace j1:=(b4.cell (p:=⟨w.heap.size+1,1,none⟩) (show w.heap.size+1<_ by omega)).trans j1;replace f1:=(b4.frozen (p:=⟨w.heap.size,1,none⟩) (show w.heap.size<_ by omega)).trans f1;replace g0:=(b4.frozen (p:=⟨w.heap.size+1,0,none⟩) (show w.heap.size+1<_ by omega)).trans g0;replace g1:=(b4.frozen (p:=⟨w.heap.size+1,1,none⟩) (show w.heap.size+1<_ by omega)).trans g1;clear fd a6 b4)
 have O5:=Bd (Bd (Bd jx.out ⟨w.heap.size,1,none⟩ (Value.slice A4 o.rules.length c4) (by show w.heap.size<_;omega)) ⟨w.heap.size+1,0,none⟩ (aG o.name) ZKO) ⟨w.heap.size+1,1,none⟩ (Value.slice A4 o.rules.length c4) ZKO;have iu:=aA O5;clear O5;refine bodyPost_ret (v:=.agg #[.string o.name,.slice A4 o.rules.length c4]) (by simp[results,results176,go_sem,j0,j1]) rfl ⟨_,rfl,iu.out.base_ ZA,?_⟩;have B4:=bu.out;exact(((B4.setCell ZF _).setCell ZF _).setCell ZF _)
theorem AvC(v net w)(hv:R_ w v net)(hl:net.length<=1000)(qE:∀k (h:k<net.length),net[k].rules.length<=1000):
 Calls Tryz.prog 91 #[v] w fun e w'=>∃v',e=.returned v'/\AoW 45 181 w.heap.size w' v' net/\B_ w w':=by
 refine' Tu;have um:=aA qE;clear qE;obtain⟨i0,hi,ah,ar,ap⟩:=dD Tryz.infoOfc;go_enter func91,ntmps91
 refine' ZC;have qd:own (α:=OfV) 45 w.heap.size (w.alloc (aB #[] 45)) (.slice (P_ w.heap.size) 0 0) []:=own.made0 w _ (aC _);have l0:B_ w (w.alloc (aB #[] 45)):=(aF _ _).alloc (aC _) _;have uo:=aA (isN.none_ (T2:=181) qd);clear qd;generalize(w.alloc (aB #[] 45))=w0 at *
 go_loopw[3,9] (fun t i wr=>∃(k:Nat) (os:List OfV),k<=net.length/\i=.int .i64 k/\B_ w wr/\isN 45 181 w.heap.size wr t (net.take k) os) (fun _ i _=>net.length - (intOf i).toNat)
 case atStart=>exact ZHg
 case round=>
  obtain⟨k,os,hk,rfl,lr,hB⟩:=hrel;refine' YB;have HB:=aA hB;clear l0 uo;by_cases ab:k<net.length
  .refine' ZHi;have rW:os.length=k:=ZNE
   clear hB;obtain⟨b,o,A2,c2,rfl,hb,pF,hu,y1,y2⟩:=HR.out.ofcU k ab;have HS:Hid (net.take (k+1)=net.take k++[net[k]]):=aJ ab;have MJ:=um.out k ab;generalize net[k]=y at *;obtain⟨nm,ys⟩:=y;simp only at MJ y1 y2 pF hu;have y1:=y1 w1 lr;have y2:=y2 w1 lr;have HU:=aA hu;clear hu;refine' Tx;refine' zQ;have VR:os.length<=1000:=ZA
   clear rW;obtain⟨wb,kD⟩:∃u,u=w1.alloc (aB #[.string nm,.slice A2 ys.length c2] 45):=⟨_,rfl⟩;have lb:=(Aw kD).1;have xn:=aA pF;have bt:=aA kD;clear kD pF;have lwb:=Aa lr lb;have TB:=aA (HB.out.below lb)
   refine' ZC;rw[<-bt.out];refine(AaY ⟨nm,ys⟩ A2 c2 wb (HU.out.on lwb) MJ).mono ?_;refine' Y4;obtain⟨A5,m5,c5,rfl,BE,_,_,_⟩:=o2.rd;subst BE;have im:=aA o2;have uG:=Aa lwb b2;have jd:w.heap.size<=w2.heap.size:=uG.size;have uj:=lwb.size;have kV:=aA (TB.out.below b2);have rq:Hid (apart (.slice A5 (Ofc.mk nm ys).rules.length c5) (.slice AO os.length cO)):=Dd im.out TB.out.1 (aC _);have uB:Hid (∀i (h:i<os.length),apart (.slice A5 (Ofc.mk nm ys).rules.length c5) os[i].val):=fun i hi=>Dd im.out (TB.out.2.2.1 i hi (by have:=TB.out.2.1;omega)).2 (aC _)
   clear o2 b2
   dsimp only at im rq uB⊢
   go_wp2_with (at_builtin;refine An (α:=OfV) rfl (.tmp 13) (.tmp 16) 34 rfl w.heap.size 45 i0 _ 40 iN hi ah ar ap rfl ZE (.slice AO os.length cO) os ⟨nm,.slice A5 ys.length c5⟩ rfl (kV.out.1.alloc _) ⟨w2.heap.size,0,none⟩ 1 [.string nm,.slice A5 ys.length c5] rfl ⟨rfl,xn.out,rfl⟩ (Bz w2 _ [.string nm,.slice A5 ys.length c5]) ZN ZA ZH ?_;intro g cap w3 mz er so uI)
   have l3:B_ w w3:=(Ae uG (aB #[.string nm,.slice A5 ys.length c5] 45)).grown er ZH fun q hq=>(kV.out.1.blk q hq).1
   have ep:=aA (isN.snoc (kV.out.below (Ae (aF _ _) (aB #[.string nm,.slice A5 ys.length c5] 45))) ((im.out.base_ uj).alloc (aB #[.string nm,.slice A5 ys.length c5] 45)) rq.out uB.out mz er so);clear mz er;exact ZNF
  .refine' Sg;refine' ZO;have h:=HB.out;rw[HE.out,bA]at h;exact⟨_,rfl,⟨os,h⟩,lr⟩
theorem P7{c}:∀{l p:List UInt8},p∈s_ c l->p.length<=l.length
 |[],p,h=>ZUZ
 |b::l,p,h=>by
  by_cases hb:b=c
  .refine' ZUa
   .exact fK (P7 h)
  .refine' ZUb;rcases List.mem_cons.1 h with h|h
   .subst h
    exact Nat.succ_le_succ (P7 (c:=c) (l:=l) (by rw[hq];simp))
   .exact fK (P7 (c:=c) (l:=l) ZUc)
theorem AqK{c t p}(h:p∈Aj c t):p.size<=t.size:=by unfold Aj at h;obtain⟨l,hl,rfl⟩:=List.mem_map.1 h;have:=P7 hl;show l.toArray.size<=t.data.size;exact zV
section
variable{α:Type}{f:Y_->Option α}
theorem AuR{ps:List Y_}{k}(hk:k<ps.length)(h:Ik f (ps.take k)=true):Ik f (ps.take (k+1))=(f ps[k]).isSome:=ZUd
theorem AwF{ps:List Y_}{k}(hk:k<ps.length)(jp:k<=8)(h:Ik f (ps.take (k+1))=false):Ik f (ps.take 9)=false:=
 AaT (AmL ZA) h
end
theorem BcU{ps:List Y_}{k}(hk:k<=ps.length)(jp:k<=9)(ib:k=ps.length\/8<k):ps.take 9=ps.take k:=by
 refine' ZGO
 .rw[show k=9 by omega]
theorem AzV(t):(pf t).length<=1000/\∀k (h:k<(pf t).length),(pf t)[k].rules.length<=1000:=by
 unfold pf;by_cases h:Kx t=true
 .rw[aQ h]
  unfold Kx at h;refine' Xx;obtain⟨_,h⟩:=h;obtain⟨h1,h2⟩:=D1.1 h;refine⟨ZA,fun k hk=>?_⟩;have:=(Ev.1 (h2 k hk).2.2.2.1).1;omega
 .simp only[aM h]
  exact⟨aN _,fun k hk=>absurd hk (aX k)⟩
def snN(t:Y_):List Ofc:=if Yo t then Gl Jl ((Aj 59 t).take 9)else []
theorem BcF(t):snN t=pf t:=by
 obtain⟨h1,h2⟩:=BbI t;unfold snN pf;rw[h1]
 split
 .rename_i h;exact h2 h
 .rfl
theorem ZBB(t w)(ht:t.size<=1000000000000):
 Calls Tryz.prog 90 #[.string t] w fun e w'=>∃v' os,e=.returned (.tuple #[v',.bool (Yo t)])/\isN 45 181 w.heap.size w' v' (snN t) os/\B_ w w':=by
 obtain⟨i0,ji,dr,du,dw⟩:=dD Tryz.infoOfc;have lA:B_ w (w.alloc (aB #[] 45)):=(aF _ _).alloc (aC _) _;have pC:own (α:=OfV) 45 w.heap.size (w.alloc (aB #[] 45)) (.slice (P_ w.heap.size) 0 0) []:=own.made0 w _ (aC _);have LA:=aA lA;have qQ:=aA (isN.none_ (T2:=181) pC);clear lA pC;go_enter func90,ntmps90;have HR:Hid (snN t=if Yo t then Gl Jl ((Aj 59 t).take 9)else []):=rfl;have mg:=aA (ZBt 59 t);have ut:=aA (fun p h=>aI (AqK (c:=59) (t:=t) (p:=p) h) ht);have HC:=fun W=>I9 t 59 W ht
 refine' ZC;obtain⟨wA,wJ⟩:∃W,w.alloc (aB #[] 45)=W:=⟨_,rfl⟩;rw[wJ]at LA qQ⊢;clear wJ;refine(HC wA).mono ?_;rintro e w1 ⟨v,rfl,hp,b1⟩;clear HC;have qV:=R8 qQ.out.1 hp (aC _);obtain⟨A,n,c,rfl,hn,DX,bf,_⟩:=hp.rd;have iy:=qQ.out.below b1;have wK:B_ w w1:=LA.out.trans (b1.mono LA.out.size);have i8:=mg.out;clear mg b1;have ef:Hid (Yo t=(Ik Jl ((Aj 59 t).take 9)&&zU (Mx (Gl Jl ((Aj 59 t).take 9))) t)):=rfl;obtain⟨ps,ev⟩:∃ps,Aj 59 t=ps:=⟨_,rfl⟩;rw[ev]at hn i8 hp HR ef ut;clear ev;subst hn
 refine' ZC;go_loopw[4,6,7,8,9] (fun v i _ _ _ wr=>∃(k:Nat) (os:List OfV),k<=ps.length/\k<=9/\i=.int .i64 k/\Ik Jl (ps.take k)=true/\isN 45 181 w.heap.size wr v (Gl Jl (ps.take k)) os/\own 9 wA.heap.size wr (.slice A ps.length c) ps/\apart v (.slice A ps.length c)/\B_ w wr) (fun _ i _ _ _ _=>9 - (intOf i).toNat)
 case atStart=>exact⟨0,[],aN _,ZA,rfl,rfl,iy,hp,qV,wK⟩
 case round=>
  obtain⟨k,os,hk,UA,rfl,da,ho,q_,oT,lw⟩:=hrel;refine' ZGP;by_cases ib:k=ps.length\/8<k
  .have HT:=aA (BcU hk UA ib)
   refine' ZGQ;have HF:=AmJ _ _ w2 kQ.out.rd;clear ho hm;by_cases gq:k=ps.length
   .refine' ZGR;exact ZUe
   .refine' Zv;have s8:¬((k:Int)<=8):=ZA
    exact ZUe
  .refine' ZGS;have hk8:k<=8:=ZA
   refine' Zv;have s8:(k:Int)<=8:=ZA
   refine' ZUf;have HY1:=aA y1;refine' ZUg;have tz:=aA (AuR (f:=Jl) gq jZ.out);have ny:=aA (AwF (f:=Jl) gq hk8);refine' ZUh;have pI:=ut.out _ (aS gq);clear ib;generalize ps[k]=x at *;have lO:=fun W=>Nq x 32 W pN
   by_cases bc:Lib.indexByte x.data.toList 32<0
   .have mZ:=aA (Ri bc)
    have HB:Hid (Yo t=false):=by{show _=_;rw[ef.out,ny.out (by rw[tz.out];unfold Jl;rw[mZ.out];rfl)];rfl};clear ho
    refine' Tt;generalize Lib.indexByte x.data.toList 32=j at *
    refine' ZQ;exact⟨_,[],G9 HB.out,by rw[HR.out,HB.out];exact isN.none_ (own.made0 _ _ lw.size),lw.alloc lw.size _⟩
   .obtain⟨i,kj⟩:∃i:Nat,Lib.indexByte x.data.toList 32=(i:Int):=⟨(Lib.indexByte x.data.toList 32).toNat,ZA⟩
    refine' ZKP;have sf:Hid (Jl x=some ⟨x.extract 0 i,kT (x.extract (i+1) x.size)⟩):=by{show _=_;unfold Jl;rw[ax];rfl};have HY:Hid ((x.extract 0 i).size<=maxLen):=aI jw.1 pN;have pE:Hid (Ik Jl (ps.take (k+1))=true):=ZKQ
    have g7:Hid (Gl Jl (ps.take (k+1))=Gl Jl (ps.take k)++[⟨x.extract 0 i,kT (x.extract (i+1) x.size)⟩]):=ZUi
    have ED:=aA (fun W=>AeD (x.extract (i+1) x.size) W ZA);have bz:os.length=k:=by{rw[ho.2.1,Un _ jZ.out,bJ];omega};clear kj bc jd ax jw;refine' ZKR;obtain⟨Av,m,cp,rfl,hm,_,_,_⟩:=ho.1.rd;rw[bz]at hm;subst hm;clear ho;generalize Gl Jl (ps.take m)=gs at *
    refine' Tt;refine' ZC;refine(ED.out _).mono ?_;rintro e w3 ⟨vq,rfl,AP,b3⟩;obtain⟨Aq,nq,cq,rfl, -, -, -, -⟩:=AP.rd;have JO:=aA AP;have IF:=aA (kQ.out.below b3);have QA:=aA (xK.out.below b3);have rq:Hid (apart (.slice Aq nq cq) (.slice Av m cp)):=Dd AP kQ.out.1 (aC _);have uB:Hid (∀i (h:i<os.length),apart (.slice Aq nq cq) os[i].val):=fun i hi=>Dd JO.out (kQ.out.2.2.1 i hi (by have:=kQ.out.2.1;omega)).2 (aC _)
    have jt:=Aa lw b3;replace y1:=HY1.out w3 b3;have fu:=jt.size;clear AP b3
    go_wp2_with (at_builtin;refine An (α:=OfV) rfl (.tmp 42) (.tmp 51) 34 rfl w.heap.size 45 i0 _ 40 iN ji dr du dw rfl ZE (.slice Av m cp) os ⟨x.extract 0 i,.slice Aq nq cq⟩ rfl (IF.out.1.alloc _) ⟨w3.heap.size,0,none⟩ 1 [.string (x.extract 0 i),.slice Aq nq cq] rfl ⟨rfl,HY.out,rfl⟩ (Bz w3 _ [.string (x.extract 0 i),.slice Aq nq cq]) ZN ZA ZH ?_;refine' Zm)
    have gi:B_ w3 (w3.alloc (aB #[aG (x.extract 0 i),.slice Aq nq cq] 45)):=Ae (aF _ _) _;have ju:Below w.heap.size w3 w4:=(gi.mono fu).trans (Ay (IF.out.1.alloc _) a6 ZH);have uC:=(QA.out.alloc (aB #[aG (x.extract 0 i),.slice Aq nq cq] 45)).grown a6 (Br fe.out);have cy:=Dg (n:=os.length+1) (c:=cap) fe.out mc (fun j hj=>((QA.out.alloc (aB #[aG (x.extract 0 i),.slice Aq nq cq] 45)).blk j hj).2);have bu:=aA (isN.snoc (IF.out.below gi) ((JO.out.base_ ap).below gi) rq.out uB.out fd a6 mc);have HL4:=aA (jt.trans ju);have FA:=aA uC;have pu:=aA cy;rw[bz]at bu pu;clear gi a6 fd ju uC cy;go_roundw
    case rel=>exact⟨m+1,_,ZA,ZA,ZJ,pE.out,by rw[g7.out];exact bu.out,FA.out,pu.out,HL4.out⟩
    case measure=>exact ZK
theorem ZD7(t w)(ht:t.size<=1000000000000):
 Calls Tryz.prog 45 #[.string t] w fun e w'=>∃v',e=.returned (.tuple #[v',.bool (Kx t)])/\AoW 45 181 w.heap.size w' v' (pf t)/\B_ w w':=by
 have HL:=aA (AzV t);have IG:=fun W=>ZBB t W ht
 rw[BcF,(BbI t).1]at IG;go_enter func45,ntmps45
 refine' ZC;refine(IG _).mono ?_;clear IG;rintro e w1 ⟨v1,os,rfl,h1,b1⟩;have i6:=aA h1.rd;obtain⟨A,n,c,rfl, -, -, -, -⟩:=h1.rd;clear h1
 refine' ZC;refine(AvC _ (pf t) w1 i6.out HL.out.1 HL.out.2).mono ?_;rintro e w2 ⟨v2,rfl,h2,b2⟩;have im:=aA h2;obtain⟨A2,n2,c2,rfl, -, -, -, -⟩:=h2.rd;have l2:=Aa b1 b2;have hs:=b1.size;clear h2 b2
 refine' ZQ;obtain⟨os2,h2⟩:=im.out;exact⟨_,rfl,⟨os2,h2.base_ hs⟩,l2⟩
end Go.Proofs.YtfadhdacjpmmeaaGreatDoor
