/- Parts. -/
import Derived.Test.YtfadhdacjpmmeaaGreatDoorQ9
import Derived.Test.YtfadhdacjpmmeaaGreatDoorQ7
set_option linter.unusedVariables false
set_option linter.unusedSimpArgs false
namespace Go.Proofs.YtfadhdacjpmmeaaGreatDoor
set_option maxRecDepth 100000
set_option maxHeartbeats 3200000
open Go.IntKind renaming i64→aI
open Go.Obj renaming cells→aC
open Go.Proofs.Tryz renaming prog→aB
open Go.Value renaming string→aK,int→bC
open Go.RowKit
theorem BcL{w B p A c}(h:rdP w B (.agg #[.int .i64 p.bins,.int .i64 p.passes,.slice A p.order.length c]) p):rd w B (.slice A p.order.length c) p.order:=by obtain⟨vo,h1,_,_,h4⟩:=h;refine' ZEW;subst h1;exact h4
theorem AtW{v xs c r w}(hv:rd w w.heap.size v xs)(h:rkI xs c=r):
 Calls aB 226 #[v,.string c] w fun e w'=>e=.returned (.int .i64 r)∧w=w':=by rw[←h];exact Nf v xs c w hv
theorem AfK{v xs c r w}(hv:rd w w.heap.size v xs)(h:rkI xs c=r):
 Calls aB 161 #[v,.string c] w fun e w'=>e=.returned (.int .i64 r)∧w=w':=by rw[←h];exact Lw v xs c w hv
theorem Yb(v p c)(k:Nat)(w)(hv:rdP w w.heap.size v p)(h1:2≤p.bins)(h2:p.bins≤16)(hk:k≤4)(hl:p.order.length≤1000):
 Calls aB 303 #[v,.string c,.int .i64 k] w fun e w'=>e=.returned (.int .i64 (Dm p c k))∧Below w.heap.size w w':=by
 refine' ZLR;have C2:=aA (fun w=>Xh p.bins k w h1 h2 hk);go_enter Tryz.func303,Tryz.ntmps303
 refine' zD;refine(AtW HO.out aj.out).mono ?_;refine' ZLS;have C3:Hid (∀w:World,Calls aB 317 #[.int .i64 p.bins,.int .i64 k] w fun e w'=>e=.returned (.int .i64 q)∧w=w'):=fun w=>ZLT
 refine' ZLU;go_quiet (first|(go_at_call 317;refine Da (C3.out _)))
 clear xI bt;refine' ZO;exact⟨Bo (by rw[HE.out]),Aa HT.out (Ba l0 _)⟩
theorem Sd(v p c)(k:Nat)(w)(hv:rdP w w.heap.size v p)(h1:2≤p.bins)(h2:p.bins≤16)(hk:k≤4)(hl:p.order.length≤1000):
 Calls aB 171 #[v,.string c,.int .i64 k] w fun e w'=>e=.returned (.int .i64 (Dm p c k))∧Below w.heap.size w w':=by
 refine' ZLR;have C2:=aA (fun w=>AaN p.bins k w h1 h2 hk);go_enter Tryz.func171,Tryz.ntmps171
 refine' zD;refine(AfK HO.out aj.out).mono ?_;refine' ZLS;have C3:Hid (∀w:World,Calls aB 170 #[.int .i64 p.bins,.int .i64 k] w fun e w'=>e=.returned (.int .i64 q)∧w=w'):=fun w=>ZLT
 refine' ZLU;go_quiet (first|(go_at_call 170;refine Da (C3.out _)))
 clear xI bt;refine' ZO;exact⟨Bo (by rw[HE.out]),Aa HT.out (Ba l0 _)⟩
theorem Ox(v p k w)(hv:rdP w w.heap.size v p):
 Calls aB 301 #[v,.int .i64 k] w fun e w'=>e=.returned (.bool (Ku p k))∧Below w.heap.size w w':=by
 refine' ZCE;subst e0;refine' zX;clear ac hv;refine' ZAH;have HQ:Hid (Ku p k=(Bq p&&(decide (0≤k)&&decide (k<p.passes)))):=rfl;go_enter Tryz.func301,Tryz.ntmps301
 refine' ZGw;cases h1:Bq p
 exact ZGx;refine' zS;by_cases h2:0≤k
 ·by_cases h3:k<p.passes
  ·have H2:=aA (aJ h2);have H3:=aA (aJ h3)
   refine' ZI;exact⟨Al ZGy,Aa HT.out l1⟩
  ·have H2:=aA (aJ h2);have H3:=aA (aO h3)
   have sO:=aO h3
   refine' ZI;exact⟨Al ZGy,Aa HT.out l1⟩
 ·have H2:=aA (aO h2)
  have h2':=aO h2
  refine' ZI;exact⟨Al ZEX,Aa HT.out l1⟩
theorem Tryz.infoRow:(aB.info? 27).map (fun i=>(i.zero,i.size,i.bytes))=some (some (.slice none 0 0),1,24):=ZB
theorem Qz(v)(xss:List (List Ltr))(w)(hv:rd w w.heap.size v xss)(hl:xss.flatten.length≤1048576):
 Calls aB 283 #[v] w fun e w'=>∃v',e=.returned v'∧own 119 w.heap.size w' v' xss.flatten∧Below w.heap.size w w':=by
 refine' ZAh;refine' zw;have HL:=aA hl;clear hl;refine' ZDK;go_enter Tryz.func283,Tryz.ntmps283;go_wp2
 go_loopw[3,8] (fun t i wr=>∃k:Nat,k≤xss.length∧i=.int .i64 k∧Below w.heap.size w wr∧own 119 w.heap.size wr t (xss.take k).flatten) (fun _ i _=>xss.length - (intOf i).toNat)
 case atStart=>exact⟨0,aM _,rfl,l0,own.nil_ _ _ _⟩
 case round=>
  refine' ZBj;refine' zR;clear l0;by_cases ab:k<xss.length
  ·refine' ZLV;go_wp2_with (at_builtin;refine Cu (α:=Ltr) rfl (.tmp 12) (.tmp 13) 27 rfl w.heap.size 119 i0 _ 24 aV hi ah aw aq rfl ZF (.slice A3 zs.length c3) zs rfl df.out (.slice A2 m2 c2) ys rfl w1.heap.size (HU.out.on lr) (by have:=lF.out;exact ZN) (by have:=lF.out;omega) lr.size ?_;intro v' w2 kG sn _)
   exact ZLW
  exact ZLX
theorem Ho{α:Type}[Flat α]{T1 T2 base:Nat}{w w' v u}{xss:List (List α)}{vs}(h:Fi T1 T2 base w v xss vs)(hf:D7 u v vs)(hg:w.grownBy w' u.ownBlock):Fi T1 T2 base w' v xss vs:=
 h.grown hg (Br hf.1) fun k hk=>Br (hf.2 k hk)
theorem Ma(v vb vm p xs)(k0:Nat)(ms w)(hv:rdP w w.heap.size v p)(hb:rd w w.heap.size vb xs)(hm:rd w w.heap.size vm ms)
 (h1:2≤p.bins) (h2:p.bins≤16) (gx:k0≤4) (nN:p.order.length≤1000) (xD:∀m∈ms,0≤m.bin∧m.bin<p.bins) (hl:xs.length≤1000):
 Calls aB 245 #[v,vb,.int .i64 k0,vm] w fun e w'=>∃vB vO vs,e=.returned (.tuple #[vB,vO])∧Fi 27 119 w.heap.size w' vB (Bm (fun x=>Ej ms x (Dm p x.code k0)) p.bins.toNat xs) vs∧own 119 w.heap.size w' vO (Bn (fun x=>Ej ms x (Dm p x.code k0)) xs)∧D7 vO vB vs∧Below w.heap.size w w':=by
 refine' ZCE;have pA:=hb.on HT.out;have ly:=hm.on HT.out;subst e0;obtain⟨A,n,cp,rfl,hn,hc,nD,hr⟩:=pA;subst hn;obtain⟨A',n',cp',rfl,rZ,hc',OQ,tB⟩:=ly;subst rZ;unfold maxLen at nD OQ;refine' ZAI;have HM:=aA tB;refine' ZLY;clear ac hv hb hm hr tB ah;refine' ZAH;refine' ZGq;have HF:Hid (∀x:Ltr, -1≤Ej ms x (Dm p x.code k0)∧Ej ms x (Dm p x.code k0)<N):=fun x=>by have:=Zc xD x _ (M2 p x.code k0 h1);have:=HN.out;omega
 clear xD;refine' ZLH;go_enter Tryz.func245,Tryz.ntmps245;go_wp2;rw[←dc.out];have jj:=I3 (α:=Ltr) w0 27 119 N w0.heap.size (aD _) ZN;refine' ZLZ;refine' ZLa;refine' ZGv;clear hG ez;obtain⟨ov,ix⟩:=ix;have ky:=aA ix;clear ix
 go_loopw[11,22] (fun t i wr=>∃(k:Nat) (vs:List Value),k≤xs.length∧i=.int .i64 k∧Below w0.heap.size w0 wr∧Fi 27 119 w0.heap.size wr (.slice (some ⟨G,0,none⟩) N N) (Bm f N (xs.take k)) vs∧own 119 w0.heap.size wr t (Bn f (xs.take k))∧Hid (D7 t (.slice (some ⟨G,0,none⟩) N N) vs)) (fun _ i _=>xs.length - (intOf i).toNat)
 case atStart=> refine' ZKq;exact ZDI
 case round=>
  refine' ZGr;have HB:=aA hB;have HO:=aA hO;clear l0 lz ky hB;refine' ZEU;by_cases ab:k<xs.length
  ·refine' ZGs;refine' ZLb;have y0:=Af cz 0 (.int .i64 x.id) rfl;have y1:=Af cz 1 (.string x.code) rfl;have ll:=Aa lr (Aw cz).1;have BL:=aA (Aw cz).1;have vJ:=aA cz;clear cz;refine' YQ;obtain⟨b0,fi⟩:∃b0,Hid (Dm p x.code k0=b0):=⟨_,rfl⟩
   refine' ZC;rw[←vJ.out];refine(Yb _ p x.code k0 _ (HP.out.on ll) h1 h2 gx nN).mono ?_;rw[fi.out];refine' zK;have m2:=Aa (aF wl.heap.size wl) b2;clear b2
   refine' ZC;go_loopw[14,33] (fun t i wi=>∃m:Nat,m≤ms.length∧i=.int .i64 m∧t=.int .i64 (Ej (ms.take m) x b0)∧Below wl.heap.size wl wi) (fun _ i _=>ms.length - (intOf i).toNat)
   case atStart=>exact⟨0,aM _,rfl,rfl,m2⟩
   case round=>
    obtain⟨m,hm,rfl,rfl,li⟩:=hrel;refine' zj;have i6:=Aa ll li;clear m2;by_cases nE:m<ms.length
    ·obtain⟨b',o',rfl,pA,⟨OT,hyb⟩,d1,d2⟩:=HM.out.misU m nE
     have HMT:=aA (AoD nE x b0);generalize ms[m]=y at *;have uJ:(m:Int)<(ms.length:Int):=ZA
     by_cases kg:y.id=x.id
     ·refine' ZGe;go_wp2
      go_roundw
      case rel=>exact⟨m+1,ZA,ZJ,by rw[HMT.out,aP HY.out],Ae li _⟩
      case measure=>exact ZK
     ·refine' ZGf;go_roundw
      case rel=>exact⟨m+1,ZA,ZJ,by rw[HMT.out,aL HY.out],Ae li _⟩
      case measure=>exact ZK
    ·have HME:=aA (show m=ms.length by omega)
     have OU:Hid (Ej (ms.take m) x b0=f x):=by show _=_;rw[HME.out,aY,jY.out,fi.out]
     rw[OU.out];refine' ZGt;have B3:=BL.out.trans (li.mono BL.out.size);refine' ZLc;refine' ZGu;by_cases az:f x<0
     ·refine' ZGz;go_wp2_with (at_builtin;refine An (α:=Ltr) rfl (.tmp 47) (.tmp 49) 27 rfl w0.heap.size 119 i1 _ 24 aV ji dp dq dr rfl ZF (.slice AO (Bn f (xs.take k)).length cO) (Bn f (xs.take k)) x rfl (fg.out.alloc _) ⟨w3.heap.size,0,none⟩ 1 (Ltr.cells x) rfl ⟨⟨fa,ew⟩,rfl⟩ (Bz w3 _ (Ltr.cells x)) ZN ZA ZH ?_;refine' ZAi)
      exact ZG0
     ·refine' ZG1;rw[HD.out];refine' ZG2;go_region_law (go_loud ((refine Ce (α:=Ltr) ZG (.tmp 56) (.tmp 58) 27 ZG w0.heap.size 119 i1 _ 24 aV ji dp dq dr rfl ZF (.slice Au zs.length cu) zs x ZG ((jc.out.alloc _).drew) ⟨w3.heap.size,0,none⟩ 1 (Ltr.cells x) ZG ⟨⟨fa,ew⟩,rfl⟩ (Ft w3 _ (Ltr.cells x)) ZN ZA ZH ?_;refine' ZDL)))
      all_goals exact ZG3
  ·exact ZLd
theorem Im(v)(xss:List (List Ltr))(w)(hv:rd w w.heap.size v xss)(hl:xss.flatten.length≤1048576):
 Calls aB 75 #[v] w fun e w'=>∃v',e=.returned v'∧own 119 w.heap.size w' v' xss.flatten∧Below w.heap.size w w':=by
 refine' ZA3;have HL:=aA hl;clear hl;refine' ZDK;go_enter Tryz.func75,Tryz.ntmps75;go_wp2;have ox:own (α:=Ltr) 119 w.heap.size (w.alloc (aC #[] 119)) (.slice (some ⟨w.heap.size,0,none⟩) 0 0) []:=own.made0 w _ (aD _);have l0:Below w.heap.size w (w.alloc (aC #[] 119)):=(aF _ _).alloc (aD _) _;generalize(w.alloc (aC #[] 119))=w0 at *
 go_loopw[3,4] (fun t i wr=>∃k:Nat,k≤xss.length∧i=.int .i64 k∧Below w.heap.size w wr∧own 119 w.heap.size wr t (xss.take k).flatten) (fun _ i _=>xss.length - (intOf i).toNat)
 case atStart=>exact⟨0,aM _,rfl,l0,ox⟩
 case round=>
  refine' ZBj;refine' zR;clear l0 ox;by_cases ab:k<xss.length
  ·refine' ZLV;go_wp2_with (at_builtin;refine Cu (α:=Ltr) rfl (.tmp 12) (.tmp 16) 27 rfl w.heap.size 119 i0 _ 24 aV hi ah aw aq rfl ZF (.slice A3 zs.length c3) zs rfl df.out (.slice A2 m2 c2) ys rfl w1.heap.size (HU.out.on lr) (by have:=lF.out;exact ZN) (by have:=lF.out;omega) lr.size ?_;intro v' w2 kG sn _)
   exact ZLW
  exact ZLX
theorem Np(v vb p xs)(k0:Nat)(w)(hv:rdP w w.heap.size v p)(hb:rd w w.heap.size vb xs)
 (h1:2≤p.bins) (h2:p.bins≤16) (gx:k0≤4) (nN:p.order.length≤1000) (hl:xs.length≤1000):
 Calls aB 74 #[v,vb,.int .i64 k0] w fun e w'=>∃vB vO vs,e=.returned (.tuple #[vB,vO])∧Fi 27 119 w.heap.size w' vB (Bm (fun x=>Dm p x.code k0) p.bins.toNat xs) vs∧own 119 w.heap.size w' vO (Bn (fun x=>Dm p x.code k0) xs)∧D7 vO vB vs∧Below w.heap.size w w':=by
 refine' ZCE;have pA:=hb.on HT.out;subst e0;obtain⟨A,n,cp,rfl,hn,hc,nD,hr⟩:=pA;subst hn;unfold maxLen at nD;refine' ZAI;refine' ZLY;clear ac hv hb hr ah;refine' ZAH;refine' ZGq;have HF:Hid (∀x:Ltr, -1≤Dm p x.code k0∧Dm p x.code k0<N):=fun x=>by have:=M2 p x.code k0 h1;have:=HN.out;omega
 obtain⟨f,kA⟩:∃f:Ltr→Int,Hid (f=fun x=>Dm p x.code k0):=⟨_,rfl⟩;rw[←kA.out];have jY:Hid (∀x,f x=Dm p x.code k0):=fun x=>by rw[kA.out]
 rw[rE.out];go_enter Tryz.func74,Tryz.ntmps74;refine' ZLI;go_loopw[9,10] (fun t i wr=>∃(k:Nat) (vs:List Value),k≤xs.length∧i=.int .i64 k∧Below w0.heap.size w0 wr∧Fi 27 119 w0.heap.size wr (.slice (some ⟨G,0,none⟩) N N) (Bm f N (xs.take k)) vs∧own 119 w0.heap.size wr t (Bn f (xs.take k))∧Hid (D7 t (.slice (some ⟨G,0,none⟩) N N) vs)) (fun _ i _=>xs.length - (intOf i).toNat)
 case atStart=> refine⟨0,ov,aM _,rfl,wK,?_,uU.out,sW.out⟩;exact ZDI
 case round=>
  refine' ZGr;have HB:=aA hB;have HO:=aA hO;clear l0 wK ky hB uU sW;refine' ZEU;by_cases ab:k<xs.length
  ·refine' ZGs;refine' YQ;have ld:=Ag lr;have HC:Hid (∀W,Below w0.heap.size w0 W→Calls aB 171 #[.agg #[.int .i64 p.bins,.int .i64 p.passes,.slice A0 p.order.length c0],.string x.code,.int .i64 k0] W fun e w'=>e=.returned (.int .i64 (f x))∧Below W.heap.size W w'):=fun W hW=>by rw[jY.out];exact Sd _ p x.code k0 W (HP.out.on hW) h1 h2 gx nN
   refine' ZLJ;refine' ZGt;refine' ZLc;clear b3 ld B3;refine' ZGu;by_cases az:f x<0
   ·refine' ZGz;go_wp2_with (at_builtin;refine An (α:=Ltr) rfl (.tmp 32) (.tmp 37) 27 rfl w0.heap.size 119 i1 _ 24 aV ji dp dq dr rfl ZF (.slice AO (Bn f (xs.take k)).length cO) (Bn f (xs.take k)) x rfl (fg.out.alloc _) ⟨w3.heap.size,0,none⟩ 1 (Ltr.cells x) rfl ⟨⟨fa,ew⟩,rfl⟩ (Bz w3 _ (Ltr.cells x)) ZN ZA ZH ?_;refine' ZAi)
    exact ZG0
   ·refine' ZG1;rw[HD.out];refine' ZG2;go_region_law (first|((refine Ce (α:=Ltr) ZG (.tmp 44) (.tmp 49) 27 ZG w0.heap.size 119 i1 _ 24 aV ji dp dq dr rfl ZF (.slice Au zs.length cu) zs x ZG ((jc.out.alloc _).drew) ⟨w3.heap.size,0,none⟩ 1 (Ltr.cells x) ZG ⟨⟨fa,ew⟩,rfl⟩ (Ft w3 _ (Ltr.cells x)) ZN ZA ZH ?_;refine' ZDL)))
    all_goals exact ZG3
  ·exact ZLd
def Gf(L:List (Nat×Nat))(n:Nat):Nat:=L.foldl (fun a x=>if x.1≤n then max a x.2 else a) 0
def Q8(L:List (Nat×Nat))(n:Nat):Nat:=L.foldl (fun a x=>if x.1=n then max a x.2 else a) 0
def Kg(L:List (Nat×Nat)):Nat:=L.foldl (fun a x=>max a x.2) 0
def Xi(L:List (Nat×Nat))(r:Int):List (Nat×Nat):=if r<0 then L else L++[(r.toNat,Gf L r.toNat+1)]
def Hd(rs:List Int):List (Nat×Nat):=rs.foldl Xi []
theorem Xn(L x n):Gf (L++[x]) n=if x.1≤n then max (Gf L n) x.2 else Gf L n:=by unfold Gf;exact ZBo
theorem AfE(L x n):Q8 (L++[x]) n=if x.1=n then max (Q8 L n) x.2 else Q8 L n:=by unfold Q8;exact ZBo
theorem X9(L x):Kg (L++[x])=max (Kg L) x.2:=by unfold Kg;exact ZBo
theorem Ak7(rs r):Hd (rs++[r])=Xi (Hd rs) r:=by unfold Hd;exact ZBo
theorem Rt(rs:List Int)(k)(h:k<rs.length):Hd (rs.take (k+1))=Xi (Hd (rs.take k)) rs[k]:=by rw[aH h,Ak7]
def Mz(g:Nat→Nat):Nat→Nat
 |0=>g 0
 |n+1=>max (Mz g n) (g (n+1))
theorem AdC{g g':Nat→Nat}:∀n,(∀j,j≤n→g j=g' j)→Mz g n=Mz g' n
 |0,h=>h 0 (aD _)
 |n+1,h=>by unfold Mz;rw[AdC n fun j hj=>h j ZA,h (n+1) (aD _)]
theorem AkT(g:Nat→Nat)(r f):∀n,Mz (fun j=>if r=j then max (g j) f else g j) n=if r≤n then max (Mz g n) f else Mz g n
 |0=>by
  unfold Mz;by_cases h:r=0
  ·simp[h]
  ·simp[h]
 |n+1=>by
  unfold Mz;rw[AkT g r f n];by_cases h1:r≤n
  ·rw[aP h1,aL ZA,aP ZA];omega
  ·rw[aL h1]
   by_cases h2:r=n+1
   ·rw[aP h2,aP ZA];omega
   ·rw[aL h2,aL ZA]
theorem AgL:∀n,Mz (fun _=>0) n=0
 |0=>rfl
 |n+1=>by unfold Mz;rw[AgL n];rfl
theorem AnQ{α:Type}{p:List α→Prop}(h0:p [])(h1:∀l a,p l→p (l++[a]))(l):p l:=by
 have:∀n (l:List α),l.length=n→p l:=fun n=>by
  induction n with
  |zero=>intro l hl;rw[List.length_eq_zero_iff.1 hl];exact h0
  |succ n ih=>
   intro l hl;have bj:l≠[]:=by intro h;rw[h]at hl;simp at hl
   rw[←List.dropLast_concat_getLast bj];exact h1 _ _ (ih _ ZBP)
 exact this _ l rfl
theorem Aq5(L n):Mz (Q8 L) n=Gf L n:=by
 induction L using AnQ with
 |h0=>exact AgL n
 |h1 L x ih=> rw[Xn,←ih,←AkT];exact AdC n fun j _=>AfE L x j
theorem Ur(g:Nat→Nat):∀n j,j≤n→g j≤Mz g n
 |0,j,h=>by
  obtain rfl:j=0:=ZA
  exact YV
 |n+1,j,h=>by
  unfold Mz;by_cases hj:j=n+1
  ·rw[hj];omega
  ·have:=Ur g n j ZA;omega
theorem AsG(L r j):Q8 (L++[(r,Gf L r+1)]) j=if r=j then Gf L r+1 else Q8 L j:=by
 rw[AfE];by_cases h:r=j
 ·subst h
  refine' ZR;have:=Ur (Q8 L) r r (aD _);rw[Aq5]at this;omega
 ·rw[aL h,aL h]
theorem Pv(rs n):Gf (Hd rs) n≤rs.length∧Kg (Hd rs)≤rs.length:=by
 induction rs using AnQ generalizing n with
 |h0=>exact⟨aD _,aD _⟩
 |h1 rs r ih=>
  rw[Ak7];unfold Xi;have h1:=ih n
  split
  ·exact ZH
  ·have h2:=ih r.toNat
   rw[Xn,X9];simp only[aS,bZ,cK]
   split<;>omega
def Gt(p:Pln)(xs:List Ltr):List Int:=xs.map fun x=>rkI p.order x.code
def AgR(p:Pln)(xs:List Ltr):Nat:=Kg (Hd (Gt p xs))
def Jh(p:Pln)(xs:List Ltr):Int:=if Bq p&&okB xs then AgR p xs else -1
def N4(g:Nat→Nat)(n:Nat):List Int:=(List.range n).map fun j=>((g j:Nat):Int)
theorem Gp(g:Nat→Nat)(n):(N4 g n).length=n:=by simp[N4]
theorem J4(g:Nat→Nat)(n k)(h:k<(N4 g n).length):(N4 g n)[k]=((g k:Nat):Int):=by simp[N4]
theorem AtQ(g:Nat→Nat)(n k)(h:k≤n):(N4 g n).take k=N4 g k:=by
 apply dI
 ·simp[Gp];omega
 ·intro i h1 h2
  rw[jC,J4,J4]
theorem Ah5(g:Nat→Nat)(n r f:Nat):(N4 g n).set r (f:Int)=N4 (fun j=>if r=j then f else g j) n:=by
 apply dI
 ·simp[Gp]
 ·intro i h1 h2
  rw[iO,J4,J4]
  split<;>rfl
theorem Xt{g g':Nat→Nat}{n}(h:∀j,j<n→g j=g' j):N4 g n=N4 g' n:=by
 apply dI
 ·simp[Gp]
 ·intro i h1 h2
  rw[J4,J4,h i (by simpa [Gp]using h1)]
theorem Su{T base g n c:Nat}{w xs}(h:own T base w (.slice (some ⟨g,0,none⟩) n c) xs){k}(hk:k<xs.length)(y)(hy:Bj y):
 own T base (w.setCell ⟨g,k,none⟩ (.int .i64 y)) (.slice (some ⟨g,0,none⟩) n c) (xs.set k y):=by
 have h1:=h.setCell (k:=k) (j:=0) hk ZF (.int .i64 y) y (fun ecs he=>ZMG)
 rw[show k*El.size Int+0=k from dZ k]at h1;exact h1
theorem Tryz.infoInt:(aB.info? 3).map (fun i=>(i.zero,i.size,i.bytes))=some (some (.int .i64 0),1,8):=ZB
theorem AkA(w:World)(n base)(hb:base≤w.heap.size)(hn:n≤maxLen):own 3 base (w.alloc (.cells (madeCells #[.int .i64 0] n) 3)) (.slice (some ⟨w.heap.size,0,none⟩) n n) (N4 (fun _=>0) n):=by
 have hf:Ck 3 (w.alloc (.cells (madeCells #[.int .i64 0] n) 3)) w.heap.size n n (N4 (fun _=>0) n):=by
  refine⟨madeCells #[.int .i64 0] n,bD w _,ZAK,fun i hi pJ=>⟨[.int .i64 0],⟨?_,?_⟩,fun j u hu=>?_⟩⟩
  ·rw[J4];exact zL
  ·rw[J4];rfl
  ·refine' ZID;rw[show i*El.size Int+0=i from dZ i];simp[madeCells,Nat.mod_one,show i<n by simpa [Gp]using hi]
 exact hf.own (by rw[Gp]) hb hn
theorem Ap9(v)(g:Nat→Nat)(n w)(hv:rd w w.heap.size v (N4 g (n+1))):
 Calls aB 276 #[v] w fun e w'=>e=.returned (.int .i64 (Mz g n:Nat))∧w=w':=by
 obtain⟨A,m,c,rfl,hn,hc,hm,hr⟩:=hv;rw[Gp]at hn;refine' zk;obtain⟨b,o,rfl,hb,i0,c0⟩:=HR.out.int 0 (by rw[Gp];omega);rw[J4]at c0 i0;have c0':w.cell? ⟨b,o,none⟩=some (.int .i64 (g 0:Nat)):=c0;clear c0;have h1:¬((n:Int)+1<1):=ZA
 go_enter Tryz.func276,Tryz.ntmps276;go_wp2
 go_loop[3,4] (fun t i=>∃(k m:Nat),k≤n∧i=.int .i64 ((k:Int)+1)∧t=.int .i64 (m:Int)∧Hid (m=Mz g k)) (fun _ i=>n+1 - (intOf i).toNat)
 case atStart=>exact⟨0,g 0,aM _,rfl,rfl,rfl⟩
 case round=>
  obtain⟨k,m,hk,rfl,rfl,HM⟩:=hrel;by_cases ab:k<n
  ·obtain⟨b',o',hA,_,_,c1⟩:=HR.out.int (k+1) (by rw[Gp];omega)
   refine' ZAr;rw[J4]at c1;have hx:Mz g (k+1)=max m (g (k+1)):=by rw[HM.out];rfl
   have HX:=aA hx;clear hx;generalize g (k+1)=y at *;have oG:w.cell? ⟨b,o+(k+1),none⟩=some (.int .i64 (y:Int)):=c1;clear c1;have jO:(0:Int)≤(k:Int)+1:=ZA
   have kP:((k:Int)+1).toNat=k+1:=ZA
   by_cases hmy:(m:Int)<(y:Int)
   ·go_wp2
    go_round
    case rel=>exact⟨k+1,y,ZA,ZJ,rfl,by show _=_;rw[HX.out];omega⟩
    case measure=>exact ZK
   ·go_wp2
    go_round
    case rel=>exact⟨k+1,m,ZA,ZJ,rfl,by show _=_;rw[HX.out];omega⟩
    case measure=>exact ZK
  ·have HE:=aA (show k=n by omega)
   refine' ZO;exact⟨Bo (by rw[←HE.out,←HM.out]),rfl⟩
theorem Xf(v d w)(hv:rdD w w.heap.size v d):
 Calls aB 209 #[v] w fun e w'=>e=.returned (.bool (Mi d))∧Below w.heap.size w w':=by
 refine' ZDX;obtain⟨hp,ho,hf,hh,_⟩:=AbR im;refine' ZHR;clear hp ho hf hh hv im;refine' zX;clear ac;refine' ZAH;have HQ:Hid (Mi d=(Bq d.plan&&Be d.fwds&&Ee d.held&&Fp d.size)):=rfl;go_enter Tryz.func209,Tryz.ntmps209
 refine' zD;refine(Fq _ d.plan _ HP.out).mono ?_;refine' zd;cases h1:Bq d.plan
 exact ZGx;refine' zP;refine(Dj _ d.fwds _ (HF.out.on l1)).mono ?_;refine' zK;have l2:=Aa l1 b2;cases h2:Be d.fwds
 ·refine' zA;refine' ZI;exact⟨Al ZEX,Aa HT.out l2⟩
 refine' zA;refine' ZC;refine(Ug _ d.held _ (HH.out.on l2)).mono ?_;refine' ZAq;cases h3:Ee d.held
 ·have H3:=aA h3;clear h3
  refine' ZI;exact⟨Al ZGy,Aa HT.out l2⟩
 have H3:=aA h3;clear h3
 refine' ZC;refine(Me d.size _).mono ?_;refine' ZMy;exact⟨Al (by rw[HQ.out,H1.out,H2.out,H3.out,aj.out];rfl),Aa HT.out l2⟩
theorem AqI{xs k}(hk:k<xs.length)(h:Ap xs[k]=false):Ee xs=false:=ZMr
theorem AsJ{xs}(h:∀j (hj:j<xs.length),Ap xs[j]=true):Ee xs=decide (xs.length≤30):=by unfold Ee;rw[List.all_eq_true.2 fun x hx=>ZHE,Bool.and_true]
theorem Xb(v d w)(hv:rdD w w.heap.size v d):
 Calls aB 80 #[v] w fun e w'=>e=.returned (.bool (Mi d))∧Below w.heap.size w w':=by
 refine' ZDX;obtain⟨hp,ho,hf,hh,_⟩:=AbR im;refine' ZHR;have hm:d.held.length≤9223372036854775807:=by obtain⟨A,n,c,e1,e2,e3,e4,e5⟩:=hh;unfold maxLen at e4;omega
 refine' ZMz;have HQ:Hid (Mi d=(Bq d.plan&&Be d.fwds&&Ee d.held&&Fp d.size)):=rfl;go_enter Tryz.func80,Tryz.ntmps80;go_wp2;rw[←dc.out]
 go_loop[3] (fun i=>∃k:Nat,k≤d.held.length∧i=.int .i64 k∧Hid (∀j (h:j<d.held.length),j<k→Ap d.held[j]=true)) (fun i=>d.held.length - (intOf i).toNat)
 case atStart=>exact ZAn
 case round=>
  refine' YE;by_cases ab:k<d.held.length
  ·obtain⟨b,o,rfl,hb,ag,x1⟩:=HR.out.strU k ab
   have HX:Hid (∀h:Ap d.held[k]=true,∀j (h1:j<d.held.length),j<k+1→Ap d.held[j]=true):=fun h j h1 hj=>ZA9
   have HY:=aA (AqI ab);generalize d.held[k]=x at *;obtain⟨r,aj⟩:∃r,Hid (Ap x=r):=⟨_,rfl⟩
   refine' ZC;refine(Cm x _ ag).mono ?_;rw[aj.out];refine' ZW;cases r
   ·refine' ZI;exact⟨Al (by rw[HQ.out,HY.out aj.out];simp),HT.out⟩
   exact ZMs
  ·have HE:=aA (AsJ fun j hj=>HG.out j hj ZA)
   refine' ZC;refine(Fo _ d.plan _ HP.out).mono ?_;refine' zd;cases h1:Bq d.plan
   exact ZGx;refine' zP;refine(D2 _ d.fwds _ (HF.out.on l1)).mono ?_;refine' zo;cases h2:Be d.fwds
   ·refine' zA;refine' ZI;exact⟨Al ZEX,Aa HT.out l1⟩
   refine' zA;by_cases pH:(d.held.length:Int)≤30
   ·have wQ:Hid (Ee d.held=true):=by show _=_;rw[HE.out,aJ ZA]
    refine' ZC;refine(Nm d.size _).mono ?_;refine' ZMy;exact⟨Al (by rw[HQ.out,H1.out,H2.out,wQ.out,aj.out];rfl),Aa HT.out l1⟩
   ·have wQ:Hid (Ee d.held=false):=by show _=_;rw[HE.out,aO ZA]
    have hd:=aO pH
    refine' ZI;exact⟨Al (by rw[HQ.out,H1.out,H2.out,wQ.out];rfl),Aa HT.out l1⟩
def Hl(p:Pln)(c:ByteArray):Int:=if Bq p then rkI p.order c else -1
theorem Xc(v p c w)(hv:rdP w w.heap.size v p):
 Calls aB 142 #[v,.string c] w fun e w'=>e=.returned (.int .i64 (Hl p c))∧Below w.heap.size w w':=by
 refine' ZCE;subst e0;have HO:Hid (rd w0 w0.heap.size (.slice A0 p.order.length c0) p.order):=by obtain⟨vo,h1,_,_,h4⟩:=HP.out;refine' ZEW;subst h1;exact h4
 refine' zX;clear ac hv;refine' ZAH;have HQ:Hid (Hl p c=if Bq p then rkI p.order c else -1):=rfl;go_enter Tryz.func142,Tryz.ntmps142
 refine' ZGw;cases h1:Bq p
 ·refine' zS;refine' ZI;exact⟨Bo (by rw[HQ.out,H1.out];rfl),Aa HT.out l1⟩
 refine' zP;refine(Nf _ p.order c _ (HO.out.on l1)).mono ?_;refine' zo;obtain⟨r,aj⟩:∃r,Hid (rkI p.order c=r):=⟨_,rfl⟩;rw[aj.out]
 refine' ZI;exact⟨Bo (by rw[HQ.out,H1.out,aj.out];rfl),Aa HT.out l1⟩
theorem Ao8(v d s w)(hv:rdD w w.heap.size v d)(hs:s.size≤maxLen):
 Calls aB 233 #[v,.string s] w fun e w'=>e=.returned (.tuple #[.string (Nh d s).1,.string (Nh d s).2])∧Below w.heap.size w w':=by
 refine' ZM0;go_enter Tryz.func233,Tryz.ntmps233
 refine' zD;refine(Xf _ d _ HD.out).mono ?_;refine' ZM1;have JP:Be d.fwds=true∧Bq d.plan=true:=by unfold Mi at h1;simp only[aN]at h1;exact⟨h1.1.1.2,h1.1.1.1⟩
 have DZ:=aA JP;clear JP;refine' zP;refine(Cw s _ hs).mono ?_;refine' ZM2;have pD:Hid (resolve d.fwds s=Bc d.fwds s):=by show _=_;unfold resolve;rw[H2.out,DZ.out.1];rfl
 refine' ZM3;refine(Sb _ d.fwds s _ (HF.out.on l1) hs).mono ?_;rw[pD.out,de.out];refine' ZM4;refine' ZC;go_loop[33] (fun i=>∃k:Nat,k≤d.held.length∧i=.int .i64 k∧Hid (∀j (h:j<d.held.length),j<k→sEq d.held[j] to=false)) (fun i=>d.held.length - (intOf i).toNat)
 case atStart=>exact ZAn
 case round=>
  refine' YE;by_cases ab:k<d.held.length
  ·obtain⟨b,o,rfl,hb,ag,x1⟩:=HR.out.strU k ab
   have HX:Hid (∀h:sEq d.held[k] to=false,∀j (h1:j<d.held.length),j<k+1→sEq d.held[j] to=false):=fun h j h1 hj=>ZA9
   have HY:Hid (∀h:sEq d.held[k] to=true,0≤rkI d.held to):=fun h=>by have e:=Ay4 ab (fun j hj=>HG.out j ZA hj) h;rw[Yx ZA];omega
   generalize d.held[k]=x at *;cases he:sEq x to
   ·refine' zg;have hq:(x.toList==to.toList)=false:=he;clear he
    refine' ZC;exact ZBl
   ·refine' zg;have hq:(x.toList==to.toList)=true:=he;clear he
    refine' ZQ;exact⟨Bf (by rw[wY.out,aP (HY.out it.out)]<;>rfl),Aa HT.out l2⟩
  ·have HE:Hid (rkI d.held to= -1):=by have e:=AeN (cs:=d.held) (c:=to) (fun j hj=>HG.out j hj ZA);exact AaV ZA
   have HRI:Hid (Hl d.plan to=rkI d.plan.order to):=by show _=_;unfold Hl;rw[DZ.out.2];rfl
   obtain⟨r,aj⟩:∃r,Hid (rkI d.plan.order to=r):=⟨_,rfl⟩
   refine' ZC;refine(Xc _ d.plan to _ (HP.out.on l2)).mono ?_;rw[HRI.out,aj.out];refine' zH;refine' YC;by_cases hr:0≤r
   ·refine' ZQ;exact⟨Bf (by rw[wY.out,HE.out,aj.out,aL ZA,aP hr]<;>rfl),Aa HT.out l3⟩
   ·refine' ZQ;exact⟨Bf (by rw[wY.out,HE.out,aj.out,aL ZA,aL ZA]<;>rfl),Aa HT.out l3⟩
theorem ApT(v d s w)(hv:rdD w w.heap.size v d)(hs:s.size≤maxLen):
 Calls aB 107 #[v,.string s] w fun e w'=>e=.returned (.tuple #[.string (Nh d s).1,.string (Nh d s).2])∧Below w.heap.size w w':=by
 refine' ZM0;go_enter Tryz.func107,Tryz.ntmps107
 refine' zD;refine(Xb _ d _ HD.out).mono ?_;refine' ZM1;have JP:Be d.fwds=true:=by unfold Mi at h1;simp only[aN]at h1;exact h1.1.1.2
 have jU:=(Ch.1 JP).1;clear JP;refine' zP;refine(Cm s _ hs).mono ?_;refine' ZM2;refine' ZM3;refine(It _ d.fwds s _ (HF.out.on l1) hs ZA).mono ?_;rw[de.out];refine' ZM4;obtain⟨r,aj⟩:∃r,Hid (rkI d.held to=r):=⟨_,rfl⟩;obtain⟨r',CG⟩:∃r,Hid (rkI d.plan.order to=r):=⟨_,rfl⟩
 refine' ZC;refine(Lw _ d.held to _ (HH.out.on l2)).mono ?_;rw[aj.out];refine' ZAq;by_cases hr:0≤r
 ·refine' ZQ;exact⟨Bf (by rw[wY.out,aj.out,aP hr]<;>rfl),Aa HT.out l2⟩
 refine' ZC;refine(Lw _ d.plan.order to _ (HO.out.on l2)).mono ?_;rw[CG.out];refine' ZAq;by_cases tB:0≤r'
 ·refine' ZQ;exact⟨Bf (by rw[wY.out,aj.out,CG.out,aL ZA,aP tB]<;>rfl),Aa HT.out l2⟩
 ·refine' ZQ;exact⟨Bf (by rw[wY.out,aj.out,CG.out,aL ZA,aL ZA]<;>rfl),Aa HT.out l2⟩
theorem AlA(p:Pln)(xs:List Ltr)(k:Nat)(h:k<xs.length):(Gt p xs)[k]'(by unfold Gt;exact zG)=rkI p.order xs[k].code:=by simp[Gt]
theorem Vx(p xs):(Gt p xs).length=xs.length:=by simp[Gt]
theorem Ar8(p xs k)(h:k<xs.length):Hd ((Gt p xs).take (k+1))=Xi (Hd ((Gt p xs).take k)) (rkI p.order xs[k].code):=by rw[Rt _ _ (by rw[Vx];exact h),AlA p xs k h]
theorem AbZ{L r}(h:r<0):Xi L r=L:=by unfold Xi;rw[aP h]
theorem AbH{L}(r:Nat):Xi L (r:Int)=L++[(r,Gf L r+1)]:=by unfold Xi;rw[aL ZA,bE]
theorem Ac7(v vb p xs w)(hv:rdP w w.heap.size v p)(hb:rd w w.heap.size vb xs):
 Calls aB 203 #[v,vb] w fun e w'=>e=.returned (.int .i64 (Jh p xs))∧Below w.heap.size w w':=by
 have ev:=aA hv;have bg:=aA hb;obtain⟨vo,rfl,jO,kP,i7⟩:=hv;have wW:=aA i7;obtain⟨Ao,no,mF,rfl,k7,sw,rr,_⟩:=i7;subst k7;obtain⟨A,n,cp,rfl,hn,hc,hm,hr⟩:=hb;subst hn;unfold maxLen at hm rr;refine' ZA7;have JM:Below w.heap.size w (w.alloc (aC #[bC aI p.bins,bC aI p.passes,Value.slice Ao p.order.length mF] 30)):=(aF _ _).alloc (aD _) _;have gb:(w.alloc (aC #[bC aI p.bins,bC aI p.passes,Value.slice Ao p.order.length mF] 30)).cell? ⟨w.heap.size,2,none⟩=some (.slice Ao p.order.length mF):=zB
 refine' ZN6;have GB:=aA gb;clear gb;have fi:=aA JM;clear JM;have jP:=aA ah;clear ah;go_enter Tryz.func203,Tryz.ntmps203
 refine' ZC;refine(Fq _ p _ (ev.out.on fi.out)).mono ?_;refine' ZN7;have g0:w0.cell? ⟨w.heap.size,2,none⟩=some (.slice Ao p.order.length mF):=(b0.cell (p:=⟨w.heap.size,2,none⟩) (by rw[jP.out];simp)).trans GB.out;have uw:w.heap.size<w0.heap.size:=by have h:=b0.size;rw[jP.out]at h;omega
 clear jP GB fi b0;cases hp:Bq p
 ·refine' YG;refine' ZI;exact⟨Bo (by unfold Jh;rw[HP.out];rfl),B0⟩
 have vw:=(De.1 hp).2.1;refine' YG;refine' ZC;refine(Cn _ xs _ (bg.out.on B0)).mono ?_;refine' ZT;have B1:=B0.trans (b1.mono B0.size);have g1:=(b1.cell (p:=⟨w.heap.size,2,none⟩) uw).trans g0;have hlv1:w.heap.size<w1.heap.size:=bU uw b1.size;clear g0 b1 uw B0;cases hx:okB xs
 ·have HX:=aA hx;clear hx
  refine' ZI;exact⟨Bo (by unfold Jh;rw[HP.out,HX.out];rfl),B1⟩
 have lG:=(Ep.1 hx).1;have HX:=aA hx;clear hx;refine' ZDs;have ez:=Ed (P:=aB) 61 3 i0 _ iI hi ah p.order.length zf ZA
 refine' ZC;clear ez;have ho:=AkA w1 p.order.length w.heap.size B1.size ZN;have sr:Below w.heap.size w (w1.alloc (aC (madeCells #[.int .i64 0] p.order.length) 3)):=B1.alloc B1.size _;have gz:(w1.alloc (aC (madeCells #[.int .i64 0] p.order.length) 3)).cell? ⟨w.heap.size,2,none⟩=some (.slice Ao p.order.length mF):=zB
 have lQ:w1.heap.size<(w1.alloc (aC (madeCells #[.int .i64 0] p.order.length) 3)).heap.size:=ZE
 generalize(w1.alloc (aC (madeCells #[.int .i64 0] p.order.length) 3))=wz at *;generalize yz:w1.heap.size=gk at *;clear yz g1 B1;have rJ:=aA (Vx p xs);clear hi ah aw aq i0
 go_loopw[6,24] (fun t i wr=>∃k:Nat,k≤xs.length∧i=.int .i64 k∧t=.int .i64 (Kg (Hd ((Gt p xs).take k)):Nat)∧Below w.heap.size w wr∧wr.cell? ⟨w.heap.size,2,none⟩=some (.slice Ao p.order.length mF)∧gk<wr.heap.size∧own 3 w.heap.size wr (.slice (some ⟨gk,0,none⟩) p.order.length p.order.length) (N4 (Q8 (Hd ((Gt p xs).take k))) p.order.length)) (fun _ i _=>xs.length - (intOf i).toNat)
 case atStart=>exact⟨0,aM _,rfl,rfl,sr,gz,lQ,ho⟩
 case round=>
  obtain⟨k,hk,rfl,rfl,au,g2,TF,ok⟩:=hrel;refine' zl;have kO:=au.size;have TG:w.heap.size<w2.heap.size:=ZA
  clear sr gz lQ ho;have OK:=aA ok;clear ok;by_cases ab:k<xs.length
  ·obtain⟨b,o,rfl,hb,⟨⟨o1,o2⟩,o3⟩,c1,c2⟩:=HR.out.ltr k ab
   have fe:=aA (Ar8 p xs k ab);have BC:=aA (Pv ((Gt p xs).take k));have kQ:Hid (((Gt p xs).take k).length=k):=by show _=_;rw[bH,rJ.out];omega
   refine' zp;have oG:w2.cell? ⟨b,o+k*2,none⟩=some (.int .i64 x.id):=(au.cell (p:=⟨b,o+k*2,none⟩) hb).trans c1;have nU:w2.cell? ⟨b,o+k*2+1,none⟩=some (.string x.code):=(au.cell (p:=⟨b,o+k*2+1,none⟩) hb).trans c2;clear c1 c2;refine' ZO9;rw[pE.out]at ce;have wX:=aA (pE.out▸fe.out);clear fe;obtain⟨L',CE⟩:∃L',Hid (Hd ((Gt p xs).take (k+1))=L'):=⟨_,rfl⟩;have wX:Hid (L'=Xi (Hd ((Gt p xs).take k)) r):=by show _=_;rw[←CE.out];exact wX.out
   generalize Hd ((Gt p xs).take k)=L at *;have ik:=aA (fun n=>kQ.out▸(BC.out n).1);have kS:Hid (Kg L≤k):=by show _≤_;have:=(BC.out 0).2;rw[kQ.out]at this;exact this
   clear BC kQ;have pB:=aA (fun o=>wW.out.on (au.alloc kO o))
   refine' ZC;refine(Nf _ p.order x.code _ (pB.out _)).mono ?_;rw[pE.out];refine' ZAq;by_cases az:r<0
   ·have HN:Hid (L'=L):=by show _=_;rw[wX.out,AbZ az]
    refine' ZC;go_roundw
    case rel=> refine⟨k+1,ZA,ZJ,by rw[CE.out,HN.out],au.alloc kO _,zB,ZH,?_⟩;rw[CE.out,HN.out];exact OK.out.alloc _
    case measure=>exact ZK
   ·refine' ZIM;have hq:q<p.order.length:=ZA
    have HP2:Hid (L'=L++[(q,Gf L q+1)]):=by show _=_;rw[wX.out,AbH]
    have k6:Below w.heap.size w (w2.alloc (aC #[bC aI x.id,aK x.code] 119)):=au.alloc kO _;have o4:=OK.out.alloc (aC #[bC aI x.id,aK x.code] 119);have g3:(w2.alloc (aC #[bC aI x.id,aK x.code] 119)).cell? ⟨w.heap.size,2,none⟩=some (.slice Ao p.order.length mF):=zB
    have ft:gk<(w2.alloc (aC #[bC aI x.id,aK x.code] 119)).heap.size:=ZH
    generalize(w2.alloc (aC #[bC aI x.id,aK x.code] 119))=w4 at *;clear g2 TF au kO oG nU OK TG pB;have TH:=o4.rd.take (k:=q+1) (by rw[Gp];omega);rw[AtQ _ _ _ ZA]at TH;have xo:=aA TH;clear TH;obtain⟨u0,hu0⟩:=o4.cellAt (j:=q) (by rw[Gp];exact ZCP);have kF:=o4.freeAt q;have nD:Mz (Q8 L) q=Gf L q:=Aq5 L q;have HMX:=aA nD;clear nD;have bt:=ik.out q;have dj:=kS.out;have HSI:=aA (fun y hy=>Su o4 (k:=q) (by rw[Gp];exact hq) y hy);clear o4;refine' ZC;refine(Ap9 _ (Q8 L) q _ xo.out).mono ?_;rw[HMX.out];rintro e w5 ⟨rfl,rfl⟩;have kM:Hid (N4 (Q8 L') p.order.length=(N4 (Q8 L) p.order.length).set q ((Gf L q:Nat)+1:Int)):=by show _=_;rw[HP2.out,show((Gf L q:Nat)+1:Int)=((Gf L q+1:Nat):Int) by omega,Ah5];exact Xt fun j _=>AsG L q j
    have x8:Hid (Kg L'=max (Kg L) (Gf L q+1)):=by show _=_;rw[HP2.out,X9]
    generalize Gf L q=m at *;generalize Kg L=m2 at *;by_cases xP:(m2:Int)<(m:Int)+1
    exact ZPA;exact ZPA
  ·refine' YD;have HF:Hid (Jh p xs=(Kg (Hd ((Gt p xs).take k)):Nat)):=by show _=_;unfold Jh AgR;rw[HP.out,HX.out,HE.out,←rJ.out,aY];rfl
   generalize Kg (Hd ((Gt p xs).take k))=m at *;refine' ZO;exact⟨Bo HF.out.symm,au⟩
def F5(p:Pln)(xs:List Ltr):Int:=if Jh p xs<0 then -1 else xs.length - Jh p xs
theorem Qj(p xs): -1≤Jh p xs∧Jh p xs≤xs.length:=by
 unfold Jh AgR
 split
 ·have h:=(Pv (Gt p xs) 0).2
  rw[Vx]at h;omega
 ·omega
theorem Y1(v vb p xs w)(hv:rdP w w.heap.size v p)(hb:rd w w.heap.size vb xs):
 Calls aB 124 #[v,vb] w fun e w'=>e=.returned (.int .i64 (F5 p xs))∧Below w.heap.size w w':=by
 refine' ZPB;go_enter Tryz.func124,Tryz.ntmps124
 refine' ZC;refine(Ac7 _ _ p xs _ (ev.out.on HB.out) (bg.out.on HB.out)).mono ?_;exact ZPC
end Go.Proofs.YtfadhdacjpmmeaaGreatDoor
