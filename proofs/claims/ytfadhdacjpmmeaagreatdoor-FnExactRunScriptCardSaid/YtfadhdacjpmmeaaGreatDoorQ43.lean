/- Parts. -/
import Derived.Test.YtfadhdacjpmmeaaGreatDoorQ41
set_option linter.unusedVariables false
set_option linter.unusedSimpArgs false
namespace Go.Proofs.YtfadhdacjpmmeaaGreatDoor
set_option maxRecDepth 100000
set_option maxHeartbeats 16000000
open Go.IntKind renaming i64→aI
open Go.Obj renaming cells→aC
open Go.Proofs.Tryz renaming prog→aB
open Go.Value renaming string→aK,int→bC
open Go.RowKit
theorem Oo{w:World}{g}{T:TypeId}{x}(h:w.heap[g]? =some (.cells #[x] T (0,0))):∀j u,[x][j]? =some u→w.cell? ((⟨g,0,none⟩:Addr).add j)=some u:=fun j u hu=>by rw[Ii,bW,fH _ _ _ _ _ _ h];simpa using hu
theorem AoJ(R:Nat→Prop)(vL vO vF vH vN s f B g c w)(hS:stN R w vL vO vF vH vN s)(hf:own 9 B w (.slice (some ⟨g,0,none⟩) 1 c) [f])(hz:f.size≤maxLen)(ho:Ap f=true)(ab:s.day.held.length<30)(hq:∀p∈s.day.held++[f],1≤p.size∧p.size≤1000)(qB:(Cb (s.day.held++[f])).size≤1000000):
 Calls aB 47 #[stV vL vO vF vH vN s,.string Cy,.slice (some ⟨g,0,none⟩) 1 c] w (Bs R {s with day:={s.day with held:=s.day.held++[f]}} (Cb (s.day.held++[f])) w):=by
 refine' ZTq;have HX:=aA (fun(v:Value) (W:World) (h:rd W W.heap.size v (s.day.held++[f]))=>ifB (Fn v (s.day.held++[f]) W h hq ZDp));have dy:=aA (fun W=>D4 (Cb (s.day.held++[f])) W ZA);have de:Hid (Em (Cb (s.day.held++[f]))=Cb (s.day.held++[f])++⟨#[10]⟩):=Fh (Q6 fun p h=>(hq p h).1);have QK:Hid (∀W,Below wB.heap.size wB W→rd W W.heap.size (.slice AH s.day.held.length cH) s.day.held):=fun W hW=>hS.h.rd.on (k0.lay.trans (hW.mono k0.lay.size))
 have ah:=k0.lt;refine' ZBa;refine' ZJy;have hzf:=hz;clear hz ho hq;have QL:f.size≤maxLen:=hzf;have qW:(s.day.held.length:Int)<30:=ZA
 have qS:s.day.held.length+1≤maxLen:=ZN
 have kr:(s.day.held.length+1)*16≤140737488355328:=ZA
 have ks:([]:List ByteArray).length+s.day.held.length≤maxLen:=by unfold maxLen;simp only[cK];omega
 have kt:(([]:List ByteArray).length+s.day.held.length)*16≤140737488355328:=by simp only[cK];omega
 generalize Cb (s.day.held++[f])=F at *;refine' ZTr;have js:=(aF wB.heap.size wB).drew;have la:Below wB.heap.size wB (wB.alloc (aC #[] 9)):=(aF wB.heap.size wB).alloc (aD _) _;have ea:own (α:=ByteArray) 9 wB.heap.size (wB.alloc (aC #[] 9)) (.slice (some ⟨wB.heap.size,0,none⟩) 0 0) []:=own.made0 wB _ (aD _);refine' ZJd;have lt:Below wB.heap.size wB (wB.alloc (aC #[.string f] 9)):=(aF wB.heap.size wB).alloc (aD _) _;have lb:Below wB.heap.size wB ((wB.alloc (aC #[] 9)).alloc (aC #[.string f] 9)):=la.alloc ZE _;have lc:Below wB.heap.size wB ((wB.alloc (aC #[.string f] 9)).alloc (aC #[] 9)):=lt.alloc ZE _;have eb:=ea.alloc (aC #[.string f] 9);have ec:own (α:=ByteArray) 9 wB.heap.size ((wB.alloc (aC #[.string f] 9)).alloc (aC #[] 9)) (.slice (some ⟨wB.heap.size+1,0,none⟩) 0 0) []:=by
  have:=own.made0 (α:=ByteArray) (wB.alloc (aC #[.string f] 9)) 9 (base:=wB.heap.size) ZE
  rwa [show(wB.alloc (aC #[.string f] 9)).heap.size=wB.heap.size+1 by simp]at this
 have rb:((wB.alloc (aC #[] 9)).alloc (aC #[.string f] 9)).heap[wB.heap.size+1]? =some (.cells (#[.string f]:Array Value) 9 (0,0)):=by
  have:=bD (wB.alloc (aC #[] 9)) (aC #[.string f] 9)
  rwa [show(wB.alloc (aC #[] 9)).heap.size=wB.heap.size+1 by simp]at this
 have rc:((wB.alloc (aC #[.string f] 9)).alloc (aC #[] 9)).heap[wB.heap.size]? =some (.cells (#[.string f]:Array Value) 9 (0,0)):=(dH (wB.alloc (aC #[.string f] 9)) _ _ ZE).trans (bD wB (aC #[.string f] 9));refine' ZTs;replace q5:=fun W (h:Below wB.heap.size wB W)=>q5 W (k0.below h)
 replace y0:=fun W (h:Below wB.heap.size wB W)=>y0 W (k0.below h)
 have uf:=fun W (h:Below wB.heap.size wB W)=>(k0.below h).frozenS 5
 refine Hs (S:=fun W=>Below wB.heap.size wB W) 12 ZB js (fun aa=>?_);refine' ZSy;refine' ZJe;refine' ZSz;refine' ZJf;refine' ZS0;show Bu _ _ _ _ _ _ _ _ (Act.put _ (some 53) _) _
 refine' ZU;refine Bh (i:=5) (v:=?zv4) rfl rfl ZB ZB ZB ZB (fun _ _ _ h=>h) (aZ ⟨ZG,?zy4⟩) ZL ?zr4
 case zy4=> exact ZM
 show Bu _ _ _ _ _ _ _ _ (Act.put _ (some 55) _) _
 refine' ZS1;refine' YK;refine' ZS2;refine' YL;refine Bk (rs:=[0,8]) ZB ZE ?_;refine Bi.cons rfl (fun K hK=>?_) ?_
 ·
  refine' ZD6;refine Bk (rs:=[4,8]) ZB ZE ?_;refine Bi.cons rfl (fun K hK=>?_) ?_
  ·
   (refine Bl (α:=ByteArray) ZG (.tmp 50) (.tmp 53) 28 ZG wB.heap.size 9 i0 _ 16 aW hi ah aw aq rfl ZF (.slice (some ⟨wB.heap.size,0,none⟩) 0 0) [] ZG mC _ s.day.held ZG _ (QK.out _ kD) ks kt zq ?_;intro v7 w7 o7 dm _;have l7:Below wB.heap.size wB w7:=kD.trans (Ay mC dm zq);refine' ZBG)
   refine' ZB9;refine Bk (rs:=[8]) ZB ZE ?_;refine' ZCz;refine' ZGS;(refine Ce (α:=ByteArray) ZG (.tmp 54) (.tmp 58) 28 ZG wB.heap.size 9 i0 _ 16 aW hi ah aw aq rfl ZF v7 s.day.held f ZG (o7.alloc _) ⟨w7.heap.size,0,none⟩ 1 [.string f] ZG ⟨QL,rfl⟩ (Bz w7 _ [.string f]) qS kr ZH ?_;refine' ZC0;have l8:Below wB.heap.size wB w8:=(l7.alloc fw _).trans (Ay (o7.alloc _) ii ZH))
   refine' ZEC;refine As6 (i:=10) 11 (v:=?zv7) rfl rfl ZB ZB ZB ZB ZB ZB (fun _ _ _ h=>h) (aZ ⟨ZG,?zy7⟩) ZL ?zr7
   case zy7=> exact ZM
   refine' zt;refine Bh (i:=11) (v:=?zv8) rfl rfl ZB ZB ZB ZB (fun _ _ _ h=>h) (aZ ⟨ZG,?zy8⟩) ZL ?zr8
   case zy8=> exact ZM
   exact ZJz
  refine' ZCz;refine' ZGT;(refine Bl (α:=ByteArray) ZG (.tmp 50) (.tmp 53) 28 ZG wB.heap.size 9 i0 _ 16 aW hi ah aw aq rfl ZF (.slice (some ⟨wB.heap.size,0,none⟩) 0 0) [] ZG qf _ s.day.held ZG _ (QK.out _ lS) ks kt zq ?_;intro v7 w7 o7 dm _;have l7:Below wB.heap.size wB w7:=lS.trans (Ay qf dm zq);refine' ZBG;have ua:=(dm.block (wB.heap.size+1) ZE (fun e=>ZGU)).trans rb)
  refine' ZB9;refine' ZGS;(refine Ce (α:=ByteArray) ZG (.tmp 54) (.tmp 58) 28 ZG wB.heap.size 9 i0 _ 16 aW hi ah aw aq rfl ZF v7 s.day.held f ZG o7 ⟨wB.heap.size+1,0,none⟩ 1 [.string f] ZG ⟨QL,rfl⟩ (Oo ua) qS kr fw ?_;refine' ZC0;have l8:Below wB.heap.size wB w8:=l7.trans (Ay o7 ii fw))
  refine' ZEC;refine As6 (i:=10) 11 (v:=?zv9) rfl rfl ZB ZB ZB ZB ZB ZB (fun _ _ _ h=>h) (aZ ⟨ZG,?zy9⟩) ZL ?zr9
  case zy9=> exact ZM
  refine' zt;refine Bh (i:=11) (v:=?zv10) rfl rfl ZB ZB ZB ZB (fun _ _ _ h=>h) (aZ ⟨ZG,?zy10⟩) ZL ?zr10
  case zy10=> exact ZM
  exact ZJz
 refine' ZCz;refine' ZJ0;refine' ZD6;refine' ZGT;(refine Bl (α:=ByteArray) ZG (.tmp 50) (.tmp 53) 28 ZG wB.heap.size 9 i0 _ 16 aW hi ah aw aq rfl ZF (.slice (some ⟨wB.heap.size+1,0,none⟩) 0 0) [] ZG qg _ s.day.held ZG _ (QK.out _ mY) ks kt zq ?_;intro v7 w7 o7 dm _;have l7:Below wB.heap.size wB w7:=mY.trans (Ay qg dm zq);refine' ZBG;have ua:=(dm.block wB.heap.size ZH (fun e=>ZGU)).trans rc)
 refine' ZB9;refine' ZGS;(refine Ce (α:=ByteArray) ZG (.tmp 54) (.tmp 58) 28 ZG wB.heap.size 9 i0 _ 16 aW hi ah aw aq rfl ZF v7 s.day.held f ZG o7 ⟨wB.heap.size,0,none⟩ 1 [.string f] ZG ⟨QL,rfl⟩ (Oo ua) qS kr fw ?_;refine' ZC0;have l8:Below wB.heap.size wB w8:=l7.trans (Ay o7 ii fw))
 refine' ZEC;refine As6 (i:=10) 11 (v:=?zv11) rfl rfl ZB ZB ZB ZB ZB ZB (fun _ _ _ h=>h) (aZ ⟨ZG,?zy11⟩) ZL ?zr11
 case zy11=> exact ZM
 refine' zt;refine Bh (i:=11) (v:=?zv12) rfl rfl ZB ZB ZB ZB (fun _ _ _ h=>h) (aZ ⟨ZG,?zy12⟩) ZL ?zr12
 case zy12=> exact ZM
 exact ZJz
theorem AoQ(R:Nat→Prop)(vL vO vF vH vN s f B g c w)(hS:stN R w vL vO vF vH vN s)(hf:own 9 B w (.slice (some ⟨g,0,none⟩) 1 c) [f])(hz:f.size≤maxLen)(ho:Ap f=false)(hl:s.day.held.length≤1000)(hq:∀p∈s.day.held,1≤p.size∧p.size≤1000):
 Calls aB 47 #[stV vL vO vF vH vN s,.string Cy,.slice (some ⟨g,0,none⟩) 1 c] w (Bs R s (⟨#[]⟩) w):=by
 refine' ZTt;have iz:Hid (∀W:World,Calls aB 94 #[.string f] W fun e w'=>e=.returned (.bool false)∧W=w'):=fun W=>by
  have:=Cm f W hz
  rwa [ho]at this
 refine' ZTu;exact ZTv
theorem AoU(R:Nat→Prop)(vL vO vF vH vN s f B g c w)(hS:stN R w vL vO vF vH vN s)(hf:own 9 B w (.slice (some ⟨g,0,none⟩) 1 c) [f])(hz:f.size≤maxLen)(ho:Ap f=true)(so:30≤s.day.held.length)(hl:s.day.held.length≤1000)(hq:∀p∈s.day.held,1≤p.size∧p.size≤1000):
 Calls aB 47 #[stV vL vO vF vH vN s,.string Cy,.slice (some ⟨g,0,none⟩) 1 c] w (Bs R s (⟨#[]⟩) w):=by
 refine' ZTq;refine' ZTu;have qW:decide ((s.day.held.length:Int)<30)=false:=aO ZA;have q5b:((w.alloc (aC #[.slice AL s.letters.length cL,.int .i64 s.day.plan.bins,.int .i64 s.day.plan.passes,.slice AO s.day.plan.order.length cO,.slice AF s.day.fwds.length cF,.slice AH s.day.held.length cH,.int .i64 s.day.size,.slice AN s.net.length cN] 36)).alloc (aC #[.slice none 0 0,.int .i64 0,.int .i64 0,.slice none 0 0,.slice none 0 0,.slice none 0 0,.int .i64 0,.slice none 0 0] 36)).cell? ⟨w.heap.size,5,none⟩=some (.slice AH s.day.held.length cH):=by have:=q5 _ k0;rw[bp.out,ar.out]at this;exact this
 exact ZTv
end Go.Proofs.YtfadhdacjpmmeaaGreatDoor
