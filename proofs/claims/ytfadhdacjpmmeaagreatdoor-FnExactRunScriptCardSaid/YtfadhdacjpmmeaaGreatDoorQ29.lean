/- Parts. -/
import Derived.Test.YtfadhdacjpmmeaaGreatDoorQ28
import Derived.Test.YtfadhdacjpmmeaaGreatDoorQ27
import Derived.Maps.OwnIn
set_option linter.unusedVariables false
set_option linter.unusedSimpArgs false
namespace Go.Proofs.YtfadhdacjpmmeaaGreatDoor
set_option maxRecDepth 100000
set_option maxHeartbeats 3200000
open Go.IntKind renaming i64→aI
open Go.Obj renaming cells→aC
open Go.Proofs.Tryz renaming prog→aB
open Go.Value renaming string→aK,int→bC
open Go.RowKit Go.Shelf
attribute [local go_sem] Oper.semAt_some
theorem X1{α:Type}[Flat α]{F n P w ops rest o a}{Q:Exit→Act→World→Prop}(mw:o.guard=none)(s x:Operand)(t:TypeId)
 (ho:o.op=.call {callee:=.builtin .append,args:=#[s,x],argTypes:=#[t,t]})
 (base) (e:TypeId) (i:TypeInfo) (z bytes) (ht:P.underlying t=some (.slice e)) (hi:P.info? e=some i) (hz:i.zero=some z)
 (cj:i.size=El.size α) (nP:i.bytes=bytes) (fx:z.cells.size=El.size α) (ct:0<El.size α)
 (v xs) (y:α) (hs:a.eval s=v) (fc:own e base w v xs)
 (ad c cs) (hx:a.eval x=.slice (some ad) 1 c) (kY:El.el w w.heap.size y cs) (eo:∀j u,cs[j]? =some u→w.cell? (ad.add j)=some u)
 (nG:xs.length+1≤maxLen) (cv:(xs.length+1)*bytes≤140737488355328) (du:base≤w.heap.size)
 (h:∀g cap w',own e base w' (.slice (some ⟨g,0,none⟩) (xs.length+1) cap) (xs++[y])→w.grownBy w' v.ownBlock→(some g=v.ownBlock∨g=w.heap.size)→wpListIn F n P ops Q rest (a.put o.dst (.slice (some ⟨g,0,none⟩) (xs.length+1) cap)) w'):wpListIn F n P ops Q (o::rest) a w:=by
 refine' ZCg;refine wpListIn_append_own_at (nF:=n) w mw s x t ho base e i z (El.size α) bytes ht hi hz cj nP fx ct v xs.length gg.flatten hs jL ad 1 c cs hx ZFZ eo (El.one kY) nG cv du ?_;intro v' w' h2 h3 _ h5;have hO:own e base w' v' (xs++[y]):=⟨gg++[cs],ZCG,ZBP,fun k h1 h2=>ZDu⟩
 have pI:(xs++[y]).length=xs.length+1:=ZE
 rcases hO.form with⟨_,h0⟩|⟨g,cap,rfl,_⟩
 ·simp at h0
 ·rw[pI]at hO⊢
  rw[pI]at h5;refine h g cap w' hO h3 ?_;rcases h5 with h5|h5
  ·exact .inl h5
  ·injection h5 with h5
   exact .inr h5
theorem AtH{α:Type}[El α]{T B z:Nat}{w v}{xs:List α}{row}(ho:own T B w v xs)(hz:z<B)(hr:∀r,row=some r→r=z∨B≤r∧∃o:Obj,w.heap[r]? =some o∧o.isCells=false):v.ownBlock=none∨v.ownBlock≠row:=by
 cases hb:v.ownBlock with
 |none=>exact .inl rfl
 |some k=> exact ZQf
def pnI(h:Nat)(w0:World)(B:Nat)(pre:List ByteArray)(W:World):Prop:=
 (∃v os,Boxed W (h+1+1) 34 v∧isN 45 181 B W v (Gl Ib pre) os)∧B≤W.heap.size∧Ik Ib pre=true∧pre.length≤8∧Boxed W h 34 (.slice none 0 0)∧Boxed W (h+1) 4 (.bool false)∧Below h w0 W
def pnX(h:Nat)(w0:World)(pre:List ByteArray)(W:World):Prop:=
 (Ik Ib pre=false∨8<pre.length)∧Boxed W h 34 (.slice none 0 0)∧Boxed W (h+1) 4 (.bool false)∧Below h w0 W
theorem Au1{h B z w0}(hz:h+1+1<z)(uM:z<B)(hs:h≤w0.heap.size):Pw B z (pnI h w0 B):=by rintro pre A C row ⟨⟨v,os,hv,ho⟩,h0,h1,h2,h3,h4,h5⟩ hg hr;refine' ZIn;refine⟨⟨v,os,hv.kept hg (ne _ ZA),ho.grown hg (AtH ho.1 uM hr) fun k hk=>AtH (ho.2.2.1 k hk (by have:=ho.2.1;omega)).2 uM hr⟩,aG h0 hg.size,h1,h2,h3.kept hg (ne _ ZA),h4.kept hg (ne _ ZA),h5.grown hg (aG hs h5.size) fun k e=>?_⟩;rcases hr k e with h|⟨h,_⟩<;>omega
theorem Au5{h B z w0}(hz:h+1+1<z)(uM:z<B)(hs:h≤w0.heap.size):Pw B z (pnX h w0):=ZE1
theorem ne_of_lt{α:Type}[El α]{T B b:Nat}{w v}{xs:List α}(h:own T B w v xs)(hb:b<B):v.ownBlock=none∨v.ownBlock≠some b:=by
 cases hv:v.ownBlock with
 |none=>exact .inl rfl
 |some k=>exact .inr fun e=>by injection e with e;have:=(h.blk k hv).1;omega
theorem isN.out{T1 T2 B:Nat}{w v net os}(h:isN T1 T2 B w v net os)(b u)(hb:b<B):isN T1 T2 B (w.setCell ⟨b,0,none⟩ u) v net os:=
 h.grown (grownBy_setCell' w b u) (ne_of_lt h.1 hb) fun k hk=>ne_of_lt (h.2.2.1 k hk (by have:=h.2.1;omega)).2 hb
theorem isN.putD{T1 T2 B D:Nat}{w v net os ds}(h:isN T1 T2 B w v net os)(hD:w.heap[D]? =some (.deferred ds))(o):isN T1 T2 B (w.putObj D o) v net os:=
 h.grown (grownBy_putObj' w D o) (Vq h.1 hD) fun k hk=>Vq (h.2.2.1 k hk (by have:=h.2.1;omega)).2 hD
theorem AwR{x}(h:E5 32 x=none):Ib x=none:=by unfold Ib;rw[h];rfl
theorem AvN{x p q}(h:E5 32 x=some (p,q))(hq:Qu q=false):Ib x=none:=by unfold Ib;rw[h];simp[hq]
theorem AqJ{x p q}(h:E5 32 x=some (p,q))(hq:Qu q=true):Ib x=some ⟨p,prR q⟩:=by unfold Ib;rw[h];simp[hq]
theorem AjM{ps x}(h:Ib x=none):Ik Ib (ps++[x])=false:=by rw[V9,h];simp
theorem AaC(t w)(ht:t.size≤maxLen):
 Calls aB 138 #[.string t] w fun e w'=>∃v',e=.returned (.tuple #[v',.bool (Kx t)])∧AoW 45 181 w.heap.size w' v' (pnN t)∧Below w.heap.size w w':=by
 refine' ZE2;refine callsIn_of_wp_marks Tryz.func138 rfl trivial ?_ rfl;simp only[Tryz.ntmps138,dP,bZ,cK,Nat.reduceAdd,Nat.reduceSub,gA,gB,iH,gM,bV,dB];have HR:Hid (pnN t=if Kx t then Gl Ib (Aj 59 t)else []):=rfl;have HS:=fun W=>Kh t 59 W
 have b0:=((Boxed.new w 34 (.slice none 0 0)).alloc (aC #[.bool false] 4)).alloc (aC #[.slice none 0 0] 34);have b1:=(Boxed.new (w.alloc (aC #[.slice none 0 0] 34)) 4 (.bool false)).alloc (aC #[.slice none 0 0] 34);have b2:=Boxed.new ((w.alloc (aC #[.slice none 0 0] 34)).alloc (aC #[.bool false] 4)) 34 (.slice none 0 0);have l3:Below w.heap.size w (((w.alloc (aC #[.slice none 0 0] 34)).alloc (aC #[.bool false] 4)).alloc (aC #[.slice none 0 0] 34)):=(((aF _ w).alloc (aD _) _).alloc ZE _).alloc ZH _;refine' ZE5;have ft:(((w.alloc (aC #[.slice none 0 0] 34)).alloc (aC #[.bool false] 4)).alloc (aC #[.slice none 0 0] 34)).heap.size=w.heap.size+1+1+1:=ZE
 generalize(((w.alloc (aC #[.slice none 0 0] 34)).alloc (aC #[.bool false] 4)).alloc (aC #[.slice none 0 0] 34))=w3 at *;rw[ft]at ay yU;have x0:Boxed w6 (w.heap.size) 34 (.slice none 0 0):=(mS.block _ ZA).trans B0.out;refine' ZE6;have x2:Boxed w6 (w.heap.size+1+1) 34 (.slice none 0 0):=(mS.block _ ZA).trans B2.out;refine' ZE7;obtain⟨i0,hi,uQ,jO,kP⟩:=eA Tryz.infoOfc;refine Pz (F:=Fence.wide) (n:=9) rfl ZA (gf:=286) (lb:=#[.pointer (some ⟨w.heap.size+1+1+1+1,0,none⟩),.pointer (some ⟨w.heap.size+1+1+1,0,none⟩),.pointer (some ⟨w.heap.size+1+1+1+2,0,none⟩)]) rfl trivial (iC Tryz.func286 ZB rfl)
  (Te 8 (w.heap.size+1+1+1) ZA 59 t w6 ay ht) (fun k hk=>zW) ZA (fun _=>rfl)
  (pnI w.heap.size w w6.heap.size) (pnX w.heap.size w) (Au1 ZA ZA (aD _)) (Au5 ZA ZA (aD _))
  ⟨⟨_,[],x2,isN.none_ (own.nil_ _ _ _)⟩,aD _,rfl,aM _,x0,x1,l6⟩
  (fun x=>{tmps:=#[.string t,undef,.pointer (some ⟨w.heap.size,0,none⟩),.pointer (some ⟨w.heap.size+1,0,none⟩),.pointer (some ⟨w.heap.size+1+1,0,none⟩),.string x,undef,undef,undef,undef,undef,.string t,.func (.func 286) #[] #[.pointer (some ⟨w.heap.size+1+1+1+1,0,none⟩),.pointer (some ⟨w.heap.size+1+1+1,0,none⟩),.pointer (some ⟨w.heap.size+1+1+1+2,0,none⟩)],.string x,undef,undef,undef,undef,undef,undef,undef,undef,undef,undef,undef,undef,undef,undef,undef,undef,undef,undef,undef,undef,undef,undef,undef,undef,undef,undef,undef,undef,undef,undef],defers:=[]}) ?assign ?body ?done ?stop
 case assign=>
  intro l x W K hK
  gi_wp2
  exact hK
 case body=>
  rintro l pre x W ⟨⟨v,os,hv,ho⟩,vV,cw,bn,y0,y1,hB⟩ _ hx;have hd:1≤9 - 1 - 1:=ZA
  have HC:=Er x 32 W hx;refine' ZE8;rcases ij:E5 32 x with _|⟨p,q⟩
  ·have nT:Calls aB 51 #[.string x,.string ⟨#[32]⟩] W fun e w'=>Below W.heap.size W w'∧e=.returned (.tuple #[.string x,.string ⟨#[]⟩,.bool false]):=HC.mono fun e w' h=>ZHs
   have HP:Hid (Ik Ib (pre++[x])=false):=AjM (AwR ij);clear HC ij y0 y1 hv ho
   gi_wp2_with (refine' ZDj;refine' ZDk)
   exact ZFA
  ·have nT:Calls aB 51 #[.string x,.string ⟨#[32]⟩] W fun e w'=>Below W.heap.size W w'∧e=.returned (.tuple #[.string p,.string q,.bool true]):=HC.mono fun e w' h=>ZHt
   have qM:=Ki ij;have bv:=Un pre cw;obtain⟨A,m,cp,rfl,hm,_,_,_⟩:=ho.1.rd;have KA:=ho.2.1;clear HC y0 y1 hv ho;by_cases qv:m=8
   ·have qN:((m:Int)==8)=true:=by simp[qv]
    have HL:Hid (8<(pre++[x]).length):=by show _<_;refine' ZAY;show 8<pre.length+1;omega
    clear qv hm bv qM ij KA
    gi_wp2_with (refine' ZBs;refine' ZDk;have c2:=z2.cell)
    exact ZFC
   ·have qN:((m:Int)==8)=false:=beq_eq_false_iff_ne.2 ZA
    have kV:Hid (pre.length≤7):=ZA8
    have qz:∀b,Qu q=b→Hid (∀W,Calls aB 223 #[.string q] W fun e W'=>∃v',e=.returned (.tuple #[v',.bool b])∧own 181 W.heap.size W' v' (prR q)∧Below W.heap.size W W'):=fun b hb W=>by rw[←hb];exact AdR q W (aG qM.2 hx)
    cases hq:Qu q
    ·have US:=qz _ hq
     have HP:Hid (Ik Ib (pre++[x])=false):=AjM (AvN ij hq);clear qv hm bv qM qz hq ij KA
     gi_wp2_with (first|(refine' ZBs;have c2:=z2.cell)|(refine' ZQg;have t0:Boxed W3 _ _ _:=(k6.block _ z0.lt).trans z0;have t1:Boxed W3 _ _ _:=(k6.block _ z1.lt).trans z1;have d0:=t0.cell;have d1:=t1.cell;have e0:=t0.frozen;have e1:=t1.frozen))
     obtain⟨r0,r1,r2,r3⟩:=Hc t0 t1 (.slice none 0 0) (.bool false);exact⟨((Cr hb).trans (Cr k6)).trans r2,.inl HP.out,r0,r1,((hB.trans (hb.mono hB.size)).trans (k6.mono (by have:=hB.size;have:=hb.size;omega))).trans (r3 _ (aD _))⟩
    ·have US:=qz _ hq
     have HP:=aA (AqJ ij hq);have dm:os.length≤7:=ZA
     have HYN:Hid (p.size≤maxLen):=ZA8
     clear qv hm bv qM qz hq ij KA
     gi_wp2_with (first|(refine' ZBs;have c2:=z2.cell)|(refine' ZQg;have t2:Boxed W3 _ _ _:=(k6.block _ z2.lt).trans z2;have d2:=t2.cell;obtain⟨Aq,nq,cq,rfl, -, -, -, -⟩:=xg.rd;have o3:=(ow.out.below hb).below k6;have iu:=hb.size;have oN:=k6.size;have ED:=aA xg;clear xg)|(gi_at_builtin;refine X1 (α:=OfV) rfl (.tmp 34) (.tmp 38) 34 rfl w6.heap.size 45 i0 _ 40 Tryz.underlying34 hi uQ jO kP rfl ZF (.slice A m cp) os ⟨p,.slice Aq nq cq⟩ rfl (o3.1.alloc _) ⟨W3.heap.size,0,none⟩ 1 [.string p,.slice Aq nq cq] rfl ⟨rfl,HYN.out,rfl⟩ (Bz W3 _ [.string p,.slice Aq nq cq]) ZN ZA ZH ?_;intro g5 c5 w5 o5 ap cn;have u2:Boxed w5 _ _ _:=(t2.alloc _).kept ap (fun e=>by have:=(o3.1.blk _ e.symm).1;omega);have e2:=u2.cell;have g2:=u2.frozen))
     have oW:∀k,k<w6.heap.size→k≠w.heap.size+1+1→(w5.setCell ⟨w.heap.size+1+1,0,none⟩ (.slice (some ⟨g5,0,none⟩) (os.length+1) c5)).heap[k]? =W.heap[k]? :=fun k h1 h2=>by have a1:=(grownBy_setCell' w5 (w.heap.size+1+1) (.slice (some ⟨g5,0,none⟩) (os.length+1) c5)).block k (by have:=ap.size;simp at this;omega) (fun e=>h2 (by injection e));have a2:=ap.block k ZH (fun e=>by have:=(o3.1.blk _ e.symm).1;omega);exact a1.trans (a2.trans ((dH W3 _ k ZA).trans ((k6.block k ZA).trans (hb.block k ZA))))
     have tN:KeepsOthers W (w5.setCell ⟨w.heap.size+1+1,0,none⟩ (.slice (some ⟨g5,0,none⟩) (os.length+1) c5)):=((((Cr hb).trans (Cr k6)).trans (KeepsOthers.alloc W3 _)).trans (KeepsOthers.of_grownBy ap fun j o ej hj=>by obtain⟨o',h1,h2⟩:=Hn (o3.1.alloc (aC #[.string p,.slice Aq nq cq] 45)) ej;exact ZFD)).trans (KeepsOthers.setCell _ _ _)
     have hN5:=isN.snoc (o3.below ((aF W3.heap.size W3).alloc (aD _) (aC #[.string p,.slice Aq nq cq] 45))) ((ED.out.base_ (show w6.heap.size≤W2.heap.size by omega)).alloc _) (Dd ED.out ow.out.1 iu) (fun k hk=>Dd ED.out (ow.out.2.2.1 k hk (by have:=ow.out.2.1;omega)).2 iu) o5 ap cn;refine⟨tN,fun k hk=>oW k zW zW,⟨_,os++[⟨p,.slice Aq nq cq⟩],u2.set _,?_⟩,?_,?_,?_,?_,?_,?_⟩
     ·rw[AbL HP.out]
      exact hN5.out (w.heap.size+1+1) _ ZA
     exact ZFE
     ·rw[V9,cw,HP.out];rfl
     ·have:=kV.out;refine' ZAY;show pre.length+1≤8;omega
     exact ZFF
     ·exact ZFG
     ·refine hB.trans ⟨?_,?_,?_,?_,fun k h1=>oW k ZA ZA⟩
      ·exact ap.os.trans (k6.os.trans hb.os)
      ·exact ap.tape.trans (k6.tape.trans hb.tape)
      ·exact ap.output.trans (k6.output.trans hb.output)
      ·exact tN.1
 case done=>
  rintro D ys W hD rfl ⟨⟨v,os,hv,ho⟩,vV,cw,bn,y0,y1,hB⟩ hK;have ic:Kx t=Di (Gl Ib (Aj 59 t)):=by unfold Kx;rw[cw,aJ bn];rfl
  refine' ZFH;have HV:=Js (.slice A m cp) (Gl Ib (Aj 59 t)) W ho.rd;refine' ZFI;cases i7:Di (Gl Ib (Aj 59 t))
  ·refine' ZCa;gi_wp2_with (refine' YH;gi_at_call 216;refine' ZBJ)
   refine' ZFJ;exact ZQh
  ·refine' ZCa;gi_wp2_with (refine' YH;gi_at_call 216;refine' ZBJ)
   refine' ZQi;have oz:=(o2.out w.heap.size (.slice A m cp) ZA).out (w.heap.size+1) (.bool true) ZA;refine' ZQj;refine⟨.tuple #[.slice A m cp,.bool true],ZQk,_,by rw[jp.out],by rw[HR.out,jp.out,aP rfl];exact⟨os,(oz.putD oZ (.deferred none)).base_ ZA⟩,mT⟩
 case stop=>
  refine' ZFK;have ic:Kx t=false:=by
   unfold Kx;rcases am with h|h
   ·rw[Vl kL h];rfl
   ·have:=kL.length_le
    exact ZBK
  refine' ZFL;exact ZQh
end Go.Proofs.YtfadhdacjpmmeaaGreatDoor
