/- Parts. -/
import Derived.Test.YtfadhdacjpmmeaaGreatDoorQ33
import Derived.Shelf.Spec.SlicesInsert
namespace Go.Proofs
set_option maxRecDepth 100000
set_option maxHeartbeats 3200000
open Go.IntKind renaming i64→aI
open Go.Obj renaming cells→aC
open Go.Proofs.Tryz renaming prog→aB
open Go.Value renaming string→aK,int→bC
open Go.Proofs.YtfadhdacjpmmeaaGreatDoor
open Go.Shelf
def Tryz.laysIns2_ren:Go.Shelf.Ren:=⟨fun|22=>241|29=>298|30=>299|36=>341|17=>361|n=>n,fun|24=>28|9=>9|3=>3|4=>4|0=>0|n=>n,fun|n=>n⟩
theorem Tryz.laysIns2:Go.Proofs.Lays2.n22 aB Tryz.laysIns2_ren:={
 mixed:=ZB
 f17:=Tryz.func361.trans (aT some ZB)
 f22:=Tryz.func241.trans (aT some ZB)
 f29:=Tryz.func298.trans (aT some ZB)
 f30:=Tryz.func299.trans (aT some ZB)
 f36:=Tryz.func341.trans (aT some ZB)
 t0:=eN
 a0:=gS
 z0:=gH
 v0:=eW
 t3:=dJ
 a3:=eV
 z3:=eK
 v3:=dM
 t4:=dU
 a4:=gG
 z4:=fN
 v4:=eL
 t9:=dC
 a9:=fP
 z9:=fE
 v9:=eD
 t24:=aW
 a24:=Tryz.isAgg28
 z24:=Tryz.sizeOf28
 v24:=Tryz.zeroValue28
 i9:=ZB}
end Go.Proofs
set_option linter.unusedVariables false
set_option linter.unusedSimpArgs false
namespace Go.Proofs.YtfadhdacjpmmeaaGreatDoor
set_option maxRecDepth 100000
set_option maxHeartbeats 3200000
open Go.IntKind renaming i64→aI
open Go.Obj renaming cells→aC
open Go.Proofs.Tryz renaming prog→aB
open Go.Value renaming string→aK,int→bC
open Go.RowKit
theorem Zy{α:Type}[Flat α]{P w ops rest o a}{Q:Exit→Act→World→Prop}(mw:o.guard=none)(s x:Operand)(t:TypeId)
 (ho:o.op=.call {callee:=.builtin .append,args:=#[s,x],argTypes:=#[t,t]})
 (base) (e:TypeId) (i:TypeInfo) (ht:P.underlying t=some (.slice e)) (hi:P.info? e=some i)
 (cj:i.size=El.size α) (g c xs) (y:α) (hs:a.eval s=.slice (some ⟨g,0,none⟩) xs.length c) (fc:own e base w (.slice (some ⟨g,0,none⟩) xs.length c) xs)
 (ad c' cs) (hx:a.eval x=.slice (some ad) 1 c') (kY:El.el w w.heap.size y cs) (eo:∀j u,cs[j]? =some u→w.cell? (ad.add j)=some u)
 (oD:xs.length+1≤c)
 (h:∀w',own e base w' (.slice (some ⟨g,0,none⟩) (xs.length+1) c) (xs++[y])→w.grownBy w' (some g)→wpList P ops Q rest (a.put o.dst (.slice (some ⟨g,0,none⟩) (xs.length+1) c)) w'):wpList P ops Q (o::rest) a w:=by
 refine' ZCg;refine' ZR7;have wN:cs.length=1*i.size:=by rw[El.len kY,cj,iL]
 have UV:xs.length*i.size+cs.length≤bu.size:=by rw[wN,ax,←eU,cj];exact iK _ oD
 have hr:=run_append_room (P:=P) w t o.type e i ht hi g xs.length c bu hg ad 1 c' cs wN eo (El.one kY) oD UV;have bn:(gg.flatten++cs).length=(xs.length+1)*El.size α:=by rw[aS,jL.1,wN,cj,eU]
 refine wpList_plain mw fun K hK=>?_
 unfold Oper.wp execOp;simp only[ho,Go.resolve,Go.invoke,Go.builtin,Sem.run_bind,Sem.run_pure,Result.andThen_ok,List.map_toArray,cD,gC,hs,hx,hr];refine hK _ _ (h _ ⟨gg++[cs],⟨by simpa using bn,.inr ⟨g,c,_,ZE,UU,setRow_heap w g bu _ e _ hg,by simpa using oD,bd,?_,?_⟩⟩,ZBP,fun k h1 h2=>?_⟩ ⟨rfl,rfl,rfl,ZE,fun k _ hk=>setRow_other w g k _ (fun e=>hk (by rw[e]))⟩)
 ·simp only[dP,aS,bH,dO,gL]
  omega
 ·rw[cj,yg,bT,List.flatten_singleton,aS,cE,←bn]
  exact List.take_left
 ·exact ZDu
theorem Og{g}{T:TypeId}:∀(vs:List Value) (o:Nat) (w:World) (bu:Array Value),w.heap[g]? =some (.cells bu T (0,0))→∃sy,(w.setCells g o vs).heap[g]? =some (.cells sy T (0,0))∧sy.size=bu.size
 |[],_,w,bu,h=>⟨bu,h,rfl⟩
 |v::r,o,w,bu,h=>by obtain⟨c',h1,h2⟩:=Og r (o+1) (w.setCell ⟨g,o,none⟩ v) _ (cG w g o bu T v h);exact⟨c',h1,by rw[h2];simp⟩
theorem AmV{T B g c:Nat}{w bu}(ys:List ByteArray)(hg:w.heap[g]? =some (.cells bu T (0,0)))(hB:B≤g)(hs:bu.size=c)(hm:c≤maxLen)(hl:ys.length≤c)
 (hc:∀k (h:k<ys.length),w.cell? ⟨g,k,none⟩=some (.string ys[k])) (hz:∀y∈ys,y.size≤maxLen):own T B w (.slice (some ⟨g,0,none⟩) ys.length c) ys:=by
 have hf:(ys.map fun y=>[aK y]).flatten=ys.map aK:=by
  clear hc hz hl
  induction ys with
  |nil=>rfl
  |cons y ys ih=>rw[cD,cT,cD,ih];rfl
 refine⟨ys.map fun y=>[aK y],⟨by rw[hf,bF];show _=_*1;omega,.inr ⟨g,c,bu,rfl,hB,hg,hl,hm,by rw[hs];show _=_*1;omega,?_⟩⟩,ZE,fun k h1 h2=>?_⟩
 ·rw[hf]
  show bu.toList.take (ys.length*1)=_;apply iZ;intro k;rw[iX,iF];by_cases hk:k<ys.length
  ·rw[aP ZA,aR hk]
   have h1:=hc k hk;rw[fH _ _ _ _ _ _ hg]at h1;exact ZBS
  ·rw[aL ZA,eX ZA]
   rfl
 ·rw[eZ]
  exact⟨hz _ (aU h1),rfl⟩
theorem Mg{a:World}{g}:∀{w:World},a.grownBy w (some g)→∀(vs:List Value) (o:Nat),a.grownBy (w.setCells g o vs) (some g)
 |_,h,[],_=>h
 |_,h,v::r,o=>Mg (Gc (p:=⟨g,o,none⟩) h (.inl rfl) v) r (o+1)
theorem Aq0(B g c t w xs x)(fc:own 9 B w (.slice (some ⟨g,0,none⟩) xs.length c) xs)(hx:x.size≤maxLen)(oD:xs.length+1≤c)(ht:t≤xs.length):
 Calls aB 241 #[.slice (some ⟨g,0,none⟩) xs.length c,.int .i64 t,.slice (some ⟨w.heap.size,0,none⟩) 1 1] (w.alloc (aC #[.string x] 9)) fun e w'=>e=.returned (.slice (some ⟨g,0,none⟩) (xs.length+1) c)∧own 9 B w' (.slice (some ⟨g,0,none⟩) (xs.length+1) c) (xs.take t++x::xs.drop t)∧(w.alloc (aC #[.string x] 9)).grownBy w' (some g):=by
 obtain⟨W,hW⟩:∃W,W=w.alloc (aC #[.string x] 9):=⟨_,rfl⟩;have hO:own 9 B W (.slice (some ⟨g,0,none⟩) xs.length c) xs:=by rw[hW];exact fc.alloc _
 have hN:W.heap[w.heap.size]? =some (.cells #[.string x] 9 (0,0)):=by rw[hW];exact bD w _
 have bj:w.heap.size≠g:=by have:=(fc.blk g rfl).2;omega
 rw[←hW];clear hW;have hz:∀y∈xs,y.size≤maxLen:=fun y hy=>by obtain⟨k,hk,rfl⟩:=bO hy;obtain⟨A,n',c',_,_,_,_,hr⟩:=hO.rd;obtain⟨_,_,_,_,h1,_⟩:=hr.str k hk;exact h1
 have ij:∀k (h:k<xs.length),W.cell? ⟨g,k,none⟩=some (.string xs[k]):=fun k h=>Bx hO k h
 have uX:∀k,W.frozen? ⟨g,k,none⟩=false:=fun k=>hO.freeAt k
 obtain⟨bu,hg,ax,hBg,bd⟩:∃bu,W.heap[g]? =some (.cells bu 9 (0,0))∧bu.size=c∧B≤g∧c≤maxLen:=by obtain⟨gg,jL,_,_⟩:=hO;refine' ZR7;exact⟨bu,hg,by rw[ax];show c*1=c;omega,UU,bd⟩
 have KM:∀j,j<c→(W.cell? ⟨g,0+j,none⟩).isSome=true:=fun j hj=>by rw[fH _ _ _ _ _ _ hg,bW];simp[ax,hj]
 have hl:(xs.take t++x::xs.drop t).length=xs.length+1:=ZH
 have DX:∀j v,[aK x][j]? =some v→W.cell? ⟨w.heap.size,0+j,none⟩=some v:=fun j v hv=>by rw[fH _ _ _ _ _ _ hN,bW];simpa using hv
 have h1v:∀v∈[aK x],v.oneCell'=true:=fun v hv=>by simp at hv;subst hv;rfl
 have hzy:∀y∈xs.take t++x::xs.drop t,y.size≤maxLen:=fun y hy=>by
  rw[eC,List.mem_cons]at hy;rcases hy with h|rfl|h
  ·exact hz _ (dY h)
  ·exact hx
  ·exact hz _ (List.mem_of_mem_drop h)
 have done:∀w',(∃sy,w'.heap[g]? =some (.cells sy 9 (0,0))∧sy.size=bu.size)→(∀k (h:k<(xs.take t++x::xs.drop t).length),w'.cell? ⟨g,k,none⟩=some (.string (xs.take t++x::xs.drop t)[k]))→own 9 B w' (.slice (some ⟨g,0,none⟩) (xs.length+1) c) (xs.take t++x::xs.drop t):=fun w' h1 h2=>by
  obtain⟨sy,h1,h3⟩:=h1;have:=AmV (T:=9) (B:=B) (g:=g) (c:=c) (w:=w') (xs.take t++x::xs.drop t) h1 hBg (h3.trans ax) bd ZA h2 hzy
  rwa [hl]at this
 rcases gE t xs.length with ab|so
 ·have h:=Any2.slices_Insert_string_shift Tryz.laysIns2 g 0 xs.length c t w.heap.size 0 1 1 (xs.map aK) [.string x] W ab ZF oD (by unfold maxLen at bd;omega) bj ZE rfl
   (fun j v hv=>by rw[iF]at hv;obtain⟨y,hy,rfl⟩:=Option.map_eq_some_iff.1 hv;obtain⟨hj,rfl⟩:=List.getElem?_eq_some_iff.1 hy;rw[bW];exact ij j hj) (fun j hj=>KM j ZA) (fun j _=>by rw[bW];exact uX j) DX (fun v hv=>by obtain⟨y,_,rfl⟩:=List.mem_map.1 hv;rfl) h1v 9 9 1 bu.size (by simp[World.shape?,hN]) (by simp[World.shape?,hg]) ZA (frozen_of_row _ _ _ _ _ hN) (frozen_of_row _ _ _ _ _ hN)
  refine Calls.mono h ?_;refine' zN;rw[show 0+(t+1)=t+1 from bW _,show 0+t=t from bW _];have qq:((xs.map aK).drop t).length=xs.length - t:=ZE
  have pJ:∀j,j<((xs.map aK).drop t).length→(W.drew.cell? ⟨g,(t+1)+j,none⟩).isSome=true:=fun j hj=>by have:=KM (t+1+j) ZA;exact ZC8
  refine⟨rfl,done _ ?_ (fun k hk=>?_),?_⟩
  ·obtain⟨c1,a1,a2⟩:=Og ((xs.map aK).drop t) (t+1) W.drew bu hg
   obtain⟨c2,b1,b2⟩:=Og [.string x] t _ c1 a1;exact⟨c2,b1,b2.trans a2⟩
  ·rw[hl]at hk
   rcases eP k t with h|h|h
   ·rw[fF g _ _ _ _ (fun _ _=>by show k<t∨_;omega),fF g _ _ _ _ (fun _ _=>by show k<t+1∨_;omega)]
    have e:(xs.take t++x::xs.drop t)[k]=xs[k]' ZA:=ZR8
    rw[e];exact ij k ZA
   ·subst h
    have e:(xs.take k++x::xs.drop k)[k]=x:=by
     rw[bX ZH];have h0:k - (xs.take k).length=0:=ZH
     simp only[h0,dL]
    rw[e];have:=iY g [aK x] k (W.drew.setCells g (k+1) ((xs.map aK).drop k)) (fun j hj=>by simp at hj;subst hj;rw[fF g _ _ _ _ (fun _ _=>by show k+0<k+1∨_;omega)];have:=KM k ZA;exact ZC8) 0 ZE
    exact zT
   ·rw[fF g _ _ _ _ (fun _ _=>by show k<t∨t+1≤k;omega)]
    have:=iY g ((xs.map aK).drop t) (t+1) W.drew pJ (k - (t+1)) ZA;rw[show t+1+(k - (t+1))=k by omega]at this;rw[this];have e:(xs.take t++x::xs.drop t)[k]=xs[k - 1]' ZA:=by
     rw[bX ZH];have jl:k - (xs.take t).length=(k - t - 1)+1:=ZH
     simp only[jl,gV,iG]
     congr 1;omega
    rw[e];simp only[iG,eZ]
    congr 3;omega
  ·have hd:W.grownBy W.drew (some g):=⟨rfl,rfl,rfl,aD _,fun _ _ _=>rfl⟩
   exact Mg (Mg hd _ _) _ _
 ·obtain rfl:t=xs.length:=ZA
  have h:=Any2.slices_Insert_string_end_room Tryz.laysIns2 g 0 xs.length c w.heap.size 0 1 1 [.string x] W ZF oD (by unfold maxLen at bd;omega) rfl
   (fun j hj=>by
   have:=KM (xs.length+j) ZA
   rwa [←jH]at this) (fun j _=>uX _) DX h1v
  refine Calls.mono h ?_;refine' zN;rw[show 0+xs.length=xs.length from bW _];refine⟨rfl,done _ ?_ (fun k hk=>?_),Mg (cU _ _) _ _⟩
  ·obtain⟨c1,a1,a2⟩:=Og [.string x] xs.length W bu hg
   exact⟨c1,a1,a2⟩
  ·rw[hl]at hk
   rcases gE k xs.length with h|h
   ·rw[fF g _ _ _ _ (fun _ _=>by show k<xs.length∨_;omega)]
    have e:(xs.take xs.length++x::xs.drop xs.length)[k]=xs[k]:=ZR8
    rw[e];exact ij k h
   ·obtain rfl:k=xs.length:=ZA
    have e:(xs.take xs.length++x::xs.drop xs.length)[xs.length]=x:=by rw[bX ZE];simp
    rw[e];have:=iY g [aK x] xs.length W (fun j hj=>by simp at hj;subst hj;have:=KM xs.length ZA;exact ZC8) 0 ZE
    exact zT
theorem AcS{α:Type}(xs:List α)(f:Nat):∀k,k≤xs.length→(wo (xs.take k) (f:Int)).length=if f<k then k - 1 else k
 |0,_=>by rw[aL (aX _)];rfl
 |k+1,h=>by
  have ih:=AcS xs f k ZA;rw[Z7 (show k<xs.length by omega)];by_cases hk:(k:Int)=(f:Int)
  ·rw[aP hk,ih,aL ZA,aP ZA]
   omega
  ·rw[aL hk,aS,cE,ih]
   by_cases h1:f<k
   ·rw[aP h1,aP ZA];omega
   ·rw[aL h1,aL ZA]
theorem Q5{p f t}(h:Eg p f t=false):Ei p f t=⟨0,0,[]⟩:=by unfold Ei;rw[h];rfl
theorem Ac6{p f t}(h:Eg p f t=true):Ei p f t=⟨p.bins,p.passes,Ju p.order f.toNat t.toNat⟩:=by unfold Ei;rw[aP h]
theorem Ag1(v p f t w)(hv:rdP w w.heap.size v p):
 Calls aB 154 #[v,.int .i64 f,.int .i64 t] w fun e w'=>∃vo,e=.returned (.tuple #[.agg #[.int .i64 (Ei p f t).bins,.int .i64 (Ei p f t).passes,vo],.bool (Eg p f t)])∧own 9 w.heap.size w' vo (Ei p f t).order∧Below w.heap.size w w':=by
 refine' zQ;obtain⟨vo,rfl,hib,hip,i7⟩:=hv;obtain⟨A0,n0,c0,rfl,jw,xW,sU,f9⟩:=i7;subst jw;unfold maxLen at sU;have sX:=aA f9;clear f9;refine' ZJC;have Q0:=aA (Af ac 0 (.int .i64 p.bins) rfl);have Q1:=aA (Af ac 1 (.int .i64 p.passes) rfl);have Q2:=aA (Af ac 2 (.slice A0 p.order.length c0) rfl);have ah:w0.heap.size=w.heap.size+1:=by rw[ac];simp
 have jS:Below w.heap.size w w0:=(Aw ac).1;obtain⟨wA,ae⟩:∃u,u=w0.alloc (aC #[.int .i64 0,.int .i64 0,.slice none 0 0] 30):=⟨_,rfl⟩;have CM:Below w0.heap.size w0 wA:=(Aw ae).1;have TN:Below w.heap.size w wA:=Aa jS CM;have mn:wA.heap.size=w.heap.size+2:=by rw[ae];exact ZH
 have mz:wA.heap[w.heap.size+1]? =some (.cells #[.int .i64 0,.int .i64 0,.slice none 0 0] 30 (0,0)):=by rw[ae,←ah];exact bD w0 _
 have lH:=aA (Fq _ p wA (HV.out.on TN));refine' ZAx;refine' zX;have xb:=aA CM;have HLA:=aA TN;have HBA:=aA mz;clear ac ae jS CM TN mz;have bw:Hid (Bq p=false∨f<0∨(p.order.length:Int)≤f∨t<0∨(p.order.length:Int)≤t→Eg p f t=false):=fun h=>by
  unfold Eg;rcases h with h|h|h|h|h
  ·rw[h];rfl
  ·rw[aO (show¬0≤f by omega)];simp
  ·rw[aO (show¬f<p.order.length by omega)];simp
  ·rw[aO (show¬0≤t by omega)];simp
  ·rw[aO (show¬t<p.order.length by omega)];simp
 have q0:=Q0.out wA xb.out;have q1:=Q1.out wA xb.out;have q2:=Q2.out wA xb.out;go_enter Tryz.func154,Tryz.ntmps154
 refine' ZC;rw[←dc.out,←ar.out];refine lH.out.mono ?_;refine' ZT;have gh:=b1.size;have bt:=(b1.block (w.heap.size+1) ZA).trans HBA.out;have lJ:Below w.heap.size w w1:=Aa HLA.out b1;have JZ:Below w0.heap.size w0 w1:=Aa xb.out b1;clear q0 q1 q2;have q0:=Q0.out w1 JZ;have q1:=Q1.out w1 JZ;have q2:=Q2.out w1 JZ;have fi:=aA JZ;clear b1 JZ;cases hk:Bq p
 ·have HQ:Hid (Eg p f t=false):=bw.out (.inl hk)
  exact ZD4
 by_cases kF:f<0
 ·have HQ:Hid (Eg p f t=false):=bw.out (.inr (.inl kF))
  refine' ZAd;exact ZD4
 by_cases sk:(p.order.length:Int)≤f
 ·have HQ:Hid (Eg p f t=false):=bw.out (.inr (.inr (.inl sk)))
  refine' ZAd;exact ZD4
 by_cases ht0:t<0
 ·have HQ:Hid (Eg p f t=false):=bw.out (.inr (.inr (.inr (.inl ht0))))
  refine' ZAd;exact ZD4
 by_cases vM:(p.order.length:Int)≤t
 ·have HQ:Hid (Eg p f t=false):=bw.out (.inr (.inr (.inr (.inr vM))))
  refine' ZAd;exact ZD4
 obtain⟨fn,rfl⟩:=aQ (show 0≤f by omega);obtain⟨tn,rfl⟩:=aQ (show 0≤t by omega);have ue:fn<p.order.length:=ZA
 have FF:tn<p.order.length:=ZA
 have HQ:Hid (Eg p (fn:Int) (tn:Int)=true):=by show _=_;unfold Eg;rw[hk,aJ (show(0:Int)≤(fn:Int) by omega),aJ (show(fn:Int)<p.order.length by omega),aJ (show(0:Int)≤(tn:Int) by omega),aJ (show(tn:Int)<p.order.length by omega)];rfl
 have HR:Hid (Ei p (fn:Int) (tn:Int)=⟨p.bins,p.passes,Ju p.order fn tn⟩):=Ac6 HQ.out;have KA:=(De.1 hk).2.1.2;clear hk;obtain⟨pb,pp,po⟩:=p;simp only at HR HQ Q0 Q1 Q2 sX hib hip ue FF KA sk vM q0 q1 q2;obtain⟨i0,hi,TP,aw,aq⟩:=eA Tryz.infoStr;have ez:∀W:World,Sem.run aB (Instr.makeSlice 28 (.int .i64 0) (.int .i64 (po.length:Int))) W=.ok (.slice (some ⟨W.heap.size,0,none⟩) 0 po.length) (W.alloc (aC (madeCells #[.string ⟨#[]⟩] po.length) 9)):=fun W=>by have h:=run_make (P:=aB) (w:=W) 28 9 i0 _ aW hi TP .i64 .i64 0 (po.length:Int) ZA ZA zf ZA;rw[aw,dZ]at h;simp only[bE]at h;exact h
 have kT:Hid ((madeCells #[aK ⟨#[]⟩] po.length).size=po.length):=size_madeCells _ _;have ry:Hid (Ju po fn tn=(wo po (fn:Int)).take tn++(po.getD fn ⟨#[]⟩::(wo po (fn:Int)).drop tn)):=rfl;have kQ:=aA (AcS po fn);have lY:=aA (fun k (h:k<po.length)=>Z7 h (fn:Int));have ik:=aA bt;have DP:=aA lJ;have jv:decide ((fn:Int)<0)=false:=aO ZA;have jN:decide (po.length≤fn)=false:=aO ZA;have hA3:decide ((tn:Int)<0)=false:=aO ZA;have hA4:decide (po.length≤tn)=false:=aO ZA;have HFN:=aA ue;have HTN:=aA FF;clear ue FF sk vM kF ht0;clear bt lJ;have tZ:=Q2.out (w1.alloc (aC (madeCells #[aK ⟨#[]⟩] po.length) 9)) (Ae fi.out _)
 refine' ZC;have ox:own (α:=ByteArray) 9 w1.heap.size (w1.alloc (aC (madeCells #[aK ⟨#[]⟩] po.length) 9)) (.slice (some ⟨w1.heap.size,0,none⟩) 0 po.length) (wo (po.take 0) (fn:Int)):=own.madeCap w1 _ (aD _) _ po.length ZN (by rw[kT.out];exact(dZ _).symm);have l0:Below w1.heap.size w1 (w1.alloc (aC (madeCells #[aK ⟨#[]⟩] po.length) 9)):=(aF _ _).alloc (aD _) _;have qP:=aA ox;clear ez ox q0 q1 q2 tZ;generalize w1.alloc (aC (madeCells #[aK ⟨#[]⟩] po.length) 9)=wz at *
 go_loopw[8,44] (fun a i wr=>∃k:Nat,k≤po.length∧i=.int .i64 k∧a=.slice (some ⟨w1.heap.size,0,none⟩) (wo (po.take k) (fn:Int)).length po.length∧own 9 w1.heap.size wr (.slice (some ⟨w1.heap.size,0,none⟩) (wo (po.take k) (fn:Int)).length po.length) (wo (po.take k) (fn:Int))∧Below w1.heap.size w1 wr) (fun _ i _=>po.length - (intOf i).toNat)
 case atStart=>exact⟨0,aM _,rfl,rfl,qP.out,l0⟩
 case round=>
  obtain⟨k,hk,rfl,rfl,hA,lr⟩:=hrel;refine' zj;clear l0 qP;have oN:=lr.size;by_cases ab:k<po.length
  ·obtain⟨b,o,rfl,hb,se,y1⟩:=rdA.strU sX.out k ab
   have y1:=y1 w3 (Aa DP.out lr);have HT:=aA (lY.out k ab);have bn:(wo (po.take k) (fn:Int)).length+1≤po.length:=by
    have:=kQ.out k hk
    split at this<;>omega
   generalize po[k]=x at *;generalize wo (po.take k) (fn:Int)=sa at *;have HA:=aA hA;clear hA;have bc:(k:Int)<(po.length:Int):=ZA
   by_cases he:(k:Int)=(fn:Int)
   ·have hkf:k=fn:=ZA
    have HS:Hid (wo (po.take (k+1)) (fn:Int)=sa):=ZRf
    clear HT he;subst hkf
    refine' ZC;go_roundw
    case rel=>exact⟨k+1,ZA,ZJ,by rw[HS.out],by rw[HS.out];exact HA.out,lr⟩
    case measure=>exact ZK
   ·have hkf:¬k=fn:=ZA
    have HS:Hid (wo (po.take (k+1)) (fn:Int)=sa++[x]):=ZRg
    clear HT
    go_wp2_with (at_builtin;refine Zy (α:=ByteArray) rfl (.tmp 52) (.tmp 54) 28 rfl w1.heap.size 9 i0 aW hi aw w1.heap.size po.length sa x rfl (HA.out.alloc _) ⟨w3.heap.size,0,none⟩ 1 [.string x] rfl ⟨se,rfl⟩ (Bz w3 _ [.string x]) bn ?_;intro w5 bz ap)
    have l5:Below w1.heap.size w1 w5:=(Ae lr (aC #[aK x] 9)).grown ap ZH fun q hq=>by injection hq with hq;omega
    refine' ZBQ;clear bz ap;go_roundw
    case rel=>exact⟨k+1,ZA,ZJ,by rw[HS.out,aS,cE],by rw[HS.out,aS,cE];exact jT.out,l5⟩
    case measure=>exact ZK
  ·have HE:=aA (show k=po.length by omega)
   have ue:=HFN.out;have FF:=HTN.out;have HA:Hid (own 9 w1.heap.size w3 (.slice (some ⟨w1.heap.size,0,none⟩) (wo po (fn:Int)).length po.length) (wo po (fn:Int))):=by have h:=hA;rw[HE.out,aY]at h;exact h
   have HEL:Hid (wo (po.take k) (fn:Int)=wo po (fn:Int)):=by show _=_;rw[HE.out,aY]
   rw[HEL.out];have cz:(wo po (fn:Int)).length+1≤po.length∧po.length≤(wo po (fn:Int)).length+1:=by have:=kQ.out po.length (aD _);rw[aY,aP ue]at this;omega
   obtain⟨hwl1,hwl2⟩:=cz;obtain⟨b,o,rfl,hb,se,y1⟩:=rdA.strU sX.out fn ue;have y1:=y1 w3 (Aa DP.out lr);have HX:Hid (po.getD fn ⟨#[]⟩=po[fn]):=by show _=_;rw[bL,aR ue];rfl
   generalize po[fn]=x at *;generalize wo po (fn:Int)=sa at *;have TQ:=aA (Aq0 w1.heap.size w1.heap.size po.length tn w3 sa x HA.out se ZA ZA);have q0:=Q0.out w3 (Aa fi.out lr);have q1:=Q1.out w3 (Aa fi.out lr);have q2:=Q2.out w3 (Aa fi.out lr);have bc:(fn:Int)<(po.length:Int):=ZA
   clear hA HEL
   go_wp2_with (go_at_call 241;(with_reducible refine TQ.out.mono ?_);rintro e w4 ⟨rfl,o4,g4⟩;have l4:Below w1.heap.size w1 w4:=(Ae lr (aC #[aK x] 9)).grown g4 ZH (fun q hq=>by injection hq with hq;omega);have kB:=(l4.block (w.heap.size+1) ZA).trans ik.out;obtain⟨a0,a1,a2,e0,e1,e2⟩:=B7 kB;have br:=aA kB;have O4:=aA o4;have L4:=aA l4;clear q0 q1 q2;have q0:=Q0.out w4 (Aa fi.out l4);have q1:=Q1.out w4 (Aa fi.out l4);have q2:=Q2.out w4 (Aa fi.out l4);clear kB o4 l4 g4)
   refine Ax rfl rfl (Bp br.out) Tryz.underlying30 rfl Tryz.sizePlK rfl ?_;exact⟨_,ZF1,by rw[HR.out];show own _ _ _ _ (Ju po fn tn);rw[ry.out,HX.out];exact own.base_ (Bd (Bd (Bd O4.out ⟨w.heap.size+1,0,none⟩ _ (show w.heap.size+1<w1.heap.size by omega)) ⟨w.heap.size+1,1,none⟩ _ (show w.heap.size+1<w1.heap.size by omega)) ⟨w.heap.size+1,2,none⟩ _ (show w.heap.size+1<w1.heap.size by omega)) (show w.heap.size≤w1.heap.size by omega),Ai (Ai (Ai (Aa DP.out L4.out) ZCo _) ZCo _) ZCo _⟩
theorem Tj(f):Bj (Am f):=by
 unfold Am
 split
 ·have h:=Lp (d:=Mj f) (ng:=Kn f)
  show Bj (N5 (Mj f) (Kn f));exact zL
 ·exact zL
theorem AyS(B d s vH f g w)(hD:Bv B w d s vH)(hB:B≤w.heap.size)(hT:I4 w)(ib:f.size≤maxLen)(DQ:g.size≤maxLen)(hi:Bj s.day.plan.bins∧Bj s.day.plan.passes):
 Calls aB 59 #[.pointer (some ⟨d,0,none⟩),.string C0,.string f,.string g] w (Bb B d (if Eg s.day.plan (Am f) (Am g)then{s with day:={s.day with plan:=Ei s.day.plan (Am f) (Am g)}}else s) vH (if Eg s.day.plan (Am f) (Am g)then E7 (Ei s.day.plan (Am f) (Am g))else⟨#[]⟩) w):=by
 refine' zC;have HT:=aA hT;obtain⟨vL,vO,vF,vN,os,⟨c0,c1,c2,c3,c4,c5,c6,c7⟩,uX,hL,hO,hF,hH,hN,hAP⟩:=Ca hD;obtain⟨AO,nO,cO,rfl, -, -, -, -⟩:=hO.rd;have qq:=hD.lt;have pL:=aA (fun W=>Fg f W ib);have th:=aA (fun W=>Fg g W DQ);generalize Am f=n1 at *;generalize Am g=n2 at *;refine' ZJD;have HM:Hid (∀W,Below w.heap.size w W→Calls aB 154 #[.agg #[.int .i64 s.day.plan.bins,.int .i64 s.day.plan.passes,.slice AO nO cO],.int .i64 n1,.int .i64 n2] W fun e w'=>∃vo,e=.returned (.tuple #[.agg #[.int .i64 (Ei s.day.plan n1 n2).bins,.int .i64 (Ei s.day.plan n1 n2).passes,vo],.bool (Eg s.day.plan n1 n2)])∧own 9 W.heap.size w' vo (Ei s.day.plan n1 n2).order∧Below W.heap.size W w'):=fun W hW=>Ag1 _ s.day.plan n1 n2 W (pM.on hW)
 have IG:Hid (Eg s.day.plan n1 n2=true→Bj (Ei s.day.plan n1 n2).bins∧Bj (Ei s.day.plan n1 n2).passes):=fun h=>by rw[Ac6 h];exact hi
 refine' ZRz;refine' ZBN;generalize Ei s.day.plan n1 n2=mv at *;obtain⟨mb,mp,mo⟩:=mv;generalize Eg s.day.plan n1 n2=ok at *;simp only at HM IG;obtain⟨s',qt⟩:∃z:Dsk,z=(if ok then{s with day:={s.day with plan:=⟨mb,mp,mo⟩}}else s):=⟨_,rfl⟩;obtain⟨an,rX⟩:∃z:ByteArray,z=(if ok then E7 ⟨mb,mp,mo⟩else⟨#[]⟩):=⟨_,rfl⟩;rw[←qt,←rX];have dw:=aA qt;have LZ:=aA rX;clear qt rX;clear hD hT ib DQ hi pM hL hO hF hH hN hAP uX c0 c1 c2 c3 c4 c5 c6 c7;refine' ZJE;go_enter Tryz.func59,Tryz.ntmps59
 refine' ZC;have la:Below w.heap.size w (w.alloc (aC #[.int .i64 0,.int .i64 0,.slice none 0 0] 30)).drew:=Ag (Ae (aF _ _) _)
 go_region_held3 (fun W=>Below w.heap.size w W) (first|exact ld|exact la|exact Ae ld _|exact k1|exact Ae k1 _|exact k3 _ _ _|fail) (first|(go_at_call 140;refine' ZJF)|(go_at_call 154;first|((with_reducible refine(HM.out _ la).mono ?_);refine' ZAv;have k1:=Aa la z1;have k3:=fun(a0 a1 a2:Value)=>Ai (Ai (Ai k1 (p:=⟨w.heap.size,0,none⟩) (aD _) a0) (p:=⟨w.heap.size,1,none⟩) (aD _) a1) (p:=⟨w.heap.size,2,none⟩) (aD _) a2;have xv:=E3 (w:=(w.alloc (aC #[.int .i64 0,.int .i64 0,.slice none 0 0] 30)).drew) (bD w _) z1;obtain⟨b0,b1,b2,g0,g1,g2⟩:=B7 xv;have HBK:=aA xv;have O1:=aA o1;obtain⟨AV,nV,cV,rfl, -, -, -, -⟩:=o1.rd;clear o1 xv)|((with_reducible refine(HM.out _ ld).mono ?_);refine' ZAv;have k1:=Aa ld z1;have O1:=aA o1;obtain⟨AV,nV,cV,rfl, -, -, -, -⟩:=o1.rd;clear o1)|fail)|fail)
 all_goals first
  |(have gh:=k1.size;have kS:Hid ((((u1.setCell ⟨w.heap.size,0,none⟩ (.int .i64 mb)).setCell ⟨w.heap.size,1,none⟩ (.int .i64 mp)).setCell ⟨w.heap.size,2,none⟩ (.slice AV nV cV)).heap[w.heap.size]? =some (.cells #[.int .i64 mb,.int .i64 mp,.slice AV nV cV] 30 (0,0))):=Bp HBK.out;have K2:=aA (k3 (.int .i64 mb) (.int .i64 mp) (.slice AV nV cV));have O2:Hid (own 9 w.heap.size (((u1.setCell ⟨w.heap.size,0,none⟩ (.int .i64 mb)).setCell ⟨w.heap.size,1,none⟩ (.int .i64 mp)).setCell ⟨w.heap.size,2,none⟩ (.slice AV nV cV)) (.slice AV nV cV) mo):=own.base_ (Bd (Bd (Bd O1.out ⟨w.heap.size,0,none⟩ _ ZE) ⟨w.heap.size,1,none⟩ _ ZE) ⟨w.heap.size,2,none⟩ _ ZE) ZE;clear k1 k3 z1 ld la q1 q2 q3 b0 b1 b2 g0 g1 g2 O1 HBK;generalize((u1.setCell ⟨w.heap.size,0,none⟩ (.int .i64 mb)).setCell ⟨w.heap.size,1,none⟩ (.int .i64 mp)).setCell ⟨w.heap.size,2,none⟩ (.slice AV nV cV)=W2 at *;obtain⟨gb,IH⟩:∃gb,gb=w.heap.size:=⟨_,rfl⟩;exact ZR0
   )
  |(have gh:=k1.size;have kS:Hid ((u1.alloc (aC #[.int .i64 mb,.int .i64 mp,.slice AV nV cV] 30)).heap[u1.heap.size]? =some (.cells #[.int .i64 mb,.int .i64 mp,.slice AV nV cV] 30 (0,0))):=bD u1 _;have K2:=aA (Ae k1 (aC #[.int .i64 mb,.int .i64 mp,.slice AV nV cV] 30));have O2:Hid (own 9 w.heap.size (u1.alloc (aC #[.int .i64 mb,.int .i64 mp,.slice AV nV cV] 30)) (.slice AV nV cV) mo):=(O1.out.base_ (aD _)).alloc _;clear k1 z1 ld la q1 q2 q3 O1;generalize u1.alloc (aC #[.int .i64 mb,.int .i64 mp,.slice AV nV cV] 30)=W2 at *;obtain⟨gb,IH⟩:∃gb,gb=u1.heap.size:=⟨_,rfl⟩;exact ZR0
   )
theorem ArV(B d gF s vH f0 f1 f2 w)(hD:Bv B w d s vH)(hT:I4 w)(hi:Bj s.day.plan.bins∧Bj s.day.plan.passes)
 (y0:w.cell? ⟨gF,0,none⟩=some (.string f0)) (y1:w.cell? ⟨gF,1,none⟩=some (.string f1)) (y2:w.cell? ⟨gF,2,none⟩=some (.string f2)) (z0:f0.size≤maxLen) (z1:f1.size≤maxLen) (z2:f2.size≤maxLen):
 Calls aB 60 #[.pointer (some ⟨d,0,none⟩),.slice (some ⟨gF,0,none⟩) 3 3] w (Bb B d s vH (Jp s.day.plan s.letters (Am f0) (Am f1) (Am f2)) w):=by
 refine' zC;have HT:=aA hT;obtain⟨vL,vO,_,_,_,⟨c0,c1,c2,c3,_,_,_,_⟩,_,hL,hO,_⟩:=Ca hD;refine' ZJG;have rA:=aA (fun W=>Fg f0 W z0);have pL:=aA (fun W=>Fg f1 W z1);have th:=aA (fun W=>Fg f2 W z2);refine' ZR4;refine' ZJD;have HM:Hid (∀(vm:Value) (W:World),Below w.heap.size w W→rd W W.heap.size vm [(⟨n1,n2⟩:Mis)]→Calls aB 157 #[.agg #[.int .i64 s.day.plan.bins,.int .i64 s.day.plan.passes,.slice AO nO cO],.slice AL nL cL,.int .i64 n0,vm] W fun e w'=>∃vL,e=.returned (.tuple #[vL,.bool (Lo s.day.plan s.letters n0 [⟨n1,n2⟩])])∧own 119 W.heap.size w' vL (Fr s.day.plan s.letters n0 [⟨n1,n2⟩])∧Below W.heap.size W w'):=fun vm W hW hm=>Ab9 _ _ vm s.day.plan s.letters n0 [⟨n1,n2⟩] W (pM.on hW) (hL.rd.on hW) hm
 refine' ZR5;refine' ZR6;refine' ZDo;have u0:=fun W (hW:Below w.heap.size w W)=>(hW.cell (p:=⟨gF,0,none⟩) (Az y0)).trans y0
 have u1:=fun W (hW:Below w.heap.size w W)=>(hW.cell (p:=⟨gF,1,none⟩) (Az y1)).trans y1
 have u2:=fun W (hW:Below w.heap.size w W)=>(hW.cell (p:=⟨gF,2,none⟩) (Az y2)).trans y2
 refine' ZBN;have la:Below w.heap.size w (w.alloc (aC #[.int .i64 0,.int .i64 0] 170)).drew:=Ag (Ae (aF _ _) _);clear hD hT hi hL hO pM c0 c1 c2 c3 y0 y1 y2 z0 z1 z2 bt dj rX;go_enter Tryz.func60,Tryz.ntmps60
 refine' ZC;go_region_held3 (fun W=>Below w.heap.size w W) (first|exact ld|exact la|exact Ae ld _|fail) (first|(go_at_call 140;refine' ZJF)|fail)
 all_goals
  obtain⟨W0,EI⟩:∃W,W=w.alloc (aC #[.int .i64 n1,.int .i64 n2] 170):=⟨_,rfl⟩;rw[←EI];have l0:Below w.heap.size w W0:=by rw[EI];exact ZAf
  have NS:=Af EI 0 (.int .i64 n1) rfl;have NU:=Af EI 1 (.int .i64 n2) rfl;obtain⟨W1,py⟩:∃W,W=W0.drew:=⟨_,rfl⟩;rw[←py];have l1:Below w.heap.size w W1:=by rw[py];exact Ag l0
  have DC:Below W0.heap.size W0 W1:=by rw[py];exact Ag (aF _ _)
  have L1:=aA l1;replace q0:=fun W (hW:Below W1.heap.size W1 W)=>q0 W (Aa l1 hW)
  replace q1:=fun W (hW:Below W1.heap.size W1 W)=>q1 W (Aa l1 hW)
  replace q2:=fun W (hW:Below W1.heap.size W1 W)=>q2 W (Aa l1 hW)
  replace q3:=fun W (hW:Below W1.heap.size W1 W)=>q3 W (Aa l1 hW)
  replace u0:=fun W (hW:Below W1.heap.size W1 W)=>u0 W (Aa l1 hW)
  replace NS:=fun W (hW:Below W1.heap.size W1 W)=>NS W (Aa DC hW)
  replace NU:=fun W (hW:Below W1.heap.size W1 W)=>NU W (Aa DC hW)
  have NV:Hid (rd (W1.alloc (aC #[.int .i64 n1,.int .i64 n2] 170)).drew (W1.alloc (aC #[.int .i64 n1,.int .i64 n2] 170)).drew.heap.size (.slice (some ⟨W1.heap.size,0,none⟩) 1 1) [(⟨n1,n2⟩:Mis)]):=NR.out W1;clear EI py l0 DC l1 u1 u2 ld la;have ld:=Ag (aF W1.heap.size W1);have la:Below W1.heap.size W1 (W1.alloc (aC #[.int .i64 n1,.int .i64 n2] 170)).drew:=Ag (Ae (aF _ _) _)
  refine' ZC;go_region_held3 (fun W=>Below W1.heap.size W1 W) (first|exact ld|exact la|exact Ae ld _|exact k9|fail) (first|(go_at_call 140;(with_reducible refine(rA.out _).mono ?_);refine' ZP)|(go_at_call 157;(with_reducible refine(HM.out _ _ (Aa L1.out la) NV.out).mono ?_);rintro e u9 ⟨v9,rfl,o9,z9⟩;have k9:=Aa la z9;have O9:=aA o9.rd;obtain⟨A9,n9,m9,rfl, -, -, -, -⟩:=o9.rd;clear o9)|fail)
  all_goals
   have K9:=aA (Aa L1.out k9);clear k9 z9 ld la q0 q1 q2 q3 u0 NS NU;cases ok
   ·refine' ZI;rw[HQ.out];refine' ZF0;exact Bb.of_read HD.out rfl K9.out
   ·have HF:=aA (F7 _ L u9 O9.out (HT.out.on K9.out))
    refine' ZC;refine HF.out.mono ?_;rintro e u8 ⟨rfl,z8⟩;have K8:=aA (Aa K9.out z8);clear z8
    refine' ZI;rw[HQ.out];refine' ZF0;exact Bb.of_read HD.out rfl K8.out
theorem Aj8(B d s vH ak wd rest ps w)(hD:Bv B w d s vH)(hz:ak.size≤maxLen)(hr:rest.size≤1000000000)(co:E5 32 ak=some (wd,rest))(hp:Aj 32 rest=ps)
 (ca:(wd.toList==[108,101,116,116,101,114,115])=false) (db:(wd.toList==[112,108,97,110])=false) (d8:(wd.toList==[102,111,114,119,97,114,100,115])=false) (fd:(wd.toList==[110,101,116])=false)
 (hn:4≤ps.length∨(ps.length=3∧(wd.toList==[102,97,117,108,116])=false)):
 Calls aB 16 #[.pointer (some ⟨d,0,none⟩),.string ak] w (Bb B d s vH Hg w):=by
 refine' zC;refine' ZF2;have kj:Hid (∀W:World,Calls aB 13 #[.string rest,.string ⟨#[32]⟩] W fun e w'=>e=.returned (.slice (some ⟨W.heap.size,0,none⟩) ps.length ps.length)∧own 9 W.heap.size w' (.slice (some ⟨W.heap.size,0,none⟩) ps.length ps.length) ps∧Below W.heap.size W w'):=fun W=>ZF3
 clear co hp hD hz hr;rcases hn with hn|⟨hn,gq⟩
 ·exact ZSC
 ·rw[hn]at kj
  clear hn;exact ZSC
theorem AsD(B d s vH ak wd rest f g h w)(hD:Bv B w d s vH)(hT:I4 w)(hi:Bj s.day.plan.bins∧Bj s.day.plan.passes)(hz:ak.size≤maxLen)(hr:rest.size≤1000000000)(co:E5 32 ak=some (wd,rest))(hp:Aj 32 rest=[f,g,h])
 (ca:(wd.toList==[108,101,116,116,101,114,115])=false) (db:(wd.toList==[112,108,97,110])=false) (d8:(wd.toList==[102,111,114,119,97,114,100,115])=false) (fd:(wd.toList==[110,101,116])=false)
 (gq:(wd.toList==[102,97,117,108,116])=true):
 Calls aB 16 #[.pointer (some ⟨d,0,none⟩),.string ak] w (Bb B d s vH (Jp s.day.plan s.letters (Am f) (Am g) (Am h)) w):=by
 have ct:∀x∈[f,g,h],x.size≤maxLen:=fun x hx=>by have:=Hi (c:=32) (t:=rest) (by rw[hp];exact hx);exact ZN
 have HT:=aA hT;refine' zC;refine' ZF2;have kj:Hid (∀W:World,Calls aB 13 #[.string rest,.string ⟨#[32]⟩] W fun e w'=>e=.returned (.slice (some ⟨W.heap.size,0,none⟩) 3 3)∧own 9 W.heap.size w' (.slice (some ⟨W.heap.size,0,none⟩) 3 3) [f,g,h]∧Below W.heap.size W w'):=fun W=>ZF3
 have z0:=ct f ZE;have z1:=ct g ZE;have z2:=ct h ZE;clear co hp hD hz hr ct hT;refine' ZJK;have l2:=Aa b1 b2;have HF:=aA (ArV B d w1.heap.size s vH f g h w2 (HD.out.below l2) (HT.out.on l2) hi (Bx o2 0 ZE) (Bx o2 1 ZE) (Bx o2 2 ZE) z0 z1 z2);have L2:=aA l2;generalize Jp s.day.plan s.letters (Am f) (Am g) (Am h)=a at *;clear o2 b1 b2 l2
 refine' ZC;refine HF.out.mono ?_;rintro e w3 ⟨rfl,h3⟩
 refine' ZI;exact Bb.pre L2.out ⟨rfl,h3⟩
end Go.Proofs.YtfadhdacjpmmeaaGreatDoor
