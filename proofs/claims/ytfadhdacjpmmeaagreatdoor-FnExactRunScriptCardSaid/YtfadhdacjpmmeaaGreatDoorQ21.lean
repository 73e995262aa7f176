/- Parts. -/
import Derived.Test.YtfadhdacjpmmeaaGreatDoorQ17
set_option linter.unusedVariables false
set_option linter.unusedSimpArgs false
namespace Go.Proofs.YtfadhdacjpmmeaaGreatDoor
set_option maxRecDepth 100000
set_option maxHeartbeats 6400000
open Go.IntKind renaming i64→aI
open Go.Obj renaming cells→aC
open Go.Proofs.Tryz renaming prog→aB
open Go.Value renaming string→aK,int→bC
open Go.RowKit
theorem Y0(v vb p xs w)(hv:rdP w w.heap.size v p)(hb:rd w w.heap.size vb xs):
 Calls aB 27 #[v,vb] w fun e w'=>∃vL vO,e=.returned (.tuple #[vL,vO,.bool (M4 p xs)])∧own 119 w.heap.size w' vL (Dr p xs)∧own 119 w.heap.size w' vO (Ha p xs)∧apart vL vO∧Below w.heap.size w w':=by
 refine' ZC7;have HQ:Hid (M4 p xs=(Bq p&&okB xs)):=rfl;go_enter Tryz.func27,Tryz.ntmps27
 refine' zD;refine(Ok _ _ p xs _ HP.out HB.out).mono ?_;refine' zd;cases h1:(Bq p&&okB xs)
 ·have HF:Hid (M4 p xs=false):=by show _=_;rw[HQ.out,h1]
  clear h1;have HE:Hid (Dr p xs=[]∧Ha p xs=[]):=by unfold Dr Ha;rw[HF.out];exact ZV
  have o1:own (α:=Ltr) 119 w.heap.size (w1.alloc (.cells #[] 119)) (.slice (some ⟨w1.heap.size,0,none⟩) 0 0) []:=own.made0 w1 _ (aG bf l1.size);have o2:own (α:=Ltr) 119 w.heap.size ((w1.alloc (.cells #[] 119)).alloc (.cells #[] 119)) (.slice (some ⟨(w1.alloc (.cells #[] 119)).heap.size,0,none⟩) 0 0) []:=own.made0 _ _ ZKf;have O1:=aA (o1.alloc (.cells #[] 119));have O2:=aA o2;clear o1 o2
  refine' zV;refine⟨_,_,Bf ZX,by rw[HE.out.1];exact O1.out,by rw[HE.out.2];simpa using O2.out,.inr ZGg,Aa HT.out (Ae (Ae l1 _) _)⟩
 refine' ZGh;have lG:=Cq hh.2;have HF:Hid (M4 p xs=true):=by show _=_;rw[HQ.out,h1]
 clear h1 hh;refine' ZEL;have sh:1≤M∧M≤4:=ZA6
 have HY:Hid (Dr p xs=Cd p 0 M xs∧Ha p xs=Bn (fun x=>Dm p x.code 0) xs):=by unfold Dr Ha;rw[HF.out,pW.out,bE];exact ZV
 refine' ZC;refine(Np _ _ p xs 0 _ (HP.out.on l1) (HB.out.on l1) g1 g2 ZA ZA ZA).mono ?_;rintro e w2 ⟨vB,vO,vs,rfl,hB,hR,hF,b2⟩;have l2:=Aa l1 b2;have jV:Hid (Fu 27 119 w0.heap.size w2 vB (Bm (fun x=>Dm p x.code 0) p.bins.toNat (Cd p 0 0 xs))):=⟨vs,hB.base_ l1.size⟩;have aj:=aA (hR.base_ l1.size);clear hB hR hF b2
 refine' ZC;go_loopw[7,9] (fun t i wr=>∃j:Nat,j+1≤M∧i=.int .i64 ((j:Int)+1)∧Below w0.heap.size w0 wr∧Fu 27 119 w0.heap.size wr t (Bm (fun x=>Dm p x.code j) p.bins.toNat (Cd p 0 j xs))∧own 119 w0.heap.size wr vO (Bn (fun x=>Dm p x.code 0) xs)) (fun _ i _=>M - (intOf i).toNat)
 case atStart=>exact⟨0,sh.1,ZJ,l2,jV.out,aj.out⟩
 case round=>
  obtain⟨j,hj,rfl,lr,hB,hR⟩:=hrel;refine' zj;clear l2 jV aj l1 l0;obtain⟨A7,n7,c7,rfl,RE,xL,RG,_⟩:=hB.rd;clear RE xL RG;have RH:=aA hB.rd;have HR:=aA hR;have jU:(Bm (fun x=>Dm p x.code j) p.bins.toNat (Cd p 0 j xs)).flatten.length≤60:=aG (Ez _) (aG (Lr p j 0 xs) lG);have HS:Hid (Cd p 0 (j+1) xs=(Bm (fun x=>Dm p x.code j) p.bins.toNat (Cd p 0 j xs)).flatten):=by have:=Mc p j 0 xs;exact ZC8
  rw[←HS.out]at jU;clear hB hR;have CJ:Hid (∀W,Below w3.heap.size w3 W→Calls aB 75 #[.slice A7 n7 c7] W fun e w'=>∃v',e=.returned v'∧own 119 W.heap.size w' v' (Cd p 0 (j+1) xs)∧Below W.heap.size W w'):=fun W hW=>by have h:=Im _ _ W (RH.out.on hW) (by rw[←HS.out];omega);rw[←HS.out]at h;exact h
  generalize j3:Cd p 0 (j+1) xs=ys at *;have tp:=aA j3;clear j3;by_cases ab:j+1<M
  ·have d7:(j:Int)+1<p.passes:=ZA6
   have CD:Hid (∀W,Below w0.heap.size w0 W→∀vf,rd W W.heap.size vf ys→Calls aB 74 #[.agg #[.int .i64 p.bins,.int .i64 p.passes,.slice A0 p.order.length c0],vf,.int .i64 ((j:Int)+1)] W fun e w'=>∃vB vO vs,e=.returned (.tuple #[vB,vO])∧Fi 27 119 W.heap.size w' vB (Bm (fun x=>Dm p x.code (j+1)) p.bins.toNat ys) vs∧own 119 W.heap.size w' vO (Bn (fun x=>Dm p x.code (j+1)) ys)∧D7 vO vB vs∧Below W.heap.size W w'):=fun W hW vf hf=>
    Np _ vf p ys (j+1) W (HP.out.on hW) hf g1 g2 ZA ZA ZA
   have ld:=Ag lr;have EC:aI.wrap ((j:Int)+1)=(j:Int)+1:=bI _ ZA;refine' ZKg;have lV:Hid (Fu 27 119 w0.heap.size w5 RI (Bm (fun x=>Dm p x.code (j+1)) p.bins.toNat (Cd p 0 (j+1) xs))):=by rw[tp.out];exact⟨RJ,IM.base_ (Aa ld b4).size⟩
   have SJ:=aA (HR.out.below (Aa (Aa MB b4) b5));clear IM RK RL o4 b4 b5;go_wp2
   go_roundw
   case rel=>exact⟨j+1,ZA,ZJ,l5,lV.out,SJ.out⟩
   case measure=>exact ZK
  ·have d7:¬((j:Int)+1<p.passes):=ZA6
   have HE:=aA (show j+1=M by omega)
   refine' ZKh;have HA:=aA (Dd o4 HR.out (aD _));have O4:=aA (o4.base_ (aG bf lr.size));have R4:=aA ((HR.out.below b4).base_ bf);clear o4
   refine' zV;exact⟨_,_,Bf ZX,by rw[HY.out.1,←HE.out,tp.out];exact O4.out,by rw[HY.out.2];exact R4.out,HA.out,Aa HT.out l4⟩
theorem AiI(v vb p xss)(k:Nat)(w)(hv:rdP w w.heap.size v p)(hb:rd w w.heap.size vb xss)(hk:Hh p xss k=true):
 Calls aB 260 #[v,vb,.int .i64 k] w fun e w'=>∃vL,e=.returned vL∧own 119 w.heap.size w' vL (J9 p xss k)∧Below w.heap.size w w':=by
 refine' ZC7;obtain⟨kX,jl,pF⟩:=Lf.1 hk;obtain⟨lD,mH,rU⟩:=Jz.1 kX;refine' ZC9;have HF:=aA hk;clear hk kX lD;have jU:=Cq pF;clear pF jl;refine' ZEL;have hkM:k<M∧M≤4:=ZA6
 have HY:Hid (J9 p xss (k:Int)=Cd p (k+1) (M - (k+1)) xss.flatten):=by show _=_;unfold J9;rw[HF.out,pW.out,bE,bE];rfl
 have bg:=HB.out;obtain⟨A7,n7,c7,rfl,RE,xL,RG,_⟩:=bg;clear RE xL RG mH rU;go_enter Tryz.func260,Tryz.ntmps260
 refine' zD;go_loopw[1,7] (fun t i wr=>∃(j:Nat) (uS:List (List Ltr)),j≤M - (k+1)∧i=.int .i64 ((k:Int)+1+(j:Int))∧Below w0.heap.size w0 wr∧rd wr wr.heap.size t uS∧Hid (uS.flatten=Cd p (k+1) j xss.flatten)) (fun _ i _=>M - (intOf i).toNat)
 case atStart=>exact⟨0,xss,aM _,ZJ,l0,HB.out,rfl⟩
 case round=>
  obtain⟨j,uS,hj,rfl,lr,hB,HZ⟩:=hrel;refine' zj;clear l0;have RH:=aA hB;obtain⟨A8,n8,c8,rfl,GH,hc8,hm8,_⟩:=hB;clear GH hc8 hm8;have nC:(Cd p (k+1) j xss.flatten).length≤60:=aG (Lr p j (k+1) _) jU;have HS:=aA (Mc p j (k+1) xss.flatten);have CJ:Hid (∀W,Below w3.heap.size w3 W→Calls aB 75 #[.slice A8 n8 c8] W fun e w'=>∃v',e=.returned v'∧own 119 W.heap.size w' v' (Cd p (k+1) j xss.flatten)∧Below W.heap.size W w'):=fun W hW=>by have h:=Im _ uS W (RH.out.on hW) (by rw[HZ.out];omega);rw[HZ.out]at h;exact h
  generalize j3:Cd p (k+1) j xss.flatten=ys at *;have tp:=aA j3;clear j3;by_cases ab:k+1+j<M
  ·have d7:(k:Int)+1+(j:Int)<p.passes:=ZA6
   have CD:Hid (∀W,Below w0.heap.size w0 W→∀vf,rd W W.heap.size vf ys→Calls aB 74 #[.agg #[.int .i64 p.bins,.int .i64 p.passes,.slice A0 p.order.length c0],vf,.int .i64 ((k:Int)+1+(j:Int))] W fun e w'=>∃vB vO vs,e=.returned (.tuple #[vB,vO])∧Fi 27 119 W.heap.size w' vB (Bm (fun x=>Dm p x.code (k+1+j)) p.bins.toNat ys) vs∧own 119 W.heap.size w' vO (Bn (fun x=>Dm p x.code (k+1+j)) ys)∧D7 vO vB vs∧Below W.heap.size W w'):=fun W hW vf hf=>by have h:=Np _ vf p ys (k+1+j) W (HP.out.on hW) hf g1 g2 ZA ZA ZA;rw[show((k+1+j:Nat):Int)=(k:Int)+1+(j:Int) by omega]at h;exact h
   have ld:=Ag lr;refine' ZKg;have lV:Hid (rd w5 w5.heap.size RI (Bm (fun x=>Dm p x.code (k+1+j)) p.bins.toNat ys)):=Fu.rd ⟨RJ,IM⟩;have DT:Hid ((Bm (fun x=>Dm p x.code (k+1+j)) p.bins.toNat ys).flatten=Cd p (k+1) (j+1) xss.flatten):=by show _=_;rw[HS.out];rfl
   clear IM RK RL o4 b4 b5;go_wp2
   go_roundw
   case rel=>exact⟨j+1,_,ZA,ZJ,l5,lV.out,DT.out⟩
   case measure=>exact ZK
  ·have d7:¬((k:Int)+1+(j:Int)<p.passes):=ZA6
   have HE:=aA (show j=M - (k+1) by omega)
   refine' ZKh;have O4:=aA (o4.base_ (aG bf lr.size));clear o4
   refine' ZI;exact⟨_,rfl,by rw[HY.out,←HE.out,tp.out];exact O4.out,Aa HT.out l4⟩
theorem AbU{p ms}:Jt p ms=true↔Bq p=true∧ms.length≤60∧∀j,j<ms.length→Zh p.bins ms j=true:=by
 unfold Jt;simp only[aN,bB,dN,List.mem_range];constructor
 ·rintro⟨⟨h1,h2⟩,h3⟩;exact⟨h1,h2,h3⟩
 ·rintro⟨h1,h2,h3⟩;exact⟨⟨h1,h2⟩,h3⟩
theorem AdN{p ms}(h:Jt p ms=true):∀m∈ms,0≤m.bin∧m.bin<p.bins:=by intro m hm;obtain⟨k,hk,rfl⟩:=bO hm;have h1:=(AbU.1 h).2.2 k hk;rw[Zn hk]at h1;simp only[aN,bB]at h1;exact h1.1.2
theorem AuF{p ms}(h:Jt p ms=true):∀j k (hj:j<ms.length) (hk:k<ms.length),j<k→ms[j].id≠ms[k].id:=by intro j k hj hk di;have h1:=(AbU.1 h).2.2 k hk;rw[Zn hk]at h1;simp only[aN,dN]at h1;have:=h1.2 ms[j] ZCF;exact zT
theorem AdE{ms x}(h:∀m∈ms,m.id≠x.id)(b):Ej ms x b=b:=by
 unfold Ej
 induction ms generalizing b with
 |nil=>rfl
 |cons m ms ih=> rw[List.foldl_cons,aL (h m ZE)];exact ih (fun m' ly=>h m' (by simp[ly])) b
theorem AiN(ms ns x b):Ej (ms++ns) x b=Ej ns x (Ej ms x b):=by unfold Ej;rw[jB]
theorem AtZ(ms c):(ixI ms c= -1∧∀m∈ms,m.id≠c)∨∃k:Nat,∃hk:k<ms.length,ixI ms c=k∧ms[k].id=c:=by
 unfold ixI;by_cases h:ms.findIdx (fun y=>y.id==c)<ms.length
 ·rw[aP h]
  refine .inr ⟨_,h,rfl,?_⟩;have:=List.findIdx_getElem (w:=h);exact zT
 ·rw[aL h]
  refine .inl ⟨rfl,fun m hm e=>h ?_⟩;exact List.findIdx_lt_length.2 ⟨m,hm,by simp[e]⟩
theorem As1{ms x k}(hk:k<ms.length)(he:ms[k].id=x.id)(hd:∀j l (hj:j<ms.length) (hl:l<ms.length),j<l→ms[j].id≠ms[l].id)(b):Ej ms x b=ms[k].bin:=by
 have e:ms=ms.take k++ms[k]::ms.drop (k+1):=by conv=>lhs;rw[←dW k ms,cZ hk]
 refine(aT (fun l=>Ej l x b) e).trans ?_;show Ej (ms.take k++ms[k]::ms.drop (k+1)) x b=_;rw[AiN];unfold Ej;rw[List.foldl_cons,aP he];have h2:∀m∈ms.drop (k+1),m.id≠x.id:=fun m hm=>by obtain⟨i,hi,rfl⟩:=bO hm;rw[dO]at hi;rw[iG,←he];exact Ne.symm (hd k (k+1+i) hk ZA ZA)
 have:=AdE h2 ms[k].bin;unfold Ej at this;exact this
theorem Ke{xs}:okB xs=true↔xs.length≤60∧(∀x∈xs,1≤x.id∧x.id≤9999∧Ap x.code=true)∧xs.Pairwise fun x y=>x.id≠y.id:=by
 rw[Ep,dG];constructor
 ·rintro⟨h1,h2⟩
  refine⟨h1,fun x hx=>?_,fun i j hi hj pU=>(h2 j hj).2.2.2 i pU⟩;refine' ZAZ;exact⟨(h2 k hk).1,(h2 k hk).2.1,(h2 k hk).2.2.1⟩
 ·rintro⟨h1,h2,h3⟩
  exact⟨h1,fun k hk=>⟨(h2 _ (aU hk)).1,(h2 _ (aU hk)).2.1,(h2 _ (aU hk)).2.2,fun j hj=>h3 j k ZA hk hj⟩⟩
theorem BcK{xs:List Ltr}(h:xs.Pairwise fun x y=>x.id≠y.id):∀x∈xs,∀y∈xs,x.id=y.id→x=y:=by
 intro x hx y hy e;refine' ZEa;obtain⟨j,hj,rfl⟩:=bO hy;rw[dG]at h;rcases eP i j with h1|h1|h1
 ·exact absurd e (h i j hi hj h1)
 ·subst h1;rfl
 ·exact absurd e.symm (h j i hj hi h1)
theorem AnG{xs}{xss:List (List Ltr)}(f:Ltr→Int)(h:okB xs=true)(hl:xss.flatten.length≤xs.length)(hm:∀ys∈xss,∀x∈ys,x∈xs)(hp:∀ys∈xss,ys.Pairwise fun x y=>x.id≠y.id)
 (hf:∀k (hk:k<xss.length),∀x∈xss[k],f x=(k:Int)):okB xss.flatten=true:=by
 obtain⟨h1,h2,h3⟩:=Ke.1 h;refine Ke.2 ⟨ZA,fun x hx=>?_,?_⟩
 ·obtain⟨ys,j3,vz⟩:=List.mem_flatten.1 hx
  exact h2 x (hm ys j3 x vz)
 ·rw[List.pairwise_flatten]
  refine⟨hp,?_⟩;rw[dG];intro i j hi hj pU x hx y hy e;have:=BcK h3 x (hm _ (aU hi) x hx) y (hm _ (aU hj) y hy) e;subst this;have h4:=hf i hi x hx;have h5:=hf j hj x hy;omega
theorem Lq{xs}(f:Ltr→Int)(n)(h:okB xs=true):okB (Bm f n xs).flatten=true:=by
 refine AnG f h (Ez xs) (fun ys j3 x hx=>?_) (fun ys j3=>?_) (fun k hk x hx=>?_)
 ·refine' ZEb;rw[Gj]at hx;exact(List.mem_filter.1 hx).1
 ·refine' ZEb;rw[Gj];exact(Ke.1 h).2.2.filter _
 ·rw[Gj]at hx
  simpa using(List.mem_filter.1 hx).2
theorem Pt(p):∀(n k:Nat) (xs:List Ltr),okB xs=true→okB (Cd p k n xs)=true
 |0,_,_,h=>h
 |n+1,k,xs,h=>Pt p n (k+1) _ (Lq _ _ h)
def Gv(f:Ltr→Int)(i:Nat)(ys:List Ltr):List Ltr:=ys.filter fun x=>f x != (i:Int)
def D8(f:Ltr→Int)(i:Nat)(ys:List Ltr):List Ltr:=ys.filter fun x=>f x==(i:Int)
def Mh(f:Ltr→Int)(xss:List (List Ltr))(n:Nat):List Ltr:=(List.range n).flatMap fun i=>Gv f i (xss.getD i [])
def Fd(f:Ltr→Int)(xss:List (List Ltr))(j:Nat):List (List Ltr):=(List.range xss.length).map fun k=>if k<j then D8 f k (xss.getD k [])else []
def D9(f:Ltr→Int)(base:List (List Ltr))(zs:List Ltr):List (List Ltr):=(List.range base.length).map fun k=>base.getD k []++D8 f k zs
theorem G4(f:Ltr→Int)(xss j):(Fd f xss j).length=xss.length:=by simp[Fd]
theorem Rp(f:Ltr→Int)(base zs):(D9 f base zs).length=base.length:=by simp[D9]
theorem Ln(f:Ltr→Int)(xss j k)(h:k<(Fd f xss j).length):(Fd f xss j)[k]=if k<j then D8 f k (xss.getD k [])else []:=by simp[Fd]
theorem Ly(f:Ltr→Int)(base zs k)(h:k<(D9 f base zs).length)(h':k<base.length):(D9 f base zs)[k]=base[k]++D8 f k zs:=by simp[D9,h']
theorem Yq(f:Ltr→Int)(xss):Fd f xss 0=List.replicate xss.length []:=by
 apply dI
 ·simp[Fd]
 ·intro i h1 h2;simp[Fd]
theorem Z8{f:Ltr→Int}{xss j}(h:j<xss.length):(Fd f xss j).set j (D8 f j [])=Fd f xss j:=by
 apply dI
 ·simp
 ·intro i h1 h2
  rw[iO]
  split
  ·rename_i e;subst e;rw[Ln,aL (Nat.lt_irrefl _)];rfl
  ·rfl
theorem Uz{f:Ltr→Int}{xss j}(h:j<xss.length):(Fd f xss j).set j (D8 f j xss[j])=Fd f xss (j+1):=by
 apply dI
 ·simp[G4]
 ·intro i h1 h2
  rw[iO]
  split
  ·rename_i e;subst e;rw[Ln,aP ZA];simp[h]
  ·rw[Ln,Ln]
   by_cases hi:i<j
   ·rw[aP hi,aP ZA]
   ·rw[aL hi,aL ZA]
theorem AbS{f:Ltr→Int}{i:Nat}{ys:List Ltr}{m}(h:m<ys.length)(hf:f ys[m]=(i:Int)):D8 f i (ys.take (m+1))=D8 f i (ys.take m)++[ys[m]]:=by unfold D8;exact zn
theorem Sr{f:Ltr→Int}{i:Nat}{ys:List Ltr}{m}(h:m<ys.length)(hf:f ys[m]≠(i:Int)):D8 f i (ys.take (m+1))=D8 f i (ys.take m):=by unfold D8;exact zn
theorem Ak0{f:Ltr→Int}{i:Nat}{ys:List Ltr}{m}(h:m<ys.length)(hf:f ys[m]=(i:Int)):Gv f i (ys.take (m+1))=Gv f i (ys.take m):=by unfold Gv;exact zn
theorem AhJ{f:Ltr→Int}{i:Nat}{ys:List Ltr}{m}(h:m<ys.length)(hf:f ys[m]≠(i:Int)):Gv f i (ys.take (m+1))=Gv f i (ys.take m)++[ys[m]]:=by unfold Gv;exact zn
theorem Wf{f:Ltr→Int}{xss n}(h:n<xss.length):Mh f xss (n+1)=Mh f xss n++Gv f n xss[n]:=by unfold Mh;rw[fK,List.flatMap_append];simp[h]
theorem An7{L:List (List Ltr)}{j r s ys}(h:j<(L.set j r).length)(hs:s=(L.set j r)[j]++ys):(L.set j r).set j s=L.set j (r++ys):=by subst hs;rw[List.set_set,iD]
theorem AjW{f:Ltr→Int}{base}{zs:List Ltr}{i d:Nat}(h:i<zs.length)(hf:f zs[i]=(d:Int))(hd:d<(D9 f base (zs.take i)).length):
 D9 f base (zs.take (i+1))=(D9 f base (zs.take i)).set d ((D9 f base (zs.take i))[d]++[zs[i]]):=by
 apply dI
 ·simp[D9]
 ·intro k h1 h2
  have hk:k<base.length:=by simpa [D9]using h1
  rw[iO,Ly _ _ _ _ _ hk]
  split
  ·rename_i e;subst e
   rw[Ly _ _ _ _ _ hk,AbS h hf,bY]
  ·rename_i e
   rw[Ly _ _ _ _ _ hk,Sr h (by rw[hf];omega)]
theorem AfR{f:Ltr→Int}{base}{zs:List Ltr}{i}(h:i<zs.length)(hf:f zs[i]<0):D9 f base (zs.take (i+1))=D9 f base (zs.take i):=by
 apply dI
 ·simp[D9]
 ·intro k h1 h2
  have hk:k<base.length:=by simpa [D9]using h1
  rw[Ly _ _ _ _ _ hk,Ly _ _ _ _ _ hk,Sr h ZA]
theorem AkH(f:Ltr→Int)(base):D9 f base []=base:=by
 apply dI
 ·simp[D9]
 ·intro k h1 h2;rw[Ly _ _ _ _ _ h2];simp[D8]
theorem Wg(f:Ltr→Int)(i ys):(D8 f i ys).length≤ys.length:=bJ _ _
theorem AjI(f:Ltr→Int)(i ys):(Gv f i ys).length≤ys.length:=bJ _ _
theorem AzJ(f:Ltr→Int)(i ys):(D8 f i ys).length+(Gv f i ys).length=ys.length:=by
 unfold D8 Gv
 induction ys with
 |nil=>rfl
 |cons y ys ih=>
  by_cases h:f y=(i:Int)
  ·simp[gO,h]at ih⊢;omega
  ·simp[gO,h]at ih⊢;omega
theorem T8(f:Ltr→Int)(xss):∀n,n≤xss.length→(((Fd f xss n).flatten).length+(Mh f xss n).length=(xss.take n).flatten.length)
 |0,_=>by rw[Yq];simp[Mh]
 |n+1,h=>by
  have ih:=T8 f xss n ZA;rw[Wf ZA,aS,aH ZA,bT,aS,←Uz ZA];simp only[cT,fR,eB];have hn:n<(Fd f xss n).length:=by rw[G4];omega
  have jm:∀(L:List (List Ltr)) (n:Nat) (r:List Ltr) (h:n<L.length),((L.set n r).flatten).length+(L[n]).length=(L.flatten).length+r.length:=ZLi
  have h1:=jm (Fd f xss n) n (D8 f n xss[n]) hn;rw[Ln,aL (Nat.lt_irrefl _)]at h1;have h2:=AzJ f n xss[n];simp only[cK,dA]at h1;omega
theorem ArZ(f:Ltr→Int)(base zs):(D9 f base zs).flatten.length=base.flatten.length+(Bm f base.length zs).flatten.length:=by
 have jm:∀n,n≤base.length→((List.range n).map fun k=>base.getD k []++D8 f k zs).flatten.length=(base.take n).flatten.length+((List.range n).map fun(k:Nat)=>zs.filter fun x=>f x==(k:Int)).flatten.length:=by
  intro n
  induction n with
  |zero=>intro _;simp
  |succ n ih=> intro h;have:=ih ZA;rw[fK,cQ,cQ,bT,bT,aS,aS,aH ZA,bT,aS,this];simp only[cD,gC,cT,fR,eB,aS];refine' ZG8;simp only[gP,D8];omega
 have:=jm base.length (aD _);rw[aY]at this;exact this
def Hq(f:Ltr→Int)(xss:List (List Ltr)):List (List Ltr):=D9 f (Fd f xss xss.length) (Mh f xss xss.length)
def AeM(f:Ltr→Int)(xss:List (List Ltr)):List Ltr:=Bn f (Mh f xss xss.length)
theorem Qe(f:Ltr→Int)(xss):(Hq f xss).length=xss.length:=by unfold Hq;rw[Rp,G4]
theorem Am6(f:Ltr→Int)(xss n)(h:n≤xss.length):(Mh f xss n).length≤(xss.take n).flatten.length:=by have:=T8 f xss n h;omega
theorem AoC(f:Ltr→Int)(xss):(Mh f xss xss.length).length≤xss.flatten.length:=by
 have:=Am6 f xss xss.length (aD _)
 rwa [aY]at this
theorem Am5(f:Ltr→Int)(xss):(Hq f xss).flatten.length≤xss.flatten.length:=by unfold Hq;rw[ArZ,G4];have h1:=T8 f xss xss.length (aD _);rw[aY]at h1;have h2:=Ez (f:=f) (n:=xss.length) (Mh f xss xss.length);omega
theorem AoY(f:Ltr→Int)(xss):∀n,n≤xss.length→(Mh f xss n).Sublist (xss.take n).flatten
 |0,_=>by simp[Mh]
 |n+1,h=>by rw[Wf ZA,aH ZA,bT];refine(AoY f xss n ZA).append ?_;simp only[cT,fR,eB];exact dF
theorem AkD(f:Ltr→Int)(xss):(Mh f xss xss.length).Sublist xss.flatten:=by
 have:=AoY f xss xss.length (aD _)
 rwa [aY]at this
theorem Ux(f:Ltr→Int)(xss k)(h:k<(Hq f xss).length)(h':k<xss.length):(Hq f xss)[k]=D8 f k xss[k]++D8 f k (Mh f xss xss.length):=by have e:(Hq f xss)[k]=(D9 f (Fd f xss xss.length) (Mh f xss xss.length))[k]'(by rw[Rp,G4];exact h'):=rfl;rw[e,Ly _ _ _ _ _ (by rw[G4];exact h'),Ln,aP h'];simp[h']
theorem AwH{f:Ltr→Int}{xss n x}(h:x∈Mh f xss n)(hn:n≤xss.length):∃i,∃hi:i<xss.length,x∈xss[i]∧f x≠(i:Int):=by
 unfold Mh at h;rw[List.mem_flatMap]at h;obtain⟨i,hi,hx⟩:=h;have tV:i<xss.length:=by have:=List.mem_range.1 hi;omega
 unfold Gv at hx;rw[bL,aR tV]at hx;obtain⟨h1,h2⟩:=List.mem_filter.1 hx;exact⟨i,tV,h1,ZCG⟩
theorem AdL(f:Ltr→Int)(xss)(h:okB xss.flatten=true):okB (Hq f xss).flatten=true:=by
 have IP:=(Ke.1 h).2.2;refine AnG f h (Am5 f xss) (fun ys j3 x hx=>?_) (fun ys j3=>?_) (fun k hk x hx=>?_)
 ·refine' ZEb;have fu:k<xss.length:=ZG9
  rw[Ux _ _ _ _ fu]at hx;rcases List.mem_append.1 hx with hx|hx
  ·exact List.mem_flatten.2 ⟨xss[k],aU fu,(List.mem_filter.1 hx).1⟩
  ·exact(AkD f xss).subset (List.mem_filter.1 hx).1
 ·refine' ZEb;have fu:k<xss.length:=ZG9
  rw[Ux _ _ _ _ fu,List.pairwise_append];have mH:=List.pairwise_flatten.1 IP;refine⟨(mH.1 _ (aU fu)).filter _,(IP.sublist (AkD f xss)).filter _,fun x hx y hy e=>?_⟩;have oV:=(List.mem_filter.1 hx).1;have mr:=List.mem_filter.1 hy;obtain⟨i,hi,OT,bj⟩:=AwH mr.1 (aD _);have hyk:f y=(k:Int):=by simpa using mr.2
  have IA:i≠k:=fun e=>by subst e;exact bj hyk
  have rU:=List.pairwise_iff_getElem.1 mH.2;rcases Nat.lt_or_gt_of_ne IA with ab|ab
  ·exact rU i k hi fu ab y OT x oV e.symm
  ·exact rU k i fu hi ab x oV y OT e
 ·have fu:k<xss.length:=ZG9
  rw[Ux _ _ _ _ fu]at hx;rcases List.mem_append.1 hx with hx|hx
  ·simpa using(List.mem_filter.1 hx).2
  ·simpa using(List.mem_filter.1 hx).2
def Lo(p:Pln)(xs:List Ltr)(k:Int)(ms:List Mis):Bool:=Ku p k&&okB xs&&Jt p ms
def fpF(p:Pln)(k:Int)(ms:List Mis)(x:Ltr):Int:=Ej ms x (Dm p x.code k.toNat)
def rbF(p:Pln)(k:Int)(x:Ltr):Int:=Dm p x.code k.toNat
def Ld(p:Pln)(xss:List (List Ltr))(k:Int):List (List Ltr):=if Hh p xss k then Hq (rbF p k) xss else []
def AgH(p:Pln)(xss:List (List Ltr))(k:Int):List Ltr:=if Hh p xss k then AeM (rbF p k) xss else []
def Ew(p:Pln)(xs:List Ltr)(k:Int)(ms:List Mis):List (List Ltr):=Bm (fpF p k ms) p.bins.toNat (Cd p 0 k.toNat xs)
def Fr(p:Pln)(xs:List Ltr)(k:Int)(ms:List Mis):List Ltr:=if Lo p xs k ms then Cd p (k.toNat+1) (p.passes.toNat - (k.toNat+1)) (Hq (rbF p k) (Ew p xs k ms)).flatten else []
theorem Um{p xs k ms}:Lo p xs k ms=true↔(Bq p=true∧0≤k∧k<p.passes)∧okB xs=true∧Jt p ms=true:=by unfold Lo;rw[aN,aN,Jz,and_assoc]
theorem AcJ{p xs k ms}(h:okB xs=true):okB (Ew p xs k ms).flatten=true:=Lq _ _ (Pt p _ _ _ h)
theorem ApS(p xs k ms):(Ew p xs k ms).length=p.bins.toNat:=Hz _ _ _
theorem AfA{p xs k ms}(h:Lo p xs k ms=true):Hh p (Ew p xs k ms) k=true:=by obtain⟨h1,h2,h3⟩:=Um.1 h;exact Lf.2 ⟨Jz.2 h1,ApS _ _ _ _,AcJ h2⟩
theorem ArG{p xss k}(h:Hh p xss k=true):Hh p (Hq (rbF p k) xss) k=true:=by obtain⟨h1,h2,h3⟩:=Lf.1 h;exact Lf.2 ⟨h1,by rw[Qe];exact h2,AdL _ _ h3⟩
theorem AkN{p xs k ms}(h:Lo p xs k ms=true):Ld p (Ew p xs k ms) k=Hq (rbF p k) (Ew p xs k ms)∧J9 p (Ld p (Ew p xs k ms) k) k=Fr p xs k ms∧Hh p (Ld p (Ew p xs k ms) k) k=true:=by
 have h1:=AfA h;have h2:=ArG h1;have h3:Ld p (Ew p xs k ms) k=Hq (rbF p k) (Ew p xs k ms):=by unfold Ld;rw[aP h1]
 refine⟨h3,?_,by rw[h3];exact h2⟩;rw[h3];unfold J9 Fr;rw[aP h2,aP h]
theorem Fi.snoc{α:Type}[Flat α]{T1 T2 base g m cap:Nat}{w w1 v u vs}{xss:List (List α)}{ys}
 (h:Fi T1 T2 base w v xss vs) (ho:own T2 base w u ys) (hf:D7 u v vs) (hn:own T1 base w1 (.slice (some ⟨g,0,none⟩) m cap) (vs++[u])) (hg:w.grownBy w1 v.ownBlock) (ha:some g=v.ownBlock∨g=w.heap.size):
 Fi T1 T2 base w1 (.slice (some ⟨g,0,none⟩) m cap) (xss++[ys]) (vs++[u]):=by
 refine' ZAV;have MW:∀k (hk:k<(vs++[u]).length),apart (vs++[u])[k] v:=fun k hk=>by
  by_cases kv:k<vs.length
  ·rw[bN kv];exact h5 k kv
  ·refine' ZCC;have:k - vs.length=0:=zW
   refine' ZEM;exact hf.1
 have ab:∀k (hk:k<(vs++[u]).length) j,(vs++[u])[k].ownBlock=some j→j<w.heap.size:=fun k hk j=>by
  by_cases kv:k<vs.length
  ·rw[bN kv];exact fun e=>((h3 k kv ZA).blk j e).2
  ·refine' ZCC;have:k - vs.length=0:=zW
   refine' ZEM;exact fun e=>(ho.blk j e).2
 refine⟨hn,by simp[h2],fun k hk fu=>?_,fun j k hj hk bj=>?_,fun k hk=>?_⟩
 ·by_cases kv:k<vs.length
  ·rw[bN kv,bN ZA]
   exact(h3 k kv ZA).grown hg (h5 k kv)
  ·have e1:k - vs.length=0:=zW
   have e2:k - xss.length=0:=ZA
   refine' ZGi;simp only[e1,e2,dL];exact ho.grown hg hf.1
 ·by_cases vd:j<vs.length
  ·by_cases kv:k<vs.length
   exact ZKi
   ·have e1:k - vs.length=0:=zW
    refine' ZKj;exact Br (hf.2 j vd)
  ·have e1:j - vs.length=0:=ZDA
   by_cases kv:k<vs.length
   ·refine' ZKk;exact hf.2 k kv
   ·exfalso;simp at hj hk;omega
 ·exact Br (Dg (Br (MW k hk)) ha fun j hj=>ab k hk j hj)
theorem Ac9(v vb vm p xs k ms w)(hv:rdP w w.heap.size v p)(hb:rd w w.heap.size vb xs)(hm:rd w w.heap.size vm ms):
 Calls aB 243 #[v,vb,.int .i64 k,vm] w fun e w'=>e=.returned (.bool (Lo p xs k ms))∧Below w.heap.size w w':=by
 refine' ZKl;have HQ:Hid (Lo p xs k ms=(Ku p k&&okB xs&&Jt p ms)):=rfl;go_enter Tryz.func243,Tryz.ntmps243
 refine' ZGj;cases h1:Ku p k
 ·have HF:Hid (Lo p xs k ms=false):=zu
  clear h1
  exact ZEN
 refine' zP;refine' ZEO;cases h2:okB xs
 ·have HF:Hid (Lo p xs k ms=false):=ZBf
  clear h2
  refine' ZI;exact⟨Al HF.out.symm,Aa HT.out l2⟩
 refine' zA;have HF:Hid (Lo p xs k ms=Jt p ms):=ZEP
 refine' ZC;refine(Xv _ _ p ms _ (HP.out.on l2) (HM.out.on l2)).mono ?_;refine' zH;refine' YC;generalize Jt p ms=r at *
 refine' ZI;exact⟨Al HF.out.symm,Aa HT.out l3⟩
theorem rd.rows{α:Type}[El α]{w B n c A}{xs:List α}(h:rd w B (.slice A n c) xs):rdA w B A xs:=by obtain⟨A',n',c',h1,_,_,_,hr⟩:=h;injection h1 with h1 h2 h3;subst h1;exact hr
theorem Nn{α:Type}{xss:List (List α)}{k}(h:k<xss.length):xss[k].length≤xss.flatten.length:=(List.sublist_flatten_of_mem (aU h)).length_le
theorem AaK(f:Ltr→Int)(xss n d)(h:d<(Fd f xss n).length):(Fd f xss n)[d].length≤xss.flatten.length:=by
 rw[Ln];have hd:d<xss.length:=by rw[G4]at h;exact h
 split
 ·rw[bL,aR hd]
  exact aG (Wg _ _ _) (Nn hd)
 ·simp
theorem AcZ(f:Ltr→Int)(base zs d B)(h:d<(D9 f base zs).length)(hb:∀d (h:d<base.length),base[d].length≤B):(D9 f base zs)[d].length≤B+zs.length:=by
 have hd:d<base.length:=by rw[Rp]at h;exact h
 rw[Ly _ _ _ _ _ hd,aS];have:=hb d hd;have:=Wg f d zs;omega
theorem AdZ(v vb p xss k w)(hv:rdP w w.heap.size v p)(hb:rd w w.heap.size vb xss):
 Calls aB 246 #[v,vb,.int .i64 k] w fun e w'=>∃vB vO vs,e=.returned (.tuple #[vB,vO,.bool (Hh p xss k)])∧Fi 27 119 w.heap.size w' vB (Ld p xss k) vs∧own 119 w.heap.size w' vO (AgH p xss k)∧D7 vO vB vs∧Below w.heap.size w w':=by
 refine' ZBg;obtain⟨A,n,c,rfl,hn,hc,hm,hr⟩:=hb.on HT.out;refine' zk;refine' ZGk;clear ac hv hb;refine' ZBh;have bw:Hid (∀h:Hh p xss k=false,∀W:World,Fi 27 119 w.heap.size W (.slice none 0 0) (Ld p xss k) []∧own 119 w.heap.size W (.slice none 0 0) (AgH p xss k)):=fun h W=>by unfold Ld AgH;rw[h];exact⟨Md _ _ _ _,own.nil_ _ _ _⟩
 refine' ZBi;refine' zv;go_enter Tryz.func246,Tryz.ntmps246
 refine' zD;refine(Tk _ _ p xss k _ HP.out HB.out).mono ?_;refine' zd;cases h1:Hh p xss k
 ·have HF:=aA h1;exact ZKm
 refine' ZGl;have HF:=aA h1;refine' ZKn;obtain⟨N,hN⟩:∃N,xss.length=N:=⟨_,rfl⟩;have tO:=aA jl;clear pF jl;refine' ZDB;refine' ZKo;have HY:Hid (Ld p xss (k:Int)=D9 f (Fd f xss xss.length) (Mh f xss xss.length)∧AgH p xss (k:Int)=Bn f (Mh f xss xss.length)):=by unfold Ld AgH;rw[HF.out,kA.out];exact ZV
 clear mH rU hN;refine' ZKp;go_wp2;obtain⟨ov,jj⟩:=I3 (α:=Ltr) w1 27 119 xss.length w0.heap.size l1.size ZN;have lz:Below w0.heap.size w0 (w1.alloc (aC (madeCells #[.slice none 0 0] xss.length) 27)):=Ae l1 _;have mt:w0.heap.size≤w1.heap.size:=l1.size;generalize(w1.alloc (aC (madeCells #[.slice none 0 0] xss.length) 27))=wz at *;generalize w1.heap.size=G at *;clear b1 l1 ez;have ky:=aA jj;clear jj
 go_loopw[10,29] (fun t i wr=>∃(j:Nat) (vs:List Value),j≤xss.length∧i=.int .i64 j∧Below w0.heap.size w0 wr∧Fi 27 119 w0.heap.size wr (.slice (some ⟨G,0,none⟩) xss.length xss.length) (Fd f xss j) vs∧own 119 w0.heap.size wr t (Mh f xss j)∧Hid (D7 t (.slice (some ⟨G,0,none⟩) xss.length xss.length) vs)) (fun _ i _=>xss.length - (intOf i).toNat)
 case atStart=> refine' ZKq;rw[Yq];exact ky.out
 case round=>
  obtain⟨j,vs,hj,rfl,lr,hB,hO,fh⟩:=hrel;refine' zl;have jV:=aA hB;have HO:=aA hO;clear lz ky hB l0;by_cases ab:j<xss.length
  ·refine' ZKr;go_loopw[10,36] (fun t i wi=>∃(m:Nat) (vs:List Value),m≤ys.length∧i=.int .i64 m∧Below w0.heap.size w0 wi∧Fi 27 119 w0.heap.size wi (.slice (some ⟨G,0,none⟩) xss.length xss.length) (K.set j (D8 f j (ys.take m))) vs∧own 119 w0.heap.size wi t (zs++Gv f j (ys.take m))∧Hid (D7 t (.slice (some ⟨G,0,none⟩) xss.length xss.length) vs)) (fun _ i _=>ys.length - (intOf i).toNat)
   case atStart=> refine⟨0,vs,aM _,rfl,lr,?_,by simpa [Gv]using HO.out,fh.out⟩;rw[dD,gp.out];exact jV.out
   case round=>
    obtain⟨m,gw,ly,rfl,li,pi,mh,fk⟩:=hrel;refine' zj;have qk:=aA pi;clear pi lr jV HO fh;by_cases nE:m<ys.length
    ·refine' ZKs;obtain⟨L,hL⟩:∃L,L=K.set j (D8 f j (ys.take m)):=⟨_,rfl⟩;clear hL;refine' ZKt;refine' ZDC;have ll:=Aa li (Aw cz).1;refine' ZDD;refine' ZKu;refine' ZKv;refine' ZEQ;refine' ZDE;clear b4 B4;refine' ZKw;by_cases og:r=(j:Int)
     ·refine' ZKx;have HE:=aA og;refine' ZKy;go_region_law (first|go_loud ((refine Ce (α:=Ltr) ZG (.tmp 52) (.tmp 54) 27 ZG w0.heap.size 119 i1 _ 24 aV ji dp dq dr rfl ZF (.slice Au qs.length cu) qs x ZG ((jc.out.alloc _).drew) ⟨w4.heap.size,0,none⟩ 1 (Ltr.cells x) ZG ⟨⟨fa,ew⟩,rfl⟩ (Ft w4 _ (Ltr.cells x)) ZN ZA ZH ?_;refine' ZKz)))
      all_goals
       refine' ZK0;refine' ZK1;clear p1 p2 p3 fq;go_wp2
       go_roundw
       case rel=>exact⟨m+1,_,ZA,ZJ,p4,by rw[nd.out];exact P1.out,by rw[iv.out,xM.out];exact P2.out,P3.out⟩
       case measure=>exact ZK
     ·refine' ZK2;have HE:=aA og;clear og
      go_wp2_with (at_builtin;refine An (α:=Ltr) rfl (.tmp 57) (.tmp 59) 27 rfl w0.heap.size 119 i1 _ 24 aV ji dp dq dr rfl ZF (.slice AI zr.length cI) zr x rfl (jq.out.alloc _) ⟨w4.heap.size,0,none⟩ 1 (Ltr.cells x) rfl ⟨⟨fa,ew⟩,rfl⟩ (Bz w4 _ (Ltr.cells x)) ZN ZA ZH ?_;refine' zI)
      refine' ZGm;refine' ZK3;go_roundw
      case rel=>exact⟨m+1,gw,ZA,ZJ,l5,by rw[nd.out];exact lV.out,ZK4,lk⟩
      case measure=>exact ZK
    ·have HE:=aA (show m=ys.length by omega)
     rw[HE.out,aY,←ff.out]at mh;have pi:=qk.out;rw[HE.out,aY,eu.out]at pi;have ja:=aA mh;clear mh;have kS:=aA pi;clear pi
     refine' ZC;go_roundw
     case rel=>exact⟨j+1,gw,ZA,ZJ,li,kS.out,ja.out,fk.out⟩
     case measure=>exact ZK
  ·have HE:=aA (show j=xss.length by omega)
   have hB:=jV.out;rw[HE.out]at hB hO;refine' ZK5;go_loopw[11,65] (fun t i wi=>∃(q:Nat) (vs:List Value),q≤ws.length∧i=.int .i64 q∧Below w0.heap.size w0 wi∧Fi 27 119 w0.heap.size wi (.slice (some ⟨G,0,none⟩) xss.length xss.length) (D9 f K (ws.take q)) vs∧own 119 w0.heap.size wi t (Bn f (ws.take q))∧own 119 w0.heap.size wi (.slice AW ws.length cW) ws∧Hid (D7 t (.slice (some ⟨G,0,none⟩) xss.length xss.length) vs)∧Hid (D7 (.slice AW ws.length cW) (.slice (some ⟨G,0,none⟩) xss.length xss.length) vs)∧Hid (apart t (.slice AW ws.length cW))) (fun _ i _=>ws.length - (intOf i).toNat)
   case atStart=> refine⟨0,vs,aM _,rfl,lr,?_,own.nil_ _ _ _,j8.out,⟨.inl rfl,fun k hk=>.inl rfl⟩,fh.out,.inl rfl⟩;rw[dD,AkH];exact un.out
   case round=>
    refine' ZK6;clear pi lr un fh j8;have JA:=aA IZ;clear IZ;by_cases uo:q<ws.length
    ·refine' ZK7;replace d1:=d1 w3 (aF _ _);replace d2:=d2 w3 (aF _ _);generalize D9 f K (ws.take q)=L at *;generalize Bn f (ws.take q)=rs at *;refine' ZDC;have ll:=Aa li (Aw cz).1;refine' ZDD;refine' ZK8;refine' ZKv;have BO:=aA (JA.out.below B4);refine' ZEQ;refine' ZDE;clear b4 B4;have wI:=rJ.out;by_cases az:r<0
     ·refine' ZK9;go_wp2_with (at_builtin;refine An (α:=Ltr) rfl (.tmp 76) (.tmp 78) 27 rfl w0.heap.size 119 i1 _ 24 aV ji dp dq dr rfl ZF (.slice AI rs.length cI) rs x rfl (jq.out.alloc _) ⟨w4.heap.size,0,none⟩ 1 (Ltr.cells x) rfl ⟨⟨fa,ew⟩,rfl⟩ (Bz w4 _ (Ltr.cells x)) ZN ZA ZH ?_;refine' zI)
      exact ZLA
     ·refine' ZLB;go_region_law (first|go_loud ((refine Ce (α:=Ltr) ZG (.tmp 85) (.tmp 87) 27 ZG w0.heap.size 119 i1 _ 24 aV ji dp dq dr rfl ZF (.slice Au qs.length cu) qs x ZG ((jc.out.alloc _).drew) ⟨w4.heap.size,0,none⟩ 1 (Ltr.cells x) ZG ⟨⟨fa,ew⟩,rfl⟩ (Ft w4 _ (Ltr.cells x)) ZN ZA ZH ?_;refine' ZER)))
      all_goals exact ZLC
    ·have HE:=aA (show q=ws.length by omega)
     go_wp2
     go_ret3
     have hB:=qk.out;have hF:=fk.out;rw[HE.out,aY,←IY.out]at hB;rw[HE.out,aY,←SG.out]at mh;exact⟨_,_,gw,Bf ZX,hB.base_ bf,mh.base_ bf,hF,Aa HT.out li⟩
theorem Ab9(v vb vm p xs k ms w)(hv:rdP w w.heap.size v p)(hb:rd w w.heap.size vb xs)(hm:rd w w.heap.size vm ms):
 Calls aB 157 #[v,vb,.int .i64 k,vm] w fun e w'=>∃vL,e=.returned (.tuple #[vL,.bool (Lo p xs k ms)])∧own 119 w.heap.size w' vL (Fr p xs k ms)∧Below w.heap.size w w':=by
 refine' ZKl;have bw:Hid (∀h:Lo p xs k ms=false,∀W:World,own 119 w.heap.size W (.slice none 0 0) (Fr p xs k ms)):=fun h W=>by unfold Fr;rw[h];exact ze
 go_enter Tryz.func157,Tryz.ntmps157
 refine' zD;refine(Ac9 _ _ _ p xs k ms _ HP.out HB.out HM.out).mono ?_;refine' zd;cases h1:Lo p xs k ms
 exact ZLD;obtain⟨⟨lD,mH,rU⟩,h2,h3⟩:=Um.1 h1;refine' ZC9;have lG:=Cq h2;have HG:=aA (AdN h3);have aj:=aA (AkN h1);have HF:=aA h1;clear h1 h2 h3 lD;refine' ZDB;refine' ZLE;have kV:=aA (Lr p k 0 xs)
 refine' ZC;refine(Qy _ _ p xs 0 k _ (HP.out.on l1) (HB.out.on l1) g1 g2 ZA (aM _) ZA ZA).mono ?_;rintro e w2 ⟨vL,vO,rfl,hL,hO,hA,b2⟩;have l2:=Aa l1 b2;have HL:=aA hL;clear hL hO hA
 refine' ZC;refine(Ma _ _ _ p (Cd p 0 k xs) k ms _ (HP.out.on l2) HL.out.rd (HM.out.on l2) g1 g2 ZA ZA HG.out (by have:=kV.out;omega)).mono ?_;rw[←KU.out];rintro e w3 ⟨vB,vO3,vs,rfl,hB,hR,hF,b3⟩;refine' YC;have jV:=aA (show Fu 27 119 w2.heap.size w3 vB (Ew p xs (k:Int) ms)from⟨vs,hB⟩);clear hB hR hF
 refine' ZC;refine(AdZ _ _ p (Ew p xs (k:Int) ms) k _ (HP.out.on l3) jV.out.rd).mono ?_;rintro e w4 ⟨vB4,vO4,vs4,rfl,hB4,hR4,hF4,b4⟩;have l4:=Aa l3 b4;have br:=aA (show Fu 27 119 w3.heap.size w4 vB4 (Ld p (Ew p xs (k:Int) ms) k)from⟨vs4,hB4⟩);clear hB4 hR4 hF4;generalize rz:Ld p (Ew p xs (k:Int) ms) k=rb at *;clear rz
 refine' ZC;refine(Aa5 _ _ p rb k _ (HP.out.on l4) br.out.rd).mono ?_;rw[aj.out.2.1,aj.out.2.2];rintro e w5 ⟨vR,rfl,hR,b5⟩;have l5:=Aa l4 b5;have SJ:=aA hR;clear hR
 refine' ZQ;exact⟨_,Bf ZX,SJ.out.base_ (aG bf l4.size),Aa HT.out l5⟩
theorem Yf(v)(xss:List (List Ltr))(w)(hv:rd w w.heap.size v xss)(hn:xss.length≤1000)(hl:xss.flatten.length≤1048576):
 Calls aB 84 #[v] w fun e w'=>∃v' vs,e=.returned v'∧Fi 27 119 w.heap.size w' v' xss vs∧Below w.heap.size w w':=by
 refine' ZGn;refine' ZBi;refine' zv;go_enter Tryz.func84,Tryz.ntmps84;refine' ZLF;go_loopw[3,9] (fun t i wr=>∃(k:Nat) (vs:List Value),k≤xss.length∧i=.int .i64 k∧Below w.heap.size w wr∧Fi 27 119 w.heap.size wr t (xss.take k) vs) (fun _ i _=>xss.length - (intOf i).toNat)
 case atStart=>exact⟨0,[],aM _,rfl,l0,sP.out⟩
 case round=>
  refine' ZGo;clear l0 sP;by_cases ab:k<xss.length
  ·refine' ZGp;have qw:vs.length=k:=by rw[hB.2.1,bH];omega
   clear hB;refine' ZCD;have HS:Hid (xss.take (k+1)=xss.take k++[xss[k]]):=aH ab;have GX:xss[k].length≤1048576:=aG (Nn ab) hl;refine' ZES;have HU:Hid (rd w w.heap.size (.slice A2 m2 c2) ys):=⟨A2,m2,c2,rfl,nI,kC,jr,kq⟩;clear nI kC jr kq;refine' ZDF;have HVL:=aA qw;clear qw;have gh:w.heap.size≤w1.heap.size:=lr.size;have xN:Hid (own (α:=Ltr) 119 w1.heap.size (w1.alloc (aC #[] 119)) (.slice (some ⟨w1.heap.size,0,none⟩) 0 0) []):=own.made0 w1 _ (aD _);have la:Below w1.heap.size w1 (w1.alloc (aC #[] 119)):=Ae (aF _ _) _;have PQ:vs.length≤1000:=by have:=HVL.out;omega
   go_wp2_with (first|(at_builtin;refine Cu (α:=Ltr) rfl (.tmp 14) (.tmp 15) 27 rfl w1.heap.size 119 i1 _ 24 aV ji dp dq dr rfl ZF (.slice (some ⟨w1.heap.size,0,none⟩) 0 0) [] rfl xN.out (.slice A2 m2 c2) ys rfl (w1.alloc (aC #[] 119)).heap.size (HU.out.on (Aa lr la)) ZDG ZH la.size ?_;intro v' w2 kG sn _;have l2:Below w1.heap.size w1 w2:=la.trans (Ay xN.out sn la.size);rw[bV]at kG;have ja:=aA kG;have iu:w1.heap.size≤w2.heap.size:=l2.size;have tb:=Aa lr l2;obtain⟨A5,m5,c5,rfl,xp,_,_,_⟩:=kG.rd;subst xp;clear kG sn;have kS:=aA (HB.out.below l2);have s8:Hid (D7 (.slice A5 ys.length c5) (.slice AO vs.length cO) vs):=⟨Dd ja.out HB.out.1 (aD _),fun i hi=>Dd ja.out (HB.out.2.2.1 i hi (by have:=HB.out.2.1;omega)) (aD _)⟩)|(at_builtin;refine An (α:=Value) rfl (.tmp 13) (.tmp 17) 82 rfl w.heap.size 27 i0 _ 24 eQ hi lQ aw aq rfl ZF (.slice AO vs.length cO) vs (.slice A5 ys.length c5) rfl (kS.out.1.alloc _) ⟨w2.heap.size,0,none⟩ 1 [.slice A5 ys.length c5] rfl ⟨rfl,rfl⟩ (Bz w2 _ [.slice A5 ys.length c5]) ZN ZA ZH ?_;intro g cap w3 nQ sM qD tc))
   have l3:Below w.heap.size w w3:=(Ae tb (aC #[.slice A5 ys.length c5] 27)).grown sM ZH fun q hq=>(kS.out.1.blk q hq).1
   have dz:=aA (Fi.snoc (kS.out.below (Ae (aF _ _) (aC #[.slice A5 ys.length c5] 27))) ((ja.out.base_ gh).alloc (aC #[.slice A5 ys.length c5] 27)) s8.out nQ sM qD);exact ZLG
  ·refine' ZDH;refine' ZO;have h:=HB.out;rw[HE.out,aY]at h;exact⟨_,vs,rfl,h,lr⟩
theorem Aj3(v vb vm p xs)(k0:Nat)(ms w)(hv:rdP w w.heap.size v p)(hb:rd w w.heap.size vb xs)(hm:rd w w.heap.size vm ms)
 (h1:2≤p.bins) (h2:p.bins≤16) (gx:k0≤4) (nN:p.order.length≤1000) (xD:Jt p ms=true) (hl:xs.length≤1000):
 Calls aB 307 #[v,vb,.int .i64 k0,vm] w fun e w'=>∃vB vO vs,e=.returned (.tuple #[vB,vO])∧Fi 27 119 w.heap.size w' vB (Bm (fun x=>Ej ms x (Dm p x.code k0)) p.bins.toNat xs) vs∧own 119 w.heap.size w' vO (Bn (fun x=>Ej ms x (Dm p x.code k0)) xs)∧D7 vO vB vs∧Below w.heap.size w w':=by
 refine' ZET;obtain⟨A,n,cp,rfl,hn,hc,nD,hr⟩:=HB.out;subst hn;unfold maxLen at nD;refine' ZA7;obtain⟨AM,nM,cM,rfl,hnM,hcM,hmM,hrM⟩:=HM.out;subst hnM;unfold maxLen at hmM;have CI:=aA hrM;clear hrM;have ya:w.heap.size<w0.heap.size:=by have:=jP.out;omega
 refine' ZGq;have KX:=aA (AdN xD);have NV:=aA (AuF xD);clear xD;have HF:Hid (∀x:Ltr, -1≤Ej ms x (Dm p x.code k0)∧Ej ms x (Dm p x.code k0)<N):=fun x=>by have:=Zc KX.out x _ (M2 p x.code k0 h1);have:=HN.out;omega
 refine' ZLH;go_enter Tryz.func307,Tryz.ntmps307;refine' ZLI;go_loopw[11,12] (fun t i wr=>∃(k:Nat) (vs:List Value),k≤xs.length∧i=.int .i64 k∧Below w0.heap.size w0 wr∧Fi 27 119 w0.heap.size wr (.slice (some ⟨G,0,none⟩) N N) (Bm f N (xs.take k)) vs∧own 119 w0.heap.size wr t (Bn f (xs.take k))∧Hid (D7 t (.slice (some ⟨G,0,none⟩) N N) vs)) (fun _ i _=>xs.length - (intOf i).toNat)
 case atStart=> refine⟨0,ov,aM _,rfl,wK,?_,uU.out,sW.out⟩;exact ZDI
 case round=>
  refine' ZGr;have qk:=aA hB;have HO:=aA hO;clear l0 wK ky hB uU sW;refine' ZEU;by_cases ab:k<xs.length
  ·refine' ZGs;refine' YQ;have ld:=Ag lr;have HC:Hid (∀W,Below w0.heap.size w0 W→Calls aB 171 #[.agg #[.int .i64 p.bins,.int .i64 p.passes,.slice A0 p.order.length c0],.string x.code,.int .i64 k0] W fun e w'=>e=.returned (.int .i64 (Dm p x.code k0))∧Below W.heap.size W w'):=fun W hW=>
    Sd _ p x.code k0 W (HP.out.on hW) h1 h2 gx nN
   refine' ZGt;refine' ZGu;obtain⟨b0,fi⟩:∃b0,Hid (Dm p x.code k0=b0):=⟨_,rfl⟩;rw[fi.out]at HC;have xz:Hid (f x=Ej ms x b0):=by show _=_;rw[jY.out,fi.out]
   refine' ZLJ;have oN:w0.heap.size≤w3.heap.size:=i6.size;have dz:=aA (qk.out.below B3);have fg:=aA (HO.out.below B3);clear b3 ld B3;rcases AtZ ms x.id with⟨hq,hn⟩|⟨kk,su,hq,hid⟩
   ·have HE:Hid (b0=f x):=by show _=_;rw[xz.out,AdE hn]
    clear hn
    refine' ZC;refine(X3 (HM.out.on i6) hq).mono ?_;clear hq;refine' ZAG;rw[HE.out];exact ZLK
   ·have HE:Hid (ms[kk].bin=f x):=by show _=_;rw[xz.out,As1 su hid NV.out]
    clear hid;obtain⟨bM,oM,rfl,hbM,_,e1,e2⟩:=CI.out.misU kk su;rw[HE.out]at e2;clear e1 HE;have uI:(kk:Int)<(ms.length:Int):=ZA
    have JB:¬((kk:Int)<0):=ZA
    refine' ZC;refine(X3 (HM.out.on i6) hq).mono ?_;clear hq;refine' ZAG;exact ZLK
  ·refine' YD;go_wp2;go_ret2;have hB:=qk.out;have hO:=HO.out;have hF:=fh.out;rw[HE.out,aY]at hB hO hF⊢;exact⟨_,_,vs,rfl,hB.base_ (iP ya),hO.base_ (iP ya),hF,Aa HT.out lr⟩
theorem AlS(v vb vm p xs k ms w)(hv:rdP w w.heap.size v p)(hb:rd w w.heap.size vb xs)(hm:rd w w.heap.size vm ms):
 Calls aB 257 #[v,vb,.int .i64 k,vm] w fun e w'=>e=.returned (.bool (Lo p xs k ms))∧Below w.heap.size w w':=by
 refine' ZET;have HQ:Hid (Lo p xs k ms=((Bq p&&(decide (0≤k)&&decide (k<p.passes)))&&okB xs&&Jt p ms)):=rfl;go_enter Tryz.func257,Tryz.ntmps257
 refine' zD;refine(Ok _ _ p xs _ HP.out HB.out).mono ?_;refine' zd;cases h1:(Bq p&&okB xs)
 ·have HF:Hid (Lo p xs k ms=false):=ZLL
  clear h1
  exact ZEN
 refine' ZGh;have H1:=aA hh;clear h1 hh
 refine' ZC;refine(D0 k 0 (p.passes - 1) _).mono ?_;refine' ZAG;cases h2:(decide (0≤k)&&decide (k≤p.passes - 1))
 ·have HF:Hid (Lo p xs k ms=false):=ZLM
  clear h2
  exact ZEN
 have HF:Hid (Lo p xs k ms=Jt p ms):=ZLN
 clear h2
 refine' ZC;refine(Xu _ _ p ms _ (HP.out.on l1) (HM.out.on l1)).mono ?_;refine' zH;have l3:=Aa l1 b3;generalize Jt p ms=r at *
 refine' ZI;exact⟨Al HF.out.symm,Aa HT.out l3⟩
theorem AiW(v vb vm p xs)(k:Nat)(ms w)(hv:rdP w w.heap.size v p)(hb:rd w w.heap.size vb xs)(hm:rd w w.heap.size vm ms)(hf:Lo p xs (k:Int) ms=true):
 Calls aB 259 #[v,vb,.int .i64 k,vm] w fun e w'=>∃vB,e=.returned vB∧Fu 27 119 w.heap.size w' vB (Ew p xs k ms)∧Below w.heap.size w w':=by
 refine' ZET;obtain⟨⟨lD,mH,rU⟩,h2,h3⟩:=Um.1 hf;refine' ZC9;have lG:=Cq h2;have HG:=aA h3;clear h2 h3 lD hf mH;have yy:k≤4:=ZA
 refine' ZLE;go_enter Tryz.func259,Tryz.ntmps259
 refine' zD;go_loopw[1,9] (fun t i wr=>∃j:Nat,j≤k∧i=.int .i64 j∧Below w0.heap.size w0 wr∧rd wr wr.heap.size t (Cd p 0 j xs)) (fun _ i _=>k - (intOf i).toNat)
 case atStart=>exact⟨0,aM _,rfl,l0,HB.out⟩
 case round=>
  obtain⟨j,hj,rfl,lr,pA⟩:=hrel;refine' zR;clear l0;have OD:=aA pA;clear pA;have kV:=aA (Lr p j 0 xs);have vw:(Cd p 0 j xs).length≤1000:=by have:=kV.out;omega
  by_cases ab:j<k
  ·have d7:(j:Int)<(k:Int):=ZA
   have HS:Hid ((Bm (fun x=>Dm p x.code j) p.bins.toNat (Cd p 0 j xs)).flatten=Cd p 0 (j+1) xs):=by have:=Mc p j 0 xs;rw[bW]at this;exact this.symm
   have jU:=Ez (f:=fun x=>Dm p x.code j) (n:=p.bins.toNat) (Cd p 0 j xs);rw[HS.out]at jU;generalize Cd p 0 j xs=zs at *
   refine' ZC;refine(Np _ _ p zs j _ (HP.out.on lr) OD.out g1 g2 ZA ZA vw).mono ?_;rintro e w2 ⟨vB,vO,vs,rfl,hB,hR,hF,b2⟩;have l2:=Aa lr b2;have jV:=aA (Fu.rd ⟨vs,hB⟩);clear hB hR hF
   refine' ZC;refine(Im _ _ _ jV.out (by rw[HS.out];omega)).mono ?_;rw[HS.out];refine' ZAW;refine' YC;have O3:=aA o3.rd;clear o3
   refine' ZC;go_roundw
   case rel=>exact⟨j+1,ZA,ZJ,l3,O3.out⟩
   case measure=>exact ZK
  ·have d7:¬((j:Int)<(k:Int)):=ZA
   have HE:=aA (show j=k by omega);rw[HE.out]at OD vw
   refine' ZC;refine(Aj3 _ _ _ p (Cd p 0 k xs) k ms _ (HP.out.on lr) OD.out (HM.out.on lr) g1 g2 yy ZA HG.out vw).mono ?_;rw[←KU.out];rintro e w3 ⟨vB,vO3,vs,rfl,hB,hR,hF,b3⟩;have l3:=Aa lr b3;have jV:=aA (show Fu 27 119 w1.heap.size w3 vB (Ew p xs (k:Int) ms)from⟨vs,hB⟩);clear hB hR hF
   refine' ZI;exact⟨_,rfl,jV.out.base_ (aG bf lr.size),Aa HT.out l3⟩
theorem AiR(v vb p xss)(k:Nat)(w)(hv:rdP w w.heap.size v p)(hb:rd w w.heap.size vb xss)(h1:Hh p xss (k:Int)=true):
 Calls aB 258 #[v,vb,.int .i64 k] w fun e w'=>∃vB vO vs,e=.returned (.tuple #[vB,vO])∧Fi 27 119 w.heap.size w' vB (Hq (rbF p (k:Int)) xss) vs∧own 119 w.heap.size w' vO (AeM (rbF p (k:Int)) xss)∧D7 vO vB vs∧Below w.heap.size w w':=by
 refine' ZEV;obtain⟨A,n,c,rfl,hn,hc,hm,hr⟩:=HB.out;refine' zk;refine' ZBi;refine' zv;refine' ZGl;refine' ZKn;have tO:=aA jl;clear pF jl;refine' ZKo;have HY:Hid (Hq (rbF p (k:Int)) xss=D9 f (Fd f xss xss.length) (Mh f xss xss.length)∧AeM (rbF p (k:Int)) xss=Bn f (Mh f xss xss.length)):=by unfold Hq AeM;rw[kA.out];exact ZV
 clear mH rU;refine' ZKp;have nN:p.order.length≤1000:=ZA
 go_enter Tryz.func258,Tryz.ntmps258;go_wp2;rw[←dc.out];obtain⟨ov,jj⟩:=I3 (α:=Ltr) w0 27 119 xss.length w0.heap.size (aD _) ZN;have lz:Below w0.heap.size w0 (w0.alloc (aC (madeCells #[.slice none 0 0] xss.length) 27)):=Ae l0 _;have gh:(w0.alloc (aC (madeCells #[.slice none 0 0] xss.length) 27)).heap.size=w.heap.size+1+1:=by simp[jP.out]
 generalize(w0.alloc (aC (madeCells #[.slice none 0 0] xss.length) 27))=wz at *;have mt:w0.heap.size≤w.heap.size+1:=eJ jP.out;have ix:=jj;rw[show(Value.slice (some ⟨w0.heap.size,0,none⟩) xss.length xss.length)=(Value.slice (some ⟨w.heap.size+1,0,none⟩) xss.length xss.length) by rw[jP.out]]at ix;clear jj;have CK:own (α:=Ltr) 119 w0.heap.size (wz.alloc (aC #[] 119)) (.slice (some ⟨wz.heap.size,0,none⟩) 0 0) []:=own.made0 wz _ lz.size;have wK:=Ae lz (aC #[] 119);have bt:Below wz.heap.size wz (wz.alloc (aC #[] 119)):=Ae (aF _ _) _;have iu:(wz.alloc (aC #[] 119)).heap.size=w.heap.size+1+1+1:=by simp[gh]
 have sV:D7 (.slice (some ⟨w.heap.size+1+1,0,none⟩) 0 0) (.slice (some ⟨w.heap.size+1,0,none⟩) xss.length xss.length) ov:=ZLO
 have JT:D7 (.slice (some ⟨w.heap.size+1+1+1,0,none⟩) 0 0) (.slice (some ⟨w.heap.size+1,0,none⟩) xss.length xss.length) ov:=by refine⟨.inr (by show some _≠some _;exact ZH),fun k hk=>.inr fun e=>?_⟩;obtain⟨z1,z2,z3,_⟩:=ix;have hh:w.heap.size+1+1+1<wz.heap.size:=((z3 k hk ZA).blk _ e.symm).2;omega
 rw[gh]at CK;have JU:=ix.below bt;generalize(wz.alloc (aC #[] 119))=wy at *;have CL:own (α:=Ltr) 119 w0.heap.size (wy.alloc (aC #[] 119)) (.slice (some ⟨wy.heap.size,0,none⟩) 0 0) []:=own.made0 wy _ wK.size;have lz3:=Ae wK (aC #[] 119);have dj:Below wy.heap.size wy (wy.alloc (aC #[] 119)):=Ae (aF _ _) _;rw[iu]at CL;have ky:=aA (JU.below dj);have JV:=aA (CK.below dj);have JW:=aA CL;have sW:=aA sV;have JX:=aA JT;have et:Hid (apart (.slice (some ⟨w.heap.size+1+1+1,0,none⟩) 0 0) (.slice (some ⟨w.heap.size+1+1,0,none⟩) 0 0)):=.inr ZGg;clear ix JU CK CL sV JT bt dj lz wK gh iu;generalize(wy.alloc (aC #[] 119))=wx at *;generalize hGr:w.heap.size+1+1+1=GR at *;generalize hGw:w.heap.size+1+1=GW at *;refine' ZGv;clear hG hGw hGr ez
 go_loopw[9,11] (fun t i wr=>∃(j:Nat) (vs:List Value),j≤xss.length∧i=.int .i64 j∧Below w0.heap.size w0 wr∧Fi 27 119 w0.heap.size wr (.slice (some ⟨G,0,none⟩) xss.length xss.length) (Fd f xss j) vs∧own 119 w0.heap.size wr t (Mh f xss j)∧Hid (D7 t (.slice (some ⟨G,0,none⟩) xss.length xss.length) vs)∧own (α:=Ltr) 119 w0.heap.size wr (.slice (some ⟨GR,0,none⟩) 0 0) []∧Hid (D7 (.slice (some ⟨GR,0,none⟩) 0 0) (.slice (some ⟨G,0,none⟩) xss.length xss.length) vs)∧Hid (apart (.slice (some ⟨GR,0,none⟩) 0 0) t)) (fun _ i _=>xss.length - (intOf i).toNat)
 case atStart=> refine⟨0,ov,aM _,rfl,lz3,?_,JV.out,sW.out,JW.out,JX.out,et.out⟩;rw[Yq];exact ky.out
 case round=>
  obtain⟨j,vs,hj,rfl,lr,hB,hO,fh,hE,wZ,xa⟩:=hrel;refine' zl;have jV:=aA hB;have HO:=aA hO;have HE:=aA hE;clear lz3 ky hB l0 hE JV JW sW JX et;by_cases ab:j<xss.length
  ·refine' ZKr;go_loopw[9,12] (fun t i wi=>∃(m:Nat) (vs:List Value),m≤ys.length∧i=.int .i64 m∧Below w0.heap.size w0 wi∧Fi 27 119 w0.heap.size wi (.slice (some ⟨G,0,none⟩) xss.length xss.length) (K.set j (D8 f j (ys.take m))) vs∧own 119 w0.heap.size wi t (zs++Gv f j (ys.take m))∧Hid (D7 t (.slice (some ⟨G,0,none⟩) xss.length xss.length) vs)∧own (α:=Ltr) 119 w0.heap.size wi (.slice (some ⟨GR,0,none⟩) 0 0) []∧Hid (D7 (.slice (some ⟨GR,0,none⟩) 0 0) (.slice (some ⟨G,0,none⟩) xss.length xss.length) vs)∧Hid (apart (.slice (some ⟨GR,0,none⟩) 0 0) t)) (fun _ i _=>ys.length - (intOf i).toNat)
   case atStart=> refine⟨0,vs,aM _,rfl,lr,?_,by simpa [Gv]using HO.out,fh.out,HE.out,wZ.out,xa.out⟩;rw[dD,gp.out];exact jV.out
   case round=>
    obtain⟨m,gw,ly,rfl,li,pi,mh,fk,hEi,uA,rP⟩:=hrel;refine' zj;have qk:=aA pi;clear pi lr jV HO fh HE wZ xa;have HEI:=aA hEi;clear hEi;by_cases nE:m<ys.length
    ·refine' ZKs;refine' ZKt;refine' ZKu;refine' ZKw;have ld:=Ag li;refine' ZLP;go_region_held3 (fun W=>Below w0.heap.size w0 W) (first|exact ld|exact Aa ld b4) (first|(go_at_call 171;refine(HC.out _ ld).mono ?_;refine' ZAX))
     refine' ZLQ;refine' ZEQ;have TM:=aA (HEI.out.below B4);refine' ZDE;clear b4 B4 ld;by_cases og:r=(j:Int)
     ·refine' ZKx;have uB:=aA og;refine' ZKy;go_region_law (first|((refine Ce (α:=Ltr) ZG (.tmp 53) (.tmp 61) 27 ZG w0.heap.size 119 i1 _ 24 aV ji dp dq dr rfl ZF (.slice Au qs.length cu) qs x ZG ((jc.out.alloc _).drew) ⟨w4.heap.size,0,none⟩ 1 (Ltr.cells x) ZG ⟨⟨fa,ew⟩,rfl⟩ (Ft w4 _ (Ltr.cells x)) ZN ZA ZH ?_;refine' ZKz)))
      all_goals
       refine' ZK0;obtain⟨_,p5,p6⟩:=Eh br.out TM.out uA.out fq ey ir mV.out DW.symm bz ap cn;refine' ZK1;have P5:=aA p5;have P6:=aA p6;clear p1 p2 p3 p5 p6 fq;go_wp2
       go_roundw
       case rel=>exact⟨m+1,_,ZA,ZJ,p4,by rw[nd.out];exact P1.out,by rw[iv.out,xM.out];exact P2.out,P3.out,P5.out,P6.out,rP.out⟩
       case measure=>exact ZK
     ·refine' ZK2;have uB:=aA og;clear og
      go_wp2_with (at_builtin;refine An (α:=Ltr) rfl (.tmp 64) (.tmp 72) 27 rfl w0.heap.size 119 i1 _ 24 aV ji dp dq dr rfl ZF (.slice AI zr.length cI) zr x rfl (jq.out.alloc _) ⟨w4.heap.size,0,none⟩ 1 (Ltr.cells x) rfl ⟨⟨fa,ew⟩,rfl⟩ (Bz w4 _ (Ltr.cells x)) ZN ZA ZH ?_;refine' zI)
      refine' ZGm;have DT:=aA ((TM.out.below ((aF _ _).alloc (aD _) (aC #[bC aI x.id,aK x.code] 119))).grown ap rP.out);refine' ZK3;have ex:Hid (apart (.slice (some ⟨GR,0,none⟩) 0 0) (.slice (some ⟨g,0,none⟩) (zr.length+1) cap)):=Br (Dg (Br rP.out) cn fun j hj=>by have:=(TM.out.blk j hj).2;exact ZH);go_roundw
      case rel=>exact⟨m+1,gw,ZA,ZJ,l5,by rw[nd.out];exact lV.out,ZK4,lk,DT.out,uA.out,ex⟩
      case measure=>exact ZK
    ·have uB:=aA (show m=ys.length by omega)
     rw[uB.out,aY,←ff.out]at mh;have pi:=qk.out;rw[uB.out,aY,eu.out]at pi;have ja:=aA mh;clear mh;have kS:=aA pi;clear pi
     refine' ZC;go_roundw
     case rel=>exact⟨j+1,gw,ZA,ZJ,li,kS.out,ja.out,fk.out,HEI.out,uA.out,rP.out⟩
     case measure=>exact ZK
  ·have uB:=aA (show j=xss.length by omega)
   have hB:=jV.out;rw[uB.out]at hB hO;refine' ZK5;go_loopw[10,13] (fun t i wi=>∃(q:Nat) (vs:List Value),q≤ws.length∧i=.int .i64 q∧Below w0.heap.size w0 wi∧Fi 27 119 w0.heap.size wi (.slice (some ⟨G,0,none⟩) xss.length xss.length) (D9 f K (ws.take q)) vs∧own 119 w0.heap.size wi t (Bn f (ws.take q))∧own 119 w0.heap.size wi (.slice AW ws.length cW) ws∧Hid (D7 t (.slice (some ⟨G,0,none⟩) xss.length xss.length) vs)∧Hid (D7 (.slice AW ws.length cW) (.slice (some ⟨G,0,none⟩) xss.length xss.length) vs)∧Hid (apart t (.slice AW ws.length cW))) (fun _ i _=>ws.length - (intOf i).toNat)
   case atStart=> refine⟨0,vs,aM _,rfl,lr,?_,HE.out,j8.out,wZ.out,fh.out,xa.out⟩;rw[dD,AkH];exact un.out
   case round=>
    refine' ZK6;clear pi lr un fh j8 HE wZ xa;have JA:=aA IZ;clear IZ;by_cases uo:q<ws.length
    ·refine' ZK7;generalize D9 f K (ws.take q)=L at *;generalize Bn f (ws.take q)=rs at *;refine' ZK8;have ld:=Ag li;have JY:Below w3.heap.size w3 w3:=aF _ _;refine' ZLP;go_region_held3 (fun W=>Below w0.heap.size w0 W∧Below w3.heap.size w3 W) (first|exact⟨ld,Ag JY⟩|exact⟨Aa ld b4,Aa (Ag JY) b4⟩) (first|(go_at_call 171;refine(HC.out _ ld).mono ?_;refine' ZAX))
     refine' ZLQ;have BO:=aA (JA.out.below B4);refine' ZEQ;have f1:=d1 w4 B4;have f2:=d2 w4 B4;refine' ZDE;clear b4 B4 ld JY d1 d2;have wI:=rJ.out;by_cases az:r<0
     ·refine' ZK9;go_wp2_with (at_builtin;refine An (α:=Ltr) rfl (.tmp 90) (.tmp 95) 27 rfl w0.heap.size 119 i1 _ 24 aV ji dp dq dr rfl ZF (.slice AI rs.length cI) rs x rfl (jq.out.alloc _) ⟨w4.heap.size,0,none⟩ 1 (Ltr.cells x) rfl ⟨⟨fa,ew⟩,rfl⟩ (Bz w4 _ (Ltr.cells x)) ZN ZA ZH ?_;refine' zI)
      exact ZLA
     ·refine' ZLB;go_region_law (first|((refine Ce (α:=Ltr) ZG (.tmp 102) (.tmp 107) 27 ZG w0.heap.size 119 i1 _ 24 aV ji dp dq dr rfl ZF (.slice Au qs.length cu) qs x ZG ((jc.out.alloc _).drew) ⟨w4.heap.size,0,none⟩ 1 (Ltr.cells x) ZG ⟨⟨fa,ew⟩,rfl⟩ (Ft w4 _ (Ltr.cells x)) ZN ZA ZH ?_;refine' ZER)))
      all_goals exact ZLC
    ·have uB:=aA (show q=ws.length by omega)
     go_wp2;go_ret2;have hB:=qk.out;have hF:=fk.out;rw[uB.out,aY,←IY.out]at hB;rw[uB.out,aY,←SG.out]at mh;exact⟨_,_,gw,rfl,hB.base_ bf,mh.base_ bf,hF,Aa HT.out li⟩
theorem Ab2(v vb vm p xs k ms w)(hv:rdP w w.heap.size v p)(hb:rd w w.heap.size vb xs)(hm:rd w w.heap.size vm ms):
 Calls aB 187 #[v,vb,.int .i64 k,vm] w fun e w'=>∃vL,e=.returned (.tuple #[vL,.bool (Lo p xs k ms)])∧own 119 w.heap.size w' vL (Fr p xs k ms)∧Below w.heap.size w w':=by
 refine' ZET;have bw:Hid (∀h:Lo p xs k ms=false,Fr p xs k ms=[]):=fun h=>by unfold Fr;rw[h];rfl
 go_enter Tryz.func187,Tryz.ntmps187
 refine' zD;refine(AlS _ _ _ p xs k ms _ HP.out HB.out HM.out).mono ?_;refine' zd;cases h1:Lo p xs k ms
 ·have HF:=aA h1;clear h1
  have O1:Hid (own (α:=Ltr) 119 w.heap.size (w1.alloc (.cells #[] 119)) (.slice (some ⟨w1.heap.size,0,none⟩) 0 0) []):=own.made0 w1 _ (aG bf l1.size)
  refine' ZQ;exact⟨_,Bf ZX,by rw[bw.out HF.out];exact O1.out,Aa HT.out (Ae l1 _)⟩
 obtain⟨⟨lD,mH,rU⟩,h2,h3⟩:=Um.1 h1;have NG:=aA (AkN h1);have HBO:=aA (AfA h1);have HF:=aA h1;clear h1 h2 h3 lD;refine' ZDB;have ld:=Ag l1;have jo:Hid (Hq (rbF p (k:Int)) (Ew p xs k ms)=Ld p (Ew p xs k ms) k):=NG.out.1.symm;have C1:Hid (∀W,Below w0.heap.size w0 W→Calls aB 259 #[.agg #[.int .i64 p.bins,.int .i64 p.passes,.slice A0 p.order.length c0],vb,.int .i64 k,vm] W fun e w'=>∃vB,e=.returned vB∧rd w' w'.heap.size vB (Ew p xs k ms)∧Below W.heap.size W w'):=fun W hW=>by refine(AiW _ _ _ p xs k ms W (HP.out.on hW) (HB.out.on hW) (HM.out.on hW) HF.out).mono ?_;rintro e w' ⟨vB,h1,h2,h3⟩;exact⟨vB,h1,h2.rd,h3⟩
 have C2:Hid (∀W,Below w0.heap.size w0 W→∀vf,rd W W.heap.size vf (Ew p xs k ms)→Calls aB 258 #[.agg #[.int .i64 p.bins,.int .i64 p.passes,.slice A0 p.order.length c0],vf,.int .i64 k] W fun e w'=>∃vB vO,e=.returned (.tuple #[vB,vO])∧rd w' w'.heap.size vB (Ld p (Ew p xs k ms) k)∧Below W.heap.size W w'):=fun W hW vf hf=>by refine(AiR _ vf p _ k W (HP.out.on hW) hf HBO.out).mono ?_;rw[jo.out];rintro e w' ⟨vB,vO,vs,h1,h2,_,_,h5⟩;exact⟨vB,vO,h1,Fu.rd ⟨vs,h2⟩,h5⟩
 obtain⟨rb,rz⟩:∃z,Ld p (Ew p xs (k:Int) ms) k=z:=⟨_,rfl⟩;have HY:Hid (J9 p rb k=Fr p xs k ms∧Hh p rb k=true):=by rw[←rz];exact NG.out.2
 rw[rz]at C2;clear rz jo NG;go_wp2
 go_region_held3 (fun W=>Below w0.heap.size w0 W) (first|exact ld|exact Aa ld b2|exact Aa (Aa ld b2) b3) (first|(go_at_call 259;refine(C1.out _ ld).mono ?_;rintro e w2 ⟨v2,rfl,r2,b2⟩)|(go_at_call 258;refine(C2.out _ (Aa ld b2) _ r2).mono ?_;rintro e w3 ⟨v3,vO3,rfl,r3,b3⟩))
 have l3:=Aa (Aa ld b2) b3;have R3:=aA r3;clear r3 r2
 refine' ZC;refine(AiI _ _ p rb k _ (HP.out.on l3) R3.out HY.out.2).mono ?_;rw[HY.out.1];refine' ZDJ;have l4:=Aa l3 b4;have O4:=aA (o4.base_ (aG bf l3.size));clear o4
 refine' ZQ;exact⟨_,Bf ZX,O4.out,Aa HT.out l4⟩
def F9(fs:List Fwd)(xs:List Ltr):List Ltr:=(xs.filter fun x=>(Bc fs x.code).2.2).map fun x=>⟨x.id,(Bc fs x.code).1⟩
def Lj(fs:List Fwd)(xs:List Ltr):List Ltr:=xs.filter fun x=> !(Bc fs x.code).2.2
theorem Al8{fs}{xs:List Ltr}{k}(h:k<xs.length)(hf:(Bc fs xs[k].code).2.2=true):F9 fs (xs.take (k+1))=F9 fs (xs.take k)++[⟨xs[k].id,(Bc fs xs[k].code).1⟩]:=by unfold F9;exact ZFo
theorem AhU{fs}{xs:List Ltr}{k}(h:k<xs.length)(hf:(Bc fs xs[k].code).2.2=false):F9 fs (xs.take (k+1))=F9 fs (xs.take k):=by unfold F9;exact ZFo
theorem Af2{fs}{xs:List Ltr}{k}(h:k<xs.length)(hf:(Bc fs xs[k].code).2.2=true):Lj fs (xs.take (k+1))=Lj fs (xs.take k):=by unfold Lj;exact zn
theorem AcY{fs}{xs:List Ltr}{k}(h:k<xs.length)(hf:(Bc fs xs[k].code).2.2=false):Lj fs (xs.take (k+1))=Lj fs (xs.take k)++[xs[k]]:=by unfold Lj;exact zn
theorem Ak8(fs xs):(F9 fs xs).length≤xs.length:=by unfold F9;refine' za;exact bJ _ _
theorem AfM(fs xs):(Lj fs xs).length≤xs.length:=bJ _ _
theorem Fv{α:Type}(xs:List α)(k):(xs.take k).length≤k:=zF
def Ve(fs:List Fwd)(xs:List Ltr):Bool:=Be fs&&okB xs
def E6(fs:List Fwd)(xs:List Ltr):List Ltr:=if Ve fs xs then F9 fs xs else []
def Gu(fs:List Fwd)(xs:List Ltr):List Ltr:=if Ve fs xs then Lj fs xs else []
def Kq(hs:List ByteArray)(xs:List Ltr):List Ltr:=xs.filter fun x=>decide (rkI hs x.code<0)
def Ng(hs:List ByteArray)(xs:List Ltr):List Ltr:=xs.filter fun x=> !decide (rkI hs x.code<0)
theorem AjL{hs}{xs:List Ltr}{k}(h:k<xs.length)(hf:rkI hs xs[k].code<0):Kq hs (xs.take (k+1))=Kq hs (xs.take k)++[xs[k]]:=by unfold Kq;exact zn
theorem Ag8{hs}{xs:List Ltr}{k}(h:k<xs.length)(hf:¬rkI hs xs[k].code<0):Kq hs (xs.take (k+1))=Kq hs (xs.take k):=by unfold Kq;exact zn
theorem Ak5{hs}{xs:List Ltr}{k}(h:k<xs.length)(hf:rkI hs xs[k].code<0):Ng hs (xs.take (k+1))=Ng hs (xs.take k):=by unfold Ng;exact zn
theorem AgB{hs}{xs:List Ltr}{k}(h:k<xs.length)(hf:¬rkI hs xs[k].code<0):Ng hs (xs.take (k+1))=Ng hs (xs.take k)++[xs[k]]:=by unfold Ng;exact zn
theorem AkO(hs xs):(Kq hs xs).length≤xs.length:=bJ _ _
theorem AjR(hs xs):(Ng hs xs).length≤xs.length:=bJ _ _
def Qt(hs:List ByteArray)(xs:List Ltr):Bool:=okB xs&&Ee hs
def Jf(hs:List ByteArray)(xs:List Ltr):List Ltr:=if Qt hs xs then Kq hs xs else []
def Je(hs:List ByteArray)(xs:List Ltr):List Ltr:=if Qt hs xs then Ng hs xs else []
structure Rpt where
 round:List Ltr
 strange:List Ltr
 held:List Ltr
 stuck:List Ltr
def AhO(d:Dy)(xs:List Ltr):Rpt:=
 ⟨Dr d.plan (Jf d.held (E6 d.fwds xs)),Ha d.plan (Jf d.held (E6 d.fwds xs)),Je d.held (E6 d.fwds xs),Gu d.fwds xs⟩
def Ka(d:Dy)(xs:List Ltr):Bool:=Mi d&&okB xs
def Dh(d:Dy)(xs:List Ltr):Rpt:=if Ka d xs then AhO d xs else⟨[],[],[],[]⟩
def rdR(w:World)(B:Nat)(v:Value)(r:Rpt):Prop:=
 ∃v0 v1 v2 v3,v=.agg #[v0,v1,v2,v3]∧rd w B v0 r.round∧rd w B v1 r.strange∧rd w B v2 r.held∧rd w B v3 r.stuck
theorem rdR.below{w w' B v r}(h:rdR w B v r)(hb:Below B w w'):rdR w' B v r:=by obtain⟨v0,v1,v2,v3,h1,h2,h3,h4,h5⟩:=h;exact⟨v0,v1,v2,v3,h1,h2.below hb,h3.below hb,h4.below hb,h5.below hb⟩
theorem rdR.more{w B B' v r}(h:rdR w B v r)(hB:B≤B'):rdR w B' v r:=by obtain⟨v0,v1,v2,v3,h1,h2,h3,h4,h5⟩:=h;exact⟨v0,v1,v2,v3,h1,h2.more hB,h3.more hB,h4.more hB,h5.more hB⟩
theorem rdR.on{w w' v r}(h:rdR w w.heap.size v r)(hb:Below w.heap.size w w'):rdR w' w'.heap.size v r:=(h.below hb).more hb.size
theorem At9{w B v r}(h:rdR w B v r):∃A0 c0 A1 c1 A2 c2 A3 c3,v=.agg #[.slice A0 r.round.length c0,.slice A1 r.strange.length c1,.slice A2 r.held.length c2,.slice A3 r.stuck.length c3]:=by obtain⟨v0,v1,v2,v3,rfl,⟨A0,n0,c0,rfl,rfl,_⟩,⟨A1,n1,c1,rfl,rfl,_⟩,⟨A2,n2,c2,rfl,rfl,_⟩,⟨A3,n3,c3,rfl,rfl,_⟩⟩:=h;exact⟨A0,c0,A1,c1,A2,c2,A3,c3,rfl⟩
theorem AlF{w B r v0 v1 v2 v3}(h:rdR w B (.agg #[v0,v1,v2,v3]) r):rd w B v0 r.round∧rd w B v1 r.strange∧rd w B v2 r.held∧rd w B v3 r.stuck:=by obtain⟨a0,a1,a2,a3,h1,h2,h3,h4,h5⟩:=h;injection h1 with h1;injection h1 with h1;simp only[List.cons.injEq,and_true]at h1;obtain⟨rfl,rfl,rfl,rfl⟩:=h1;exact⟨h2,h3,h4,h5⟩
def Wq(T base:Nat)(w:World)(v:Value)(r:Rpt):Prop:=
 ∃v0 v1 v2 v3,v=.agg #[v0,v1,v2,v3]∧own T base w v0 r.round∧own T base w v1 r.strange∧own T base w v2 r.held∧own T base w v3 r.stuck∧(apart v0 v1∧apart v0 v2∧apart v0 v3∧apart v1 v2∧apart v1 v3∧apart v2 v3)
theorem Wq.rd{T base w v r}(h:Wq T base w v r):rdR w w.heap.size v r:=by obtain⟨v0,v1,v2,v3,h1,h2,h3,h4,h5,_⟩:=h;exact⟨v0,v1,v2,v3,h1,h2.rd,h3.rd,h4.rd,h5.rd⟩
theorem Wq.below{T base w w' v r}(h:Wq T base w v r)(hb:Below w.heap.size w w'):Wq T base w' v r:=by obtain⟨v0,v1,v2,v3,h1,h2,h3,h4,h5,h6⟩:=h;exact⟨v0,v1,v2,v3,h1,h2.below hb,h3.below hb,h4.below hb,h5.below hb,h6⟩
theorem Wq.none_(T base w):Wq T base w (.agg #[.slice none 0 0,.slice none 0 0,.slice none 0 0,.slice none 0 0]) ⟨[],[],[],[]⟩:=
 ⟨_,_,_,_,rfl,own.nil_ _ _ _,own.nil_ _ _ _,own.nil_ _ _ _,own.nil_ _ _ _,.inl rfl,.inl rfl,.inl rfl,.inl rfl,.inl rfl,.inl rfl⟩
theorem AsI{c}(h:Ap c=true):c.size≤maxLen:=by unfold Ap at h;simp only[aN,dE]at h;exact ZN
theorem Sg{fs c}(h:Be fs=true)(hc:c.size≤maxLen):(Bc fs c).1.size≤maxLen:=by refine(Zx (fun x hx=>?_) _ _ _ hc).1;refine' ZAZ;exact AsI ((Ch.1 h).2 k hk).2.1
theorem AaB(v vb fs xs w)(hv:rd w w.heap.size v fs)(hb:rd w w.heap.size vb xs):
 Calls aB 210 #[v,vb] w fun e w'=>∃vA vB,e=.returned (.tuple #[vA,vB,.bool (Ve fs xs)])∧own 119 w.heap.size w' vA (E6 fs xs)∧own 119 w.heap.size w' vB (Gu fs xs)∧apart vA vB∧Below w.heap.size w w':=by
 refine' zQ;clear hv;refine' ZCH;refine' zw;refine' ZLl;have HQ:Hid (Ve fs xs=(Be fs&&okB xs)):=rfl;refine' zv;go_enter Tryz.func210,Tryz.ntmps210
 refine' ZC;refine(Dj _ fs _ HV.out).mono ?_;refine' zd;cases h1:Be fs
 ·have HF:Hid (Ve fs xs=false):=zu
  clear h1
  exact ZDQ
 refine' zP;refine' ZEO;clear b1 b2;cases h2:okB xs
 ·have HF:Hid (Ve fs xs=false):=ZBf
  clear h2
  refine' zV;exact⟨_,_,Bf ZX,by rw[(bw.out HF.out).1];exact ze,by rw[(bw.out HF.out).2];exact ze,.inl rfl,l2⟩
 refine' ZLm;go_loopw[7,8,24] (fun a b i wr=>∃k:Nat,k≤xs.length∧i=.int .i64 k∧Below w.heap.size w wr∧own 119 w.heap.size wr a (F9 fs (xs.take k))∧own 119 w.heap.size wr b (Lj fs (xs.take k))∧Hid (apart a b)) (fun _ _ i _=>xs.length - (intOf i).toNat)
 case atStart=>exact⟨0,aM _,rfl,l2,own.nil_ _ _ _,own.nil_ _ _ _,.inl rfl⟩
 case round=>
  refine' ZCI;clear l0 l1 l2;by_cases ab:k<xs.length
  ·refine' ZLn;refine' ZDC;have ll:=Aa lr (Aw cz).1;refine' ZDD;refine' ZC;rw[←jM.out];refine(Hj _ fs x.code _ (HV.out.on ll) ew ZA).mono ?_;rw[de.out,rE.out];cases hf:(Bc fs x.code).2.2
   ·refine' ZEc;have br:=aA (HB.out.below B4);refine' ZEd;refine' ZDR;clear b4 B4 hf
    go_wp2_with (at_builtin;refine An (α:=Ltr) rfl (.tmp 44) (.tmp 46) 27 rfl w.heap.size 119 i1 _ 24 aV ji dp dq dr rfl ZF (.slice AB bs.length cB) bs x rfl (br.out.alloc _) ⟨w4.heap.size,0,none⟩ 1 (Ltr.cells x) rfl ⟨⟨fa,ew⟩,rfl⟩ (Bz w4 _ (Ltr.cells x)) ZN ZA ZH ?_;refine' zI)
    exact ZDS
   ·refine' ZEc;have br:=aA (HB.out.below B4);refine' ZCJ;refine' ZDR;clear b4 B4 hf;refine' ZLo;rw[mr]at y0 fa;rw[sK]at si;rw[sK];clear hy mr sK
    go_wp2_with (at_builtin;refine An (α:=Ltr) rfl (.tmp 37) (.tmp 42) 27 rfl w.heap.size 119 i1 _ 24 aV ji dp dq dr rfl ZF (.slice AA sa.length cA) sa y rfl (iw.out.alloc _) ⟨w4.heap.size,0,none⟩ 1 (Ltr.cells y) rfl ⟨⟨fa,si⟩,rfl⟩ (Bz w4 _ (Ltr.cells y)) ZN ZA ZH ?_;refine' zI)
    exact ZLp
  exact ZDT
theorem Ah3(vb v xs hs w)(hb:rd w w.heap.size vb xs)(hv:rd w w.heap.size v hs):
 Calls aB 211 #[vb,v] w fun e w'=>∃vA vB,e=.returned (.tuple #[vA,vB,.bool (Qt hs xs)])∧own 119 w.heap.size w' vA (Jf hs xs)∧own 119 w.heap.size w' vB (Je hs xs)∧apart vA vB∧Below w.heap.size w w':=by
 refine' zQ;clear hv;refine' ZCH;refine' zw;refine' ZLq;have HQ:Hid (Qt hs xs=(okB xs&&Ee hs)):=rfl;refine' zv;go_enter Tryz.func211,Tryz.ntmps211
 refine' ZC;refine(Cn _ xs _ HB.out).mono ?_;refine' zd;cases h1:okB xs
 ·have HF:Hid (Qt hs xs=false):=zu
  clear h1
  exact ZDQ
 have lG:=Cq h1;refine' zP;refine(Ug _ hs _ (HV.out.on l1)).mono ?_;refine' zo;clear b1;cases h2:Ee hs
 ·have HF:Hid (Qt hs xs=false):=ZBf
  clear h2
  exact ZDQ
 refine' zA;have HF:Hid (Qt hs xs=true):=ZEP
 refine' ZLr;go_loopw[7,8,21] (fun a b i wr=>∃k:Nat,k≤xs.length∧i=.int .i64 k∧Below w.heap.size w wr∧own 119 w.heap.size wr a (Kq hs (xs.take k))∧own 119 w.heap.size wr b (Ng hs (xs.take k))∧Hid (apart a b)) (fun _ _ i _=>xs.length - (intOf i).toNat)
 case atStart=>exact⟨0,aM _,rfl,l1,own.nil_ _ _ _,own.nil_ _ _ _,.inl rfl⟩
 case round=>
  refine' ZCI;clear l0 l1;by_cases ab:k<xs.length
  ·refine' ZLs;refine' ZLt;refine(M5 _ hs x.code _ (HV.out.on l4)).mono ?_;by_cases hf:rkI hs x.code<0
   ·have hd:decide (0≤rkI hs x.code)=false:=ZH
    rw[hd];refine' ZAG;refine' ZCJ;clear hf hd
    go_wp2_with (at_builtin;refine An (α:=Ltr) rfl (.tmp 33) (.tmp 35) 27 rfl w.heap.size 119 i1 _ 24 aV ji dp dq dr rfl ZF (.slice AA sa.length cA) sa x rfl (iw.out.alloc _) ⟨wl.heap.size,0,none⟩ 1 (Ltr.cells x) rfl ⟨⟨fa,ew⟩,rfl⟩ (Bz wl _ (Ltr.cells x)) ZN ZA ZH ?_;refine' zI)
    exact ZHA
   ·have hd:decide (0≤rkI hs x.code)=true:=ZH
    rw[hd];refine' ZAG;refine' ZLu;clear hf hd
    go_wp2_with (at_builtin;refine An (α:=Ltr) rfl (.tmp 29) (.tmp 31) 27 rfl w.heap.size 119 i1 _ 24 aV ji dp dq dr rfl ZF (.slice AB bs.length cB) bs x rfl (br.out.alloc _) ⟨wl.heap.size,0,none⟩ 1 (Ltr.cells x) rfl ⟨⟨fa,ew⟩,rfl⟩ (Bz wl _ (Ltr.cells x)) ZN ZA ZH ?_;refine' zI)
    exact ZDS
  exact ZDT
theorem Zi(v vb fs xs w)(hv:rd w w.heap.size v fs)(hb:rd w w.heap.size vb xs):
 Calls aB 81 #[v,vb] w fun e w'=>∃vA vB,e=.returned (.tuple #[vA,vB,.bool (Ve fs xs)])∧own 119 w.heap.size w' vA (E6 fs xs)∧own 119 w.heap.size w' vB (Gu fs xs)∧apart vA vB∧Below w.heap.size w w':=by
 refine' zQ;clear hv;refine' ZCH;refine' zk;refine' ZLl;refine' ZLv;have HQ:Hid (Ve fs xs=(Be fs&&okB xs)):=rfl;go_enter Tryz.func81,Tryz.ntmps81
 refine' ZLw;refine(D2 _ fs _ (HV.out.on lz)).mono ?_;refine' ZW;cases h1:Be fs
 ·have HF:Hid (Ve fs xs=false):=zu
  clear h1
  refine' zV;exact⟨_,_,Bf ZX,by rw[(bw.out HF.out).1];exact OA.out,by rw[(bw.out HF.out).2];exact OB.out,km.out,lz⟩
 refine' zP;refine' ZLx;clear b2;cases h2:okB xs
 ·have HF:Hid (Ve fs xs=false):=ZBf
  clear h2
  exact ZLy
 refine' ZLm;go_loopw[7,8,9] (fun a b i wr=>∃k:Nat,k≤xs.length∧i=.int .i64 k∧Below w.heap.size w wr∧own 119 w.heap.size wr a (F9 fs (xs.take k))∧own 119 w.heap.size wr b (Lj fs (xs.take k))∧Hid (apart a b)) (fun _ _ i _=>xs.length - (intOf i).toNat)
 case atStart=>exact⟨0,aM _,rfl,l2,OA.out,OB.out,km.out⟩
 case round=>
  refine' ZCI;clear lz l2 OA OB km;by_cases ab:k<xs.length
  ·refine' ZLn;refine' ZC;refine(It _ fs x.code _ (HV.out.on lr) ew ZA).mono ?_;rw[de.out,rE.out];cases hf:(Bc fs x.code).2.2
   ·refine' ZLz;refine' ZEd;refine' ZDR;clear b4 hf
    go_wp2_with (at_builtin;refine An (α:=Ltr) rfl (.tmp 53) (.tmp 58) 27 rfl w.heap.size 119 i1 _ 24 aV ji dp dq dr rfl ZF (.slice AB bs.length cB) bs x rfl (br.out.alloc _) ⟨w4.heap.size,0,none⟩ 1 (Ltr.cells x) rfl ⟨⟨fa,ew⟩,rfl⟩ (Bz w4 _ (Ltr.cells x)) ZN ZA ZH ?_;refine' zI)
    exact ZDS
   ·refine' ZLz;refine' ZCJ;refine' ZDR;clear b4 hf;refine' ZLo;rw[mr]at c1 fa;rw[sK]at si;rw[sK];clear hy mr sK
    go_wp2_with (at_builtin;refine An (α:=Ltr) rfl (.tmp 43) (.tmp 51) 27 rfl w.heap.size 119 i1 _ 24 aV ji dp dq dr rfl ZF (.slice AA sa.length cA) sa y rfl (iw.out.alloc _) ⟨w4.heap.size,0,none⟩ 1 (Ltr.cells y) rfl ⟨⟨fa,si⟩,rfl⟩ (Bz w4 _ (Ltr.cells y)) ZN ZA ZH ?_;refine' zI)
    exact ZLp
  exact ZDT
theorem Ah2(vb v xs hs w)(hb:rd w w.heap.size vb xs)(hv:rd w w.heap.size v hs):
 Calls aB 82 #[vb,v] w fun e w'=>∃vA vB,e=.returned (.tuple #[vA,vB,.bool (Qt hs xs)])∧own 119 w.heap.size w' vA (Jf hs xs)∧own 119 w.heap.size w' vB (Je hs xs)∧apart vA vB∧Below w.heap.size w w':=by
 refine' zQ;clear hv;refine' ZAa;obtain⟨A',n',c',rfl,rZ,hc',ly,tB⟩:=HV.out;subst rZ;unfold maxLen at ly;have DV:=aA tB;clear tB;obtain⟨A,n,c,rfl,hn,hc,hm,hr⟩:=hb;refine' zk;refine' ZLq;refine' ZLv;have HQ:Hid (Qt hs xs=(okB xs&&(decide (hs.length≤30)&&hs.all Ap))):=rfl;go_enter Tryz.func82,Tryz.ntmps82
 refine' ZLw;refine' ZLx;clear b2 lz;cases h2:okB xs
 ·have HF:Hid (Qt hs xs=false):=by show _=_;rw[HQ.out,h2];rfl
  clear h2
  exact ZL0
 have lG:=Cq h2;refine' zA;by_cases pH:hs.length≤30
 rotate_left
 ·have HF:Hid (Qt hs xs=false):=by show _=_;rw[HQ.out,aO pH];simp
  have qh:¬((hs.length:Int)≤30):=ZA
  exact ZL0
 have qh:(hs.length:Int)≤30:=ZA
 have wY:Hid (Qt hs xs=hs.all Ap):=by show _=_;rw[HQ.out,H2.out,aJ pH];simp
 clear HQ
 refine' ZC;go_loopw[9,10] (fun g i wr=>∃j:Nat,j≤hs.length∧i=.int .i64 j∧g=.bool ((hs.take j).all Ap)∧wr=w2) (fun _ i _=>hs.length - (intOf i).toNat)
 case atStart=>exact⟨0,aM _,rfl,ZL1,rfl⟩
 case round=>
  obtain⟨j,hj,rfl,rfl,rfl⟩:=hrel;by_cases ab:j<hs.length
  ·have ko:(j:Int)<(hs.length:Int):=ZA
   obtain⟨b',o',rfl,pA,ct,d1⟩:=DV.out.strU j ab;have fe:Hid ((hs.take (j+1)).all Ap=((hs.take j).all Ap&&Ap hs[j])):=Hv hs j ab;generalize hs[j]=s at *;cases ha:(hs.take j).all Ap
   ·have HG:Hid ((hs.take (j+1)).all Ap=false):=by show _=_;rw[fe.out,ha];rfl
    clear ha
    exact ZL2
   ·obtain⟨r,hr⟩:∃r,Ap s=r:=⟨_,rfl⟩
    have HG:Hid ((hs.take (j+1)).all Ap=r):=by show _=_;rw[fe.out,ha,hr];simp
    clear ha
    refine' ZC;refine(AyP ct hr).mono ?_;clear hr;rintro e w5 ⟨rfl,rfl⟩
    exact ZL2
  ·have ko:¬((j:Int)<(hs.length:Int)):=ZA
   have uB:=aA (show j=hs.length by omega);have HTA:Hid ((hs.take j).all Ap=Qt hs xs):=by show _=_;rw[wY.out,uB.out,aY]
   rw[HTA.out];cases hg:Qt hs xs
   ·have HF:=aA hg;clear hg
    exact ZL3
   ·have HF:=aA hg;clear hg
    refine' ZLr;go_loopw[7,8,11] (fun a b i wr=>∃k:Nat,k≤xs.length∧i=.int .i64 k∧Below w.heap.size w wr∧own 119 w.heap.size wr a (Kq hs (xs.take k))∧own 119 w.heap.size wr b (Ng hs (xs.take k))∧Hid (apart a b)) (fun _ _ i _=>xs.length - (intOf i).toNat)
    case atStart=>exact⟨0,aM _,rfl,l2,OA.out,OB.out,km.out⟩
    case round=>
     refine' ZCI;clear l2 OA OB km;by_cases ab:k<xs.length
     ·refine' ZLs;have iw:=HA;have br:=HB;have mq:w.heap.size≤w3.heap.size:=lr.size;obtain⟨r,hr⟩:∃r,rkI hs x.code=r:=⟨_,rfl⟩;rw[hr]at jZ iq jx gm
      refine' ZC;refine(AfK (HV.out.on lr) hr).mono ?_;clear hr;refine' ZAG;by_cases hf:r<0
      ·have yb:¬(0≤r):=ZA
       refine' ZCJ;go_wp2_with (at_builtin;refine An (α:=Ltr) rfl (.tmp 59) (.tmp 64) 27 rfl w.heap.size 119 i1 _ 24 aV ji dp dq dr rfl ZF (.slice AA sa.length cA) sa x rfl (iw.out.alloc _) ⟨w3.heap.size,0,none⟩ 1 (Ltr.cells x) rfl ⟨⟨fa,ew⟩,rfl⟩ (Bz w3 _ (Ltr.cells x)) ZN ZA ZH ?_;refine' zI)
       refine' ZL4;have l5:Below w.heap.size w w5:=(Ae lr (aC #[bC aI x.id,aK x.code] 119)).grown ap ZH fun q hq=>(iw.out.blk q hq).1
       exact ZHB
      ·have yb:0≤r:=ZA
       refine' ZLu;go_wp2_with (at_builtin;refine An (α:=Ltr) rfl (.tmp 52) (.tmp 57) 27 rfl w.heap.size 119 i1 _ 24 aV ji dp dq dr rfl ZF (.slice AB bs.length cB) bs x rfl (br.out.alloc _) ⟨w3.heap.size,0,none⟩ 1 (Ltr.cells x) rfl ⟨⟨fa,ew⟩,rfl⟩ (Bz w3 _ (Ltr.cells x)) ZN ZA ZH ?_;refine' zI)
       refine' ZL5;have l5:Below w.heap.size w w5:=(Ae lr (aC #[bC aI x.id,aK x.code] 119)).grown ap ZH fun q hq=>(br.out.blk q hq).1
       exact ZL6
     ·refine' YD;have bc:¬((k:Int)<(xs.length:Int)):=ZA
      exact ZL7
theorem Tryz.sizeRpt:(aB.info? 78).map (·.size)=some 4:=ZB
def Sy(T:TypeId)(d:Dy)(xs:List Ltr)(w:World)(e:Ending)(w':World):Prop:=
 ∃vR,e=.returned (.tuple #[vR,.bool (Ka d xs)])∧Wq T w.heap.size w' vR (Dh d xs)∧Below w.heap.size w w'
theorem Vw{T:TypeId}{d xs w w'}(h:Ka d xs=false)(hb:Below w.heap.size w w'):
 Sy T d xs w (.returned (.tuple #[.agg #[.slice none 0 0,.slice none 0 0,.slice none 0 0,.slice none 0 0],.bool false])) w':=
 ⟨_,ZAb,by unfold Dh;rw[h];exact Wq.none_ _ _ _,hb⟩
theorem AeQ{T g b1 b2 b3:Nat}{d xs w w5 vR vS vH vK}(h:Ka d xs=true)(hg:w.heap.size≤g)(h1:g<b1)(h2:g<b2)(h3:g<b3)
 (oR:own T b3 w5 vR (AhO d xs).round) (oS:own T b3 w5 vS (AhO d xs).strange) (oH:own T b2 w5 vH (AhO d xs).held) (oK:own T b1 w5 vK (AhO d xs).stuck)
 (ha:apart vR vS∧apart vR vH∧apart vR vK∧apart vS vH∧apart vS vK∧apart vH vK) (hb:Below w.heap.size w w5):
 Sy T d xs w (.returned (.tuple #[.agg #[vR,vS,vH,vK],.bool true])) ((((w5.setCell ⟨g,0,none⟩ vR).setCell ⟨g,1,none⟩ vS).setCell ⟨g,2,none⟩ vH).setCell ⟨g,3,none⟩ vK):=by
 have jm:∀{b:Nat} {v:Value} {ys:List Ltr},g<b→own T b w5 v ys→own T w.heap.size ((((w5.setCell ⟨g,0,none⟩ vR).setCell ⟨g,1,none⟩ vS).setCell ⟨g,2,none⟩ vH).setCell ⟨g,3,none⟩ vK) v ys:=fun ab ho=>
  (Bd (Bd (Bd (Bd ho ⟨g,0,none⟩ vR ab) ⟨g,1,none⟩ vS ab) ⟨g,2,none⟩ vH ab) ⟨g,3,none⟩ vK ab).base_ (iP (Nat.lt_of_le_of_lt hg ab))
 refine⟨_,ZAb,?_,Ai (Ai (Ai (Ai hb (p:=⟨g,0,none⟩) hg vR) (p:=⟨g,1,none⟩) hg vS) (p:=⟨g,2,none⟩) hg vH) (p:=⟨g,3,none⟩) hg vK⟩;unfold Dh;rw[aP h];exact⟨vR,vS,vH,vK,rfl,jm h3 oR,jm h3 oS,jm h2 oH,jm h1 oK,ha⟩
theorem Ap6(v vb d xs w)(hv:rdD w w.heap.size v d)(hb:rd w w.heap.size vb xs):
 Calls aB 129 #[v,vb] w (Sy 119 d xs w):=by
 refine' ZL8;go_enter Tryz.func129,Tryz.ntmps129
 refine' ZC;rw[←dc.out,←HW.out];refine(Xf _ d _ (HD.out.on lW)).mono ?_;refine' ZL9;refine(Cn _ xs _ (HB.out.on l1)).mono ?_;refine' ZMA;refine(AaB _ _ d.fwds xs _ (HF.out.on l2) (HB.out.on l2)).mono ?_;refine' ZMB;refine(Ah3 _ _ (E6 d.fwds xs) d.held _ OA.out.rd (HH.out.on l3)).mono ?_;refine' ZMC;refine(Y5 _ _ d.plan (Jf d.held (E6 d.fwds xs)) _ (HP.out.on l4) OF.out.rd).mono ?_;exact ZMD
theorem AnO(v vb d xs w)(hv:rdD w w.heap.size v d)(hb:rd w w.heap.size vb xs):
 Calls aB 34 #[v,vb] w (Sy 119 d xs w):=by
 refine' ZL8;go_enter Tryz.func34,Tryz.ntmps34
 refine' ZC;rw[←dc.out,←HW.out];refine(Xb _ d _ (HD.out.on lW)).mono ?_;refine' ZL9;refine(C6 _ xs _ (HB.out.on l1)).mono ?_;refine' ZMA;refine(Zi _ _ d.fwds xs _ (HF.out.on l2) (HB.out.on l2)).mono ?_;refine' ZMB;refine(Ah2 _ _ (E6 d.fwds xs) d.held _ OA.out.rd (HH.out.on l3)).mono ?_;refine' ZMC;refine(Y0 _ _ d.plan (Jf d.held (E6 d.fwds xs)) _ (HP.out.on l4) OF.out.rd).mono ?_;exact ZMD
theorem AjB{p}(hb:2≤p.bins){k xs x}:x∈Kr p k xs↔x∈xs∧0≤rkI p.order x.code:=by
 unfold Kr;rw[AhV];have h1:=Vz (p:=p) (c:=x.code) (k:=k) hb;have h2:=M2 p x.code k hb;constructor
 ·rintro⟨a,b,c⟩;exact⟨a,ZA⟩
 ·rintro⟨a,b⟩;exact⟨a,ZA,ZA⟩
theorem AcM{p}(hb:2≤p.bins):∀(n k:Nat) (xs:List Ltr) (x:Ltr),x∈Cd p k (n+1) xs↔x∈xs∧0≤rkI p.order x.code
 |0,k,xs,x=>AjB hb
 |n+1,k,xs,x=>by show x∈Cd p (k+1) (n+1) (Kr p k xs)↔_;rw[AcM hb n,AjB hb];exact⟨fun h=>h.1,fun h=>⟨h,h.2⟩⟩
theorem BbV{p xs}(h:M4 p xs=true)(x):x∈Dr p xs↔x∈xs∧0≤rkI p.order x.code:=by
 have hp:Bq p=true:=by unfold M4 at h;refine' ZBR;exact h.1
 have hb:=Dz hp;unfold Dr;rw[aP h];obtain⟨n,hn⟩:∃n,p.passes.toNat=n+1:=⟨p.passes.toNat - 1,ZA⟩;rw[hn];exact AcM hb.1 n 0 xs x
theorem As3{p xs}(h:M4 p xs=true):okB (Dr p xs)=true:=by unfold Dr;rw[aP h];unfold M4 at h;refine' ZBR;exact Pt p _ _ _ h.2
theorem BaB{p xs k ms}(h:Lo p xs k ms=true):okB (Fr p xs k ms)=true:=by unfold Fr;rw[aP h];exact Pt p _ _ _ (AdL _ _ (AcJ (Um.1 h).2.1))
theorem Qd{xs ys}(h:okB xs=true)(hs:ys.Sublist xs):okB ys=true:=by obtain⟨h1,h2,h3⟩:=Ke.1 h;have:=hs.length_le;exact Ke.2 ⟨ZA,fun x hx=>h2 x (hs.subset hx),h3.sublist hs⟩
theorem ArL{n}:Fp n=true↔1≤n∧n≤20:=by unfold Fp;rw[aN,bB,bB]
theorem ArR{fs}(h:Be fs=true){c}(hi:¬Gg fs c<0):Ap (Vt fs c)=true:=by
 obtain⟨k,hk⟩:=aQ (Int.not_lt.1 hi);have hr:=(AbC (fun x=>sEq x.src c) fs).2;have fu:fiI (fun x:Fwd=>sEq x.src c) fs=k:=hk;have hl:k<fs.length:=ZA
 rw[Ah6 hk hl];exact((Ch.1 h).2 k hl).2.1
theorem AcK{fs}(h:Be fs=true):∀(f:Nat) (c:ByteArray) (n:Nat),Ap c=true→(Gb fs f c n).2.2=true→Ap (Gb fs f c n).1=true∧Gg fs (Gb fs f c n).1<0
 |0,c,n,_,h1=>by simp[Gb]at h1
 |f+1,c,n,hc,h1=>by
  unfold Gb at h1⊢;by_cases hi:Gg fs c<0
  ·rw[aP hi];exact⟨hc,hi⟩
  ·rw[aL hi]at h1⊢
   exact AcK h f _ _ (ArR h hi) h1
theorem AgM{fs}(h:Be fs=true){c}(hc:Ap c=true)(h1:(Bc fs c).2.2=true):Ap (Bc fs c).1=true∧Gg fs (Bc fs c).1<0:=AcK h _ _ _ hc h1
theorem AzD{fs xs}(hf:Be fs=true)(hx:okB xs=true):okB (F9 fs xs)=true:=by
 obtain⟨h1,h2,h3⟩:=Ke.1 hx;refine Ke.2 ⟨?_,?_,?_⟩
 ·unfold F9
  refine' za;exact aG (bJ _ _) h1
 ·intro y hy
  unfold F9 at hy;refine' ZME;obtain⟨a,b,c⟩:=h2 x oV;exact⟨a,b,(AgM hf c AZ).1⟩
 ·unfold F9
  rw[gD];exact(h3.sublist dF).imp fun h=>h
theorem Rb{d xs}:Ka d xs=true↔(Bq d.plan=true∧Be d.fwds=true∧Ee d.held=true∧Fp d.size=true)∧okB xs=true:=by
 unfold Ka Mi;simp only[aN];constructor
 ·rintro⟨⟨⟨⟨a,b⟩,c⟩,e⟩,f⟩;exact⟨⟨a,b,c,e⟩,f⟩
 ·rintro⟨⟨a,b,c,e⟩,f⟩;exact⟨⟨⟨⟨a,b⟩,c⟩,e⟩,f⟩
theorem AuY{d xs}(h:Ka d xs=true):Ve d.fwds xs=true∧Qt d.held (E6 d.fwds xs)=true∧M4 d.plan (Jf d.held (E6 d.fwds xs))=true:=by
 obtain⟨⟨hp,hf,hh,_⟩,hx⟩:=Rb.1 h;have h1:Ve d.fwds xs=true:=by unfold Ve;rw[hf,hx];rfl
 have h2:Qt d.held (E6 d.fwds xs)=true:=by unfold Qt E6;rw[aP h1,AzD hf hx,hh];rfl
 refine⟨h1,h2,?_⟩;unfold M4 Jf;rw[aP h2,hp];have:okB (E6 d.fwds xs)=true:=by unfold Qt at h2;rw[aN]at h2;exact h2.1
 exact Qd this dF
theorem Ak3{d xs}(h:Ka d xs=true):Jf d.held (E6 d.fwds xs)=Kq d.held (F9 d.fwds xs)∧(Dh d xs).held=Ng d.held (F9 d.fwds xs)∧(Dh d xs).stuck=Lj d.fwds xs∧(Dh d xs).round=Dr d.plan (Kq d.held (F9 d.fwds xs))∧(Dh d xs).strange=Bn (fun x=>Dm d.plan x.code 0) (Kq d.held (F9 d.fwds xs))∧M4 d.plan (Kq d.held (F9 d.fwds xs))=true∧okB (F9 d.fwds xs)=true:=by
 obtain⟨h1,h2,h3⟩:=AuY h;have e1:E6 d.fwds xs=F9 d.fwds xs:=by unfold E6;rw[aP h1]
 have e2:Jf d.held (E6 d.fwds xs)=Kq d.held (F9 d.fwds xs):=by unfold Jf;rw[aP h2,e1]
 unfold Dh;rw[aP h];refine⟨e2,?_,?_,?_,?_,?_,?_⟩
 ·show Je _ _=_
  unfold Je;rw[aP h2,e1]
 ·show Gu _ _=_
  unfold Gu;rw[aP h1]
 ·show Dr _ _=_
  rw[e2]
 ·show Ha _ _=_
  unfold Ha;rw[aP h3,e2]
 ·rw[←e2];exact h3
 ·have:=h2;unfold Qt at this;rw[aN,e1]at this;exact this.1
theorem AbJ{d xs}(h:Ka d xs=true):okB (Dh d xs).round=true∧okB (Dh d xs).strange=true∧okB (Dh d xs).held=true∧okB (Dh d xs).stuck=true:=by obtain⟨_,e1,e2,e3,e4,h1,h2⟩:=Ak3 h;rw[e1,e2,e3,e4];have hf:okB (Kq d.held (F9 d.fwds xs))=true:=Qd h2 dF;exact⟨As3 h1,Qd hf dF,Qd h2 dF,Qd (Rb.1 h).2 dF⟩
def BaF(r:Rpt):List Ltr:=r.round++r.strange++r.held++r.stuck
theorem Sw{α:Type}(p:α→Bool)(xs:List α):(xs.filter p++xs.filter fun x=> !p x).Perm xs:=by
 induction xs with
 |nil=>exact .nil
 |cons x xs ih=>
  cases hp:p x
  ·simp only[gO,hp,Bool.not_false,if_true,iW,if_false]
   exact(jF).trans (ih.cons x)
  ·simp only[gO,hp,Bool.not_true,if_true,iW,if_false,dB]
   exact ih.cons x
theorem Az2{fs xs}:(F9 fs xs).map Ltr.id=(xs.filter fun x=>(Bc fs x.code).2.2).map Ltr.id:=by unfold F9;rw[gX];rfl
theorem AqB{xs ys}(hx:okB xs=true)(hy:okB ys=true)(h:∀x,x∈xs↔x∈ys):xs.Perm ys:=by
 have jm:∀{zs:List Ltr},okB zs=true→zs.Nodup:=fun{zs} hz=>(Ke.1 hz).2.2.imp fun{a b} ou e=>ou (by rw[e])
 exact(List.perm_ext_iff_of_nodup (jm hx) (jm hy)).2 h
theorem Bb2{d xs}(h:Ka d xs=true):((BaF (Dh d xs)).map Ltr.id).Perm (xs.map Ltr.id):=by
 obtain⟨_,e1,e2,e3,e4,h1,h2⟩:=Ak3 h;obtain⟨⟨hp,hf,hh,hs⟩,hb⟩:=Rb.1 h;have hpb:=Dz hp;have hF:okB (Kq d.held (F9 d.fwds xs))=true:=Qd h2 dF;unfold BaF;rw[e1,e2,e3,e4];obtain⟨F,IW⟩:∃F,F=Kq d.held (F9 d.fwds xs):=⟨_,rfl⟩;rw[←IW]at h1 hF⊢;have hR:(Dr d.plan F++Bn (fun x=>Dm d.plan x.code 0) F).Perm F:=by
  have lD:(Dr d.plan F).Perm (F.filter fun x=>decide (0≤rkI d.plan.order x.code)):=AqB (As3 h1) (Qd hF dF) fun x=>by rw[BbV h1,List.mem_filter,bB]
  have mH:Bn (fun x=>Dm d.plan x.code 0) F=F.filter fun x=> !decide (0≤rkI d.plan.order x.code):=by
   unfold Bn
   congr 1
   funext x
   have hb:Dm d.plan x.code 0<0↔rkI d.plan.order x.code<0:=Vz hpb.1;rw[←decide_not];refine decide_eq_decide.2 ?_;show Dm d.plan x.code 0<0↔_;omega
  rw[mH];exact(lD.append_right _).trans (Sw _ F)
 have hH:(F++Ng d.held (F9 d.fwds xs)).Perm (F9 d.fwds xs):=by rw[IW];exact Sw _ _
 have hS:((Dr d.plan F++Bn (fun x=>Dm d.plan x.code 0) F++Ng d.held (F9 d.fwds xs)).map Ltr.id).Perm ((F9 d.fwds xs).map Ltr.id):=((hR.append_right _).trans hH).map _;rw[cQ];refine(hS.append_right _).trans ?_;rw[Az2,←cQ];exact(Sw _ _).map _
theorem AjJ{xs:List Ltr}:(xs.Pairwise fun x y=>x.id≠y.id)↔(xs.map Ltr.id).Nodup:=by unfold List.Nodup;rw[gD]
theorem AzU{d xs}(h:Ka d xs=true):okB (BaF (Dh d xs))=true:=by
 have hp:=Bb2 h;obtain⟨o1,o2,o3,o4⟩:=AbJ h;obtain⟨h1,h2,h3⟩:=Ke.1 (Rb.1 h).2;refine Ke.2 ⟨?_,?_,?_⟩
 ·have:=hp.length_eq
  rw[bF,bF]at this;omega
 ·intro x hx
  unfold BaF at hx;rcases List.mem_append.1 hx with hx|hx
  ·rcases List.mem_append.1 hx with hx|hx
   ·rcases List.mem_append.1 hx with hx|hx
    ·exact(Ke.1 o1).2.1 x hx
    ·exact(Ke.1 o2).2.1 x hx
   ·exact(Ke.1 o3).2.1 x hx
  ·exact(Ke.1 o4).2.1 x hx
 ·rw[AjJ,hp.nodup_iff,←AjJ]
  exact h3
def AmJ(fs:List Fwd):List Fwd:=(fs.filter fun x=>(Bc fs x.src).2.2).map fun x=>⟨x.src,(Bc fs x.src).1⟩
theorem Wi{fs}:Be fs=true↔fs.length≤30∧(∀x∈fs,Ap x.src=true∧Ap x.dst=true)∧fs.Pairwise fun x y=>x.src≠y.src:=by
 rw[Ch,dG];constructor
 ·rintro⟨h1,h2⟩
  refine⟨h1,fun x hx=>?_,fun i j hi hj pU=>(h2 j hj).2.2 i pU⟩;refine' ZAZ;exact⟨(h2 k hk).1,(h2 k hk).2.1⟩
 ·rintro⟨h1,h2,h3⟩
  exact⟨h1,fun k hk=>⟨(h2 _ (aU hk)).1,(h2 _ (aU hk)).2,fun j hj=>h3 j k ZA hk hj⟩⟩
theorem An5{fs gs}(h:Be fs=true)(hp:fs.Perm gs):Be gs=true:=by obtain⟨h1,h2,h3⟩:=Wi.1 h;exact Wi.2 ⟨by rw[←hp.length_eq];exact h1,fun x hx=>h2 x (hp.mem_iff.2 hx),hp.pairwise h3 (fun ou e=>ou e.symm)⟩
theorem ArY{fs}(h:Be fs=true):Be (AmJ fs)=true:=by
 obtain⟨h1,h2,h3⟩:=Wi.1 h;unfold AmJ;refine Wi.2 ⟨?_,?_,?_⟩
 ·refine' za;exact aG (bJ _ _) h1
 ·intro y hy
  refine' ZME;exact⟨(h2 x oV).1,(AgM h (h2 x oV).1 AZ).1⟩
 ·rw[gD]
  exact(h3.sublist dF).imp fun h=>h
section
variable{T1 T2 lo hi:Nat}{w w':World}{vB vO:Value}{xss:List (List Ltr)}{ys:List Ltr}
end
end Go.Proofs.YtfadhdacjpmmeaaGreatDoor
