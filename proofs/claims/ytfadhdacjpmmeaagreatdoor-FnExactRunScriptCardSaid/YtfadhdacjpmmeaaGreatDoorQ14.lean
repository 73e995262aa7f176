/- Parts. -/
import Derived.Test.YtfadhdacjpmmeaaGreatDoorQ12
set_option linter.unusedVariables false
set_option linter.unusedSimpArgs false
namespace Go.Proofs.YtfadhdacjpmmeaaGreatDoor
set_option maxRecDepth 100000
set_option maxHeartbeats 1600000
open Go.IntKind renaming i64→aI
open Go.Obj renaming cells→aC
open Go.Proofs.Tryz renaming prog→aB
open Go.Value renaming string→aK,int→bC
open Go.RowKit
def AeR(rs:List Int)(i:Nat):Nat:=match rs[i]? with|none=>0|some r=>if r<0 then 0 else Gf (Hd (rs.take i)) r.toNat+1
theorem ApE{rs i}(h:i<rs.length)(hr:rs[i]<0):AeR rs i=0:=by unfold AeR;rw[aR h];simp[hr]
theorem Rq{rs i}(h:i<rs.length){r:Nat}(hr:rs[i]=(r:Int)):AeR rs i=Gf (Hd (rs.take i)) r+1:=by unfold AeR;rw[aR h];simp only[hr];rw[aL ZA,bE]
theorem BaG{rs:List Int}{m}(h:m<rs.length)(hr:rs[m]<0)(n):Gf (Hd (rs.take (m+1))) n=Gf (Hd (rs.take m)) n:=by rw[Rt rs m h,AbZ hr]
theorem AzS{rs m}(h:m<rs.length){r:Nat}(hr:rs[m]=(r:Int))(n):Gf (Hd (rs.take (m+1))) n=if r≤n then max (Gf (Hd (rs.take m)) n) (AeR rs m)else Gf (Hd (rs.take m)) n:=by rw[Rt rs m h,hr,AbH,Xn,Rq h hr]
theorem AxA{rs:List Int}{m}(h:m<rs.length)(hr:rs[m]<0):Kg (Hd (rs.take (m+1)))=Kg (Hd (rs.take m)):=by rw[Rt rs m h,AbZ hr]
theorem AwP{rs m}(h:m<rs.length){r:Nat}(hr:rs[m]=(r:Int)):Kg (Hd (rs.take (m+1)))=max (Kg (Hd (rs.take m))) (AeR rs m):=by rw[Rt rs m h,hr,AbH,X9,Rq h hr]
def oR(rs:List Int)(k j:Nat):Nat:=if j<k then AeR rs j else 0
def iR(rs:List Int)(i m n j:Nat):Nat:=if j<i then AeR rs j else if j=i then Gf (Hd (rs.take m)) n+1 else 0
theorem BbC(rs):oR rs 0=fun _=>0:=by funext j;simp[oR]
theorem Bb7{rs k}(h:k<rs.length)(hr:rs[k]<0):oR rs (k+1)=oR rs k:=by
 funext j
 unfold oR;by_cases h1:j<k
 ·rw[aP ZA,aP h1]
 ·by_cases h2:j=k
  ·subst h2;rw[aP ZA,aL h1,ApE h hr]
  ·rw[aL ZA,aL h1]
theorem AwV(rs i n N):(N4 (oR rs i) N).set i 1=N4 (iR rs i 0 n) N:=by
 have h:((1:Nat):Int)=1:=rfl;rw[←h,Ah5];refine Xt fun j _=>?_
 unfold oR iR;by_cases h2:i=j
 ·subst h2;rw[aP rfl,aL ZA,aP rfl];rfl
 ·rw[aL h2]
  by_cases h1:j<i
  ·rw[aP h1,aP h1]
  ·rw[aL h1,aL h1,aL ZA]
theorem BcG{rs i}(h:i<rs.length){n:Nat}(hr:rs[i]=(n:Int)):iR rs i i n=oR rs (i+1):=by
 funext j
 unfold oR iR;by_cases h1:j<i
 ·rw[aP h1,aP ZA]
 ·rw[aL h1]
  by_cases h2:j=i
  ·subst h2;rw[aP rfl,aP ZA,Rq h hr]
  ·rw[aL h2,aL ZA]
theorem BbJ(rs i m n):iR rs i m n i=Gf (Hd (rs.take m)) n+1:=by unfold iR;rw[aL ZA,aP rfl]
theorem BcV{rs i m n j}(h:j<i):iR rs i m n j=AeR rs j:=by unfold iR;rw[aP h]
theorem AtJ{rs i m n}(h:Gf (Hd (rs.take (m+1))) n=Gf (Hd (rs.take m)) n):iR rs i (m+1) n=iR rs i m n:=by funext j;unfold iR;rw[h]
theorem Ba5{rs i m n}(N){t}(h:Gf (Hd (rs.take (m+1))) n+1=t):(N4 (iR rs i m n) N).set i (t:Int)=N4 (iR rs i (m+1) n) N:=by
 rw[Ah5];refine Xt fun j _=>?_
 unfold iR;by_cases h2:i=j
 ·subst h2;rw[aP rfl,aL ZA,aP rfl,h]
 ·rw[aL h2]
  by_cases h1:j<i
  ·rw[aP h1,aP h1]
  ·rw[aL h1,aL h1,aL ZA,aL ZA]
theorem AwX{T base g n c:Nat}{w xs}(h:own T base w (.slice (some ⟨g,0,none⟩) n c) xs)(k)(hk:k<xs.length):w.cell? ⟨g,k,none⟩=some (.int .i64 xs[k]):=by refine' ZDO;obtain⟨b,o,hA,_,_,c1⟩:=pB.int k hk;refine' ZDP;rw[bW]at c1;exact c1
theorem Yy{T base gb n c N:Nat}{w}{g:Nat→Nat}(h:own T base w (.slice (some ⟨gb,0,none⟩) n c) (N4 g N))(k)(hk:k<N):w.cell? ⟨gb,k,none⟩=some (.int .i64 (g k:Nat)):=by
 have:=AwX h k (by rw[Gp];exact hk)
 rwa [J4]at this
theorem AlB{v xs c r w}(hv:rd w w.heap.size v xs)(h:rkI xs c=r):
 Calls aB 161 #[v,.string c] w fun e w'=>e=.returned (.int .i64 r)∧w=w':=by rw[←h];exact Lw v xs c w hv
theorem AbW(v vb p xs w)(hv:rdP w w.heap.size v p)(hb:rd w w.heap.size vb xs)(hl:xs.length≤1048576):
 Calls aB 76 #[v,vb] w fun e w'=>e=.returned (.int .i64 (Jh p xs))∧Below w.heap.size w w':=by
 obtain⟨vo,hvv,jO,kP,i7⟩:=hv;obtain⟨Ao,no,mF,rfl,k7,sw,rr,CO⟩:=i7;subst k7;obtain⟨w0,ac⟩:∃w0,w0=w.alloc (aC #[bC aI p.bins,bC aI p.passes,Value.slice Ao p.order.length mF] 30):=⟨_,rfl⟩;obtain⟨hw,bf⟩:=Aw ac;have kW:w0.heap.size=w.heap.size+1:=by subst ac;simp
 have ev:=aA ((show rdP w w.heap.size v p from⟨_,hvv,jO,kP,_,_,_,rfl,rfl,sw,rr,CO⟩).on hw);have bg:=aA (hb.on hw);have wW:=aA ((show rd w w.heap.size (.slice Ao p.order.length mF) p.order from⟨_,_,_,rfl,rfl,sw,rr,CO⟩).on hw);subst hvv;have p2:=Af ac 2 (.slice Ao p.order.length mF) rfl;obtain⟨A,n,cp,rfl,hn,hc,hm,hr⟩:=hb;subst hn;unfold maxLen at hm rr;have HR:=aA (hr.on hw);clear hr CO;refine' ZDs;have ez:=Ed (P:=aB) 61 3 i0 _ iI hi ah xs.length zf ZA;have P2:=aA p2;clear p2;have HW:=aA hw;clear hw;have HWZ:=aA kW;clear kW;refine' zX;clear ac;go_enter Tryz.func76,Tryz.ntmps76
 refine' zD;clear ez hi ah aw aq i0;have ho:=AkA w0 xs.length w0.heap.size (aD _) ZN;have lz:Below w0.heap.size w0 (w0.alloc (aC (madeCells #[.int .i64 0] xs.length) 3)):=(aF _ _).alloc (aD _) _;rw[HWZ.out]at ho;generalize(w0.alloc (aC (madeCells #[.int .i64 0] xs.length) 3))=wz at *;have ky:=aA ho;clear ho;refine(Ok _ _ p xs _ (ev.out.on lz) (bg.out.on lz)).mono ?_;refine' ZT;have l1:=Aa lz b1;have lu:=aA (ky.out.below b1);clear b1 lz ky;cases hx:(Bq p&&okB xs)
 ·have HX:=aA hx;clear hx
  refine' ZI;exact⟨Bo (by unfold Jh;rw[HX.out];rfl),Aa HW.out l1⟩
 have HX:=aA hx;rw[aN]at hx;have lG:=(Ep.1 hx.2).1;clear hx;obtain⟨rs,wI,HRG,HKI⟩:∃rs:List Int,rs.length=xs.length∧Hid (∀k (h:k<xs.length) (h':k<rs.length),rs[k]=rkI p.order xs[k].code)∧Hid (Jh p xs=(Kg (Hd rs):Nat)):=
  ⟨Gt p xs,Vx p xs,fun k h _=>AlA p xs k h,by show _=_;unfold Jh AgR;rw[HX.out];rfl⟩
 have rJ:=aA wI;clear wI;generalize yz:w.heap.size+1=gk at *;have CP:w0.heap.size≤gk:=eJ HWZ.out;clear yz;have p2:=P2.out;clear P2
 refine' ZC;go_loopw[5,7] (fun t i wr=>∃k:Nat,k≤xs.length∧i=.int .i64 k∧t=.int .i64 (Kg (Hd (rs.take k)):Nat)∧Below w0.heap.size w0 wr∧own 3 gk wr (.slice (some ⟨gk,0,none⟩) xs.length xs.length) (N4 (oR rs k) xs.length)) (fun _ i _=>xs.length - (intOf i).toNat)
 case atStart=>exact⟨0,aM _,rfl,rfl,l1,by rw[BbC];exact lu.out⟩
 case round=>
  obtain⟨k,hk,rfl,rfl,lr,ho⟩:=hrel;refine' zl;refine' zZ;clear ho l1 lu;by_cases ab:k<xs.length
  ·obtain⟨b,o,rfl,hb,⟨⟨o1,o2⟩,o3⟩,c1,c2⟩:=HR.out.ltrU k ab
   have fy:(k:Int)<(xs.length:Int):=ZA
   have mD:Hid (k<rs.length):=by show _<_;rw[rJ.out];exact ab
   have UF:=HRG.out k ab mD.out;refine' zp;refine' ZO9;rw[pE.out]at UF ce;have uC:=aA UF;clear UF;have C1:=aA (fun n=>AlB ((wW.out.on lr).on (Ba (aF _ _) n)) pE.out);by_cases az:r<0
   ·have HE1:=aA (Bb7 mD.out (by rw[uC.out];exact az))
    have wQ:=aA (AxA mD.out (by rw[uC.out];exact az));go_wp2
    go_quiet (first|(go_at_call 161;exact ZBB))
    go_wp2
    go_roundw
    case rel=>exact⟨k+1,ZA,ZJ,by rw[wQ.out],Cx lr _,by rw[HE1.out];exact HO.out.below (Ba (aF _ _) _)⟩
    case measure=>exact ZK
   refine' ZIM;have g0:=Yy HO.out k ab;have f0:=HO.out.freeAt k;have HS:=aA (fun n=>Su (HO.out.below (Ba (aF _ _) n)) (k:=k) (by rw[Gp];exact ab) 1 zL);go_wp2
   go_quiet (first|(go_at_call 161;exact ZBB))
   go_wp2;have l3:Below w0.heap.size w0 ((w2.drewN nq).setCell ⟨gk,k,none⟩ (.int .i64 1)):=Ai (Cx lr _) CP _;have UG:=HS.out nq;rw[AwV rs k q]at UG;generalize((w2.drewN nq).setCell ⟨gk,k,none⟩ (.int .i64 1))=w3 at *;have fg:=aA UG;clear UG HS g0 f0
   go_loopw[9] (fun t wi=>∃m:Nat,m≤k∧t=.int .i64 m∧Below w0.heap.size w0 wi∧own 3 gk wi (.slice (some ⟨gk,0,none⟩) xs.length xs.length) (N4 (iR rs k m q) xs.length)) (fun t _=>k - (intOf t).toNat)
   case atStart=>exact⟨0,aM _,rfl,l3,fg.out⟩
   case round=>
    obtain⟨m,hm,rfl,li,oi⟩:=hrel;obtain⟨wi,rfl⟩:∃wi:World,wi=wr:=⟨_,rfl⟩;have ql:=aA oi;clear oi l3;by_cases ez:m<k
    ·obtain⟨b',o',hA,_,⟨_,o4⟩,d1,d2⟩:=HR.out.ltrU m ZA
     refine' ZAr;have qS:(m:Int)<(xs.length:Int):=ZA
     have CQ:Hid (m<rs.length):=by show _<_;rw[rJ.out];omega
     have uW:=HRG.out m ZA CQ.out;generalize xs[m]=y at *;obtain⟨r2,KI⟩:∃r,Hid (rkI p.order y.code=r):=⟨_,rfl⟩;rw[KI.out]at uW;have CI:=aA uW;clear uW;have C2:=aA (fun n=>AlB ((wW.out.on li).on (Ba (aF _ _) n)) KI.out);have q1:=Yy ql.out m ZA;have q2:=Yy ql.out k ab;have f2:=ql.out.freeAt k;rw[BcV ez]at q1;rw[BbJ]at q2;obtain⟨a,HA⟩:∃a,Hid (AeR rs m=a):=⟨_,rfl⟩;obtain⟨t,HT⟩:∃t,Hid (Gf (Hd (rs.take m)) q=t):=⟨_,rfl⟩;rw[HA.out]at q1;rw[HT.out]at q2;by_cases kq:r2<0
     ·have ha:a=0:=by rw[←HA.out];exact ApE CQ.out (by rw[CI.out];exact kq)
      subst ha;have HE:=aA (AtJ (i:=k) (BaG CQ.out (by rw[CI.out];exact kq) q));refine' YP;exact ZPD
     obtain⟨s,rfl⟩:=aQ (show 0≤r2 by omega);have ha:0<a:=by rw[←HA.out,Rq CQ.out CI.out];omega
     have DG:=aA (AzS CQ.out CI.out q);by_cases sQ:s≤q
     ·have ou:Hid (a≤xs.length):=by show _≤_;rw[←HA.out,Rq CQ.out CI.out];have:=(Pv (rs.take m) s).1;rw[bH]at this;omega
      have UH:Hid (Gf (Hd (rs.take (m+1))) q=max t a):=by show _=_;rw[DG.out,aP sQ,HT.out,HA.out]
      have hab':a≤60:=by have:=ou.out;omega
      have HE:=aA (Ba5 (i:=k) (t:=max t a+1) xs.length (by rw[UH.out]));have htb:t≤60:=by have:=(Pv (rs.take m) q).1;rw[bH]at this;rw[←HT.out];omega
      by_cases hta:t<a
      ·refine' ZPE;have HS:=aA (Su (UI.out.drew) (k:=k) (by rw[Gp];exact ab) ((a:Int)+1) zL);go_wp2
       go_roundw
       case rel=> refine⟨m+1,ZA,ZJ,Ai (Ag lw) CP _,?_⟩;rw[←HE.out,show((max t a+1:Nat):Int)=(a:Int)+1 by omega];exact HS.out
       case measure=>exact ZK
      ·refine' ZPE;have HS:=aA (Su (UI.out.drew) (k:=k) (by rw[Gp];exact ab) ((t:Int)+1) zL);go_wp2
       go_roundw
       case rel=> refine⟨m+1,ZA,ZJ,Ai (Ag lw) CP _,?_⟩;rw[←HE.out,show((max t a+1:Nat):Int)=(t:Int)+1 by omega];exact HS.out
       case measure=>exact ZK
     ·have HE:=aA (AtJ (i:=k) (show Gf (Hd (rs.take (m+1))) q=Gf (Hd (rs.take m)) q by rw[DG.out,aL sQ]))
      go_wp2
      go_quiet (first|(go_at_call 161;refine Da (C2.out _)))
      exact ZPD
    ·have HE:=aA (show m=k by omega)
     have q2:=Yy ql.out k ab;rw[BbJ]at q2;have HB:=aA (AwP mD.out uC.out);have HIE:=aA (BcG mD.out uC.out);have HLK:Hid (AeR rs k=Gf (Hd (rs.take m)) q+1):=by show _=_;rw[HE.out,Rq mD.out uC.out]
     obtain⟨t,HT⟩:∃t,Hid (Gf (Hd (rs.take m)) q=t):=⟨_,rfl⟩;have kM:Hid (own 3 gk wi (.slice (some ⟨gk,0,none⟩) xs.length xs.length) (N4 (oR rs (k+1)) xs.length)):=by have h:=ql.out;rw[HE.out,HIE.out]at h;exact h
     have kS:Hid (Kg (Hd (rs.take (k+1)))=max (Kg (Hd (rs.take k))) (t+1)):=by show _=_;rw[HB.out,HLK.out,HT.out]
     rw[HT.out]at q2;generalize Kg (Hd (rs.take k))=m2 at *;by_cases xP:(m2:Int)<(t:Int)+1
     exact ZPF;exact ZPF
  ·refine' YD;have HF:Hid (Jh p xs=(Kg (Hd (rs.take k)):Nat)):=by show _=_;rw[HKI.out,HE.out,←rJ.out,aY]
   generalize Kg (Hd (rs.take k))=m at *;refine' ZO;exact⟨Bo HF.out.symm,Aa HW.out lr⟩
theorem AaX(v vb p xs w)(hv:rdP w w.heap.size v p)(hb:rd w w.heap.size vb xs)(hl:xs.length≤1048576):
 Calls aB 29 #[v,vb] w fun e w'=>e=.returned (.int .i64 (F5 p xs))∧Below w.heap.size w w':=by
 refine' ZPB;go_enter Tryz.func29,Tryz.ntmps29
 refine' ZC;refine(AbW _ _ p xs _ (ev.out.on HB.out) (bg.out.on HB.out) hl).mono ?_;exact ZPC
end Go.Proofs.YtfadhdacjpmmeaaGreatDoor
