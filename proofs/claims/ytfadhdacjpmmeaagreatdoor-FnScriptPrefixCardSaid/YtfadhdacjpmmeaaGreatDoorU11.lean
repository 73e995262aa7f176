/- Parts. -/
import Derived.Test.YtfadhdacjpmmeaaGreatDoorU10
set_option linter.unusedVariables false
set_option linter.unusedSimpArgs false
set_option maxRecDepth 100000
set_option maxHeartbeats 16000000
open Go.Proofs.Tryz
open Go renaming madeCells->bF
open Go.IntKind renaming i64->aD
open Go.Obj renaming cells->aB
open Go.Value renaming string->aG,int->aH
namespace Go.Proofs.YtfadhdacjpmmeaaGreatDoor
open Go.RowKit
def jA(rs:List Int)(i:Nat):Nat:=match rs[i]? with|none=>0|some r=>if r<0 then 0 else Gf (Hd (rs.take i)) r.toNat+1
theorem ApE{rs i}(h:i<rs.length)(hr:rs[i]<0):jA rs i=0:=by unfold jA;rw[aR h];simp[hr]
theorem Rq{rs i}(h:i<rs.length){r:Nat}(hr:rs[i]=(r:Int)):jA rs i=Gf (Hd (rs.take i)) r+1:=by unfold jA;rw[aR h];simp only[hr];rw[aM ZA,bE]
theorem BaG{rs:List Int}{m}(h:m<rs.length)(hr:rs[m]<0)(n):Gf (Hd (rs.take (m+1))) n=Gf (Hd (rs.take m)) n:=by rw[Rt rs m h,AbZ hr]
theorem AzS{rs m}(h:m<rs.length){r:Nat}(hr:rs[m]=(r:Int))(n):Gf (Hd (rs.take (m+1))) n=if r<=n then max (Gf (Hd (rs.take m)) n) (jA rs m)else Gf (Hd (rs.take m)) n:=by rw[Rt rs m h,hr,AbH,ZEO,Rq h hr]
theorem AxA{rs:List Int}{m}(h:m<rs.length)(hr:rs[m]<0):Kg (Hd (rs.take (m+1)))=Kg (Hd (rs.take m)):=by rw[Rt rs m h,AbZ hr]
theorem AwP{rs m}(h:m<rs.length){r:Nat}(hr:rs[m]=(r:Int)):Kg (Hd (rs.take (m+1)))=max (Kg (Hd (rs.take m))) (jA rs m):=by rw[Rt rs m h,hr,AbH,ZAp,Rq h hr]
def oR(rs:List Int)(k j:Nat):Nat:=if j<k then jA rs j else 0
def iR(rs:List Int)(i m n j:Nat):Nat:=if j<i then jA rs j else if j=i then Gf (Hd (rs.take m)) n+1 else 0
theorem BbC(rs):oR rs 0=fun _=>0:=by funext j;simp[oR]
theorem Bb7{rs k}(h:k<rs.length)(hr:rs[k]<0):oR rs (k+1)=oR rs k:=by
 funext j
 unfold oR;by_cases h1:j<k
 .rw[aQ ZA,aQ h1]
 .by_cases h2:j=k
  .subst h2;rw[aQ ZA,aM h1,ApE h hr]
  .rw[aM ZA,aM h1]
theorem AwV(rs i n N):(N4 (oR rs i) N).set i 1=N4 (iR rs i 0 n) N:=by
 have h:((1:Nat):Int)=1:=rfl;rw[<-h,Ah5];refine ZBk fun j _=>?_
 unfold oR iR;by_cases h2:i=j
 .subst h2;rw[aQ rfl,aM ZA,aQ rfl];rfl
 .rw[aM h2]
  by_cases h1:j<i
  .rw[aQ h1,aQ h1]
  .rw[aM h1,aM h1,aM ZA]
theorem BcG{rs i}(h:i<rs.length){n:Nat}(hr:rs[i]=(n:Int)):iR rs i i n=oR rs (i+1):=by
 funext j
 unfold oR iR;by_cases h1:j<i
 .rw[aQ h1,aQ ZA]
 .rw[aM h1]
  by_cases h2:j=i
  .subst h2;rw[aQ rfl,aQ ZA,Rq h hr]
  .rw[aM h2,aM ZA]
theorem BbJ(rs i m n):iR rs i m n i=Gf (Hd (rs.take m)) n+1:=by unfold iR;rw[aM ZA,aQ rfl]
theorem BcV{rs i m n j}(h:j<i):iR rs i m n j=jA rs j:=by unfold iR;rw[aQ h]
theorem AtJ{rs i m n}(h:Gf (Hd (rs.take (m+1))) n=Gf (Hd (rs.take m)) n):iR rs i (m+1) n=iR rs i m n:=by funext j;unfold iR;rw[h]
theorem Ba5{rs i m n}(N){t}(h:Gf (Hd (rs.take (m+1))) n+1=t):(N4 (iR rs i m n) N).set i (t:Int)=N4 (iR rs i (m+1) n) N:=by
 rw[Ah5];refine ZBk fun j _=>?_
 unfold iR;by_cases h2:i=j
 .subst h2;rw[aQ rfl,aM ZA,aQ rfl,h]
 .rw[aM h2]
  by_cases h1:j<i
  .rw[aQ h1,aQ h1]
  .rw[aM h1,aM h1,aM ZA,aM ZA]
theorem AwX{T base g n c:Nat}{w xs}(h:own T base w (.slice (P_ g) n c) xs)(k)(hk:k<xs.length):w.cell? ⟨g,k,none⟩=some (.int .i64 xs[k]):=by refine' Rj;obtain⟨b,o,hA,_,_,c1⟩:=nU.int k hk;refine' V0;rw[bV]at c1;exact c1
theorem ZB7{T base gb n c N:Nat}{w}{g:Nat->Nat}(h:own T base w (.slice (P_ gb) n c) (N4 g N))(k)(hk:k<N):w.cell? ⟨gb,k,none⟩=some (.int .i64 (g k:Nat)):=by
 have:=AwX h k (by rw[Gp];exact hk)
 rwa [J4]at this
theorem AlB{v xs c r w}(hv:R_ w v xs)(h:y6 xs c=r):
 ya 161 #[v,.string c] w (.int .i64 r):=ZNU
theorem AbW(v vb p xs w)(hv:rdP w w.heap.size v p)(hb:R_ w vb xs)(hl:xs.length<=1048576):
 C_ 76 #[v,vb] w (.int .i64 (Jh p xs)):=by
 obtain⟨vo,hvv,km,lI,jv⟩:=hv;obtain⟨Ao,no,og,rfl,mq,tx,rz,GX⟩:=jv;subst mq;obtain⟨w0,ac⟩:∃w0,w0=w.alloc (aB #[aH aD p.bins,aH aD p.passes,Value.slice Ao p.order.length og] 30):=⟨_,rfl⟩;obtain⟨hw,bj⟩:=Aw ac;have mh:w0.heap.size=w.heap.size+1:=by subst ac;simp
 have fg:=aA ((show rdP w w.heap.size v p from⟨_,hvv,km,lI,_,_,_,rfl,rfl,tx,rz,GX⟩).on hw);have br:=aA (hb.on hw);have yZ:=aA ((show R_ w (.slice Ao p.order.length og) p.order from⟨_,_,_,rfl,rfl,tx,rz,GX⟩).on hw);subst hvv;have p2:=Af ac 2 (.slice Ao p.order.length og) rfl;refine' ZSG;have HR:=aA (hr.on hw);clear hr GX;refine' ZGA;have fo:=Ed (P:=Tryz.prog) 61 3 i0 _ iP hi ah xs.length zi ZA;have P2:=aA p2;clear p2;have HW:=aA hw;clear hw;have HWZ:=aA mh;clear mh;refine' zT;clear ac;go_enter func76,ntmps76
 refine' zG;clear fo hi ah ar ap i0;have ho:=AkA w0 xs.length w0.heap.size (aC _) ZN;have lz:B_ w0 (w0.alloc (aB (bF #[.int .i64 0] xs.length) 3)):=(aF _ _).alloc (aC _) _;rw[HWZ.out]at ho;generalize(w0.alloc (aB (bF #[.int .i64 0] xs.length) 3))=wz at *;have lL:=aA ho;clear ho;refine(Ok _ _ p xs _ (fg.out.on lz) (br.out.on lz)).mono ?_;refine' ZU;have l1:=Aa lz b1;have mH:=aA (lL.out.below b1);clear b1 lz lL;cases hx:(Bq p&&z_ xs)
 .have HX:=aA hx;clear hx
  refine' ZI;exact⟨Bo (by unfold Jh;rw[HX.out];rfl),Aa HW.out l1⟩
 have HX:=aA hx;rw[aO]at hx;have kw:=(Ep.1 hx.2).1;clear hx;obtain⟨rs,yE,HRG,HKI⟩:∃rs:List Int,rs.length=xs.length/\Hid (∀k (h:k<xs.length) (h':k<rs.length),rs[k]=y6 p.order xs[k].code)/\Hid (Jh p xs=(Kg (Hd rs):Nat)):=
  ⟨Gt p xs,ZDo p xs,fun k h _=>AlA p xs k h,by show _=_;unfold Jh Xg;rw[HX.out];rfl⟩
 have qg:=aA yE;clear yE;generalize DN:w.heap.size+1=gk at *;have GY:w0.heap.size<=gk:=eS HWZ.out;clear DN;have p2:=P2.out;clear P2
 refine' ZC;go_loopw[5,7] (fun t i wr=>∃k:Nat,k<=xs.length/\i=.int .i64 k/\t=.int .i64 (Kg (Hd (rs.take k)):Nat)/\B_ w0 wr/\own 3 gk wr (.slice (P_ gk) xs.length xs.length) (N4 (oR rs k) xs.length)) (fun _ i _=>xs.length - (intOf i).toNat)
 case atStart=>exact⟨0,aN _,rfl,rfl,l1,by rw[BbC];exact mH.out⟩
 case round=>
  obtain⟨k,hk,rfl,rfl,lr,ho⟩:=hrel;refine' zO;refine' zY;clear ho l1 mH;by_cases ab:k<xs.length
  .obtain⟨b,o,rfl,hb,⟨⟨o1,o2⟩,o3⟩,c1,c2⟩:=HR.out.ltrU k ab
   have gq:(k:Int)<(xs.length:Int):=ZA
   have ob:Hid (k<rs.length):=by{show _<_;rw[qg.out];exact ab};have hrg:=HRG.out k ab ob.out;refine' zu;refine' ZSH;rw[qe.out]at hrg cj;have xh:=aA hrg;clear hrg;have C1:=aA (fun n=>AlB ((yZ.out.on lr).on (Ba (aF _ _) n)) qe.out);by_cases bc:r<0
   .have HE1:=aA (Bb7 ob.out (by rw[xh.out];exact bc))
    have yT:=aA (AxA ob.out (by rw[xh.out];exact bc));go_wp2
    go_quiet (first|(go_at_call 161;exact Y9))
    go_wp2
    go_roundw
    case rel=>exact⟨k+1,ZA,ZJ,by rw[yT.out],Cx lr _,by rw[HE1.out];exact HO.out.below (Ba (aF _ _) _)⟩
    case measure=>exact ZK
   refine' ZJk;have g0:=ZB7 HO.out k ab;have f0:=HO.out.freeAt k;have HS:=aA (fun n=>ZD0 (HO.out.below (Ba (aF _ _) n)) (k:=k) ZJl 1 ZS);go_wp2
   go_quiet (first|(go_at_call 161;exact Y9))
   go_wp2;have l3:B_ w0 ((w2.drewN nq).setCell ⟨gk,k,none⟩ (.int .i64 1)):=Ai (Cx lr _) GY _;have o3':=HS.out nq;rw[AwV rs k q]at o3';generalize((w2.drewN nq).setCell ⟨gk,k,none⟩ (.int .i64 1))=w3 at *;have ez:=aA o3';clear o3' HS g0 f0
   go_loopw[9] (fun t wi=>∃m:Nat,m<=k/\t=.int .i64 m/\B_ w0 wi/\own 3 gk wi (.slice (P_ gk) xs.length xs.length) (N4 (iR rs k m q) xs.length)) (fun t _=>k - (intOf t).toNat)
   case atStart=>exact⟨0,aN _,rfl,l3,ez.out⟩
   case round=>
    obtain⟨m,hm,rfl,li,oi⟩:=hrel;obtain⟨wi,rfl⟩:∃wi:World,wi=wr:=⟨_,rfl⟩;have rK:=aA oi;clear oi l3;by_cases fo:m<k
    .obtain⟨b',o',hA,_,⟨_,o4⟩,d1,d2⟩:=HR.out.ltrU m ZA
     refine' eX;have ru:(m:Int)<(xs.length:Int):=ZA
     have GZ:Hid (m<rs.length):=by{show _<_;rw[qg.out];omega};have xG:=HRG.out m ZA GZ.out;generalize xs[m]=y at *;obtain⟨r2,PW⟩:∃r,Hid (y6 p.order y.code=r):=⟨_,rfl⟩;rw[PW.out]at xG;have GQ:=aA xG;clear xG;have C2:=aA (fun n=>AlB ((yZ.out.on li).on (Ba (aF _ _) n)) PW.out);have q1:=ZB7 rK.out m ZA;have q2:=ZB7 rK.out k ab;have f2:=rK.out.freeAt k;rw[BcV fo]at q1;rw[BbJ]at q2;obtain⟨a,HA⟩:∃a,Hid (jA rs m=a):=⟨_,rfl⟩;obtain⟨t,HT⟩:∃t,Hid (Gf (Hd (rs.take m)) q=t):=⟨_,rfl⟩;rw[HA.out]at q1;rw[HT.out]at q2;by_cases fh:r2<0
     .have ha:a=0:=by{rw[<-HA.out];exact ApE GZ.out (by rw[GQ.out];exact fh)};subst ha;have HE:=aA (AtJ (i:=k) (BaG GZ.out (by rw[GQ.out];exact fh) q));refine' z6;exact ZSL
     obtain⟨s,rfl⟩:=aK (show 0<=r2 by omega);have ha:0<a:=by{rw[<-HA.out,Rq GZ.out GQ.out];omega};have IP:=aA (AzS GZ.out GQ.out q);by_cases uq:s<=q
     .have pX:Hid (a<=xs.length):=by{show _<=_;rw[<-HA.out,Rq GZ.out GQ.out];have:=(Pv (rs.take m) s).1;rw[bJ]at this;omega};have HTP2:Hid (Gf (Hd (rs.take (m+1))) q=max t a):=by{show _=_;rw[IP.out,aQ uq,HT.out,HA.out]};have hab':a<=60:=by{have:=pX.out;omega};have HE:=aA (Ba5 (i:=k) (t:=max t a+1) xs.length (by rw[HTP2.out]));have htb:t<=60:=by{have:=(Pv (rs.take m) q).1;rw[bJ]at this;rw[<-HT.out];omega};by_cases hta:t<a
      .refine' ZSM;have HS:=aA (ZD0 (HOJ.out.drew) (k:=k) ZJl ((a:Int)+1) ZS);go_wp2
       go_roundw
       case rel=> refine⟨m+1,ZA,ZJ,Ai (Ag lw) GY _,?_⟩;rw[<-HE.out,show((max t a+1:Nat):Int)=(a:Int)+1 by omega];exact HS.out
       case measure=>exact ZK
      .refine' ZSM;have HS:=aA (ZD0 (HOJ.out.drew) (k:=k) ZJl ((t:Int)+1) ZS);go_wp2
       go_roundw
       case rel=> refine⟨m+1,ZA,ZJ,Ai (Ag lw) GY _,?_⟩;rw[<-HE.out,show((max t a+1:Nat):Int)=(t:Int)+1 by omega];exact HS.out
       case measure=>exact ZK
     .have HE:=aA (AtJ (i:=k) (show Gf (Hd (rs.take (m+1))) q=Gf (Hd (rs.take m)) q by rw[IP.out,aM uq]))
      go_wp2
      go_quiet (first|(go_at_call 161;refine Da (C2.out _)))
      exact ZSL
    .have HE:=aA (show m=k by omega)
     have q2:=ZB7 rK.out k ab;rw[BbJ]at q2;have HB:=aA (AwP ob.out xh.out);have HIE:=aA (BcG ob.out xh.out);have HLK:Hid (jA rs k=Gf (Hd (rs.take m)) q+1):=by{show _=_;rw[HE.out,Rq ob.out xh.out]};obtain⟨t,HT⟩:∃t,Hid (Gf (Hd (rs.take m)) q=t):=⟨_,rfl⟩;have lX:Hid (own 3 gk wi (.slice (P_ gk) xs.length xs.length) (N4 (oR rs (k+1)) xs.length)):=by{have h:=rK.out;rw[HE.out,HIE.out]at h;exact h};have kV:Hid (Kg (Hd (rs.take (k+1)))=max (Kg (Hd (rs.take k))) (t+1)):=by{show _=_;rw[HB.out,HLK.out,HT.out]};rw[HT.out]at q2;generalize Kg (Hd (rs.take k))=m2 at *;by_cases xw:(m2:Int)<(t:Int)+1
     exact ZSN;exact ZSN
  .refine' YO;have HF:Hid (Jh p xs=(Kg (Hd (rs.take k)):Nat)):=by show _=_;rw[HKI.out,HE.out,<-qg.out,bA]
   generalize Kg (Hd (rs.take k))=m at *;refine' ZO;exact⟨Bo HF.out.symm,Aa HW.out lr⟩
theorem AaX(v vb p xs w)(hv:rdP w w.heap.size v p)(hb:R_ w vb xs)(hl:xs.length<=1048576):
 C_ 29 #[v,vb] w (.int .i64 (F5 p xs)):=by
 refine' ZSJ;go_enter func29,ntmps29
 refine' ZC;refine(AbW _ _ p xs _ (fg.out.on HB.out) (br.out.on HB.out) hl).mono ?_;exact ZSK
end Go.Proofs.YtfadhdacjpmmeaaGreatDoor
