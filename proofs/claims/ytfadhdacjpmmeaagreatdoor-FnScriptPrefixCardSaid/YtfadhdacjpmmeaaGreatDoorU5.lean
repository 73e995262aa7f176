/- Parts. -/
import Derived.Test.YtfadhdacjpmmeaaGreatDoorU4
set_option linter.unusedVariables false
set_option linter.unusedSimpArgs false
set_option maxRecDepth 100000
set_option maxHeartbeats 16000000
open Go.Proofs.Tryz
open Go renaming madeCells->bF
open Go.IntKind renaming i64->aD
open Go.Obj renaming cells->aB
open Go.Value renaming string->aG,int->aH
namespace Go.Proofs.YtfadhdacjpmmeaaGreatDoor
open Go.RowKit
theorem Aq3(s t):zU s t=zU t s:=by rw[jE,Ec,Ec];exact eq_comm
theorem Nf(v xs c w)(hv:R_ w v xs):
 ya 226 #[v,.string c] w (.int .i64 (y6 xs c)):=by
 refine' h_;refine' zm;go_enter func226,ntmps226;go_wp2
 go_loop[8] (fun i=>∃k:Nat,k<=xs.length/\i=.int .i64 k/\Hid (∀j (h:j<xs.length),j<k->zU xs[j] c=false)) (fun i=>xs.length - (intOf i).toNat)
 case atStart=>exact Yc
 case round=>
  refine' YH;by_cases ab:k<xs.length
  .refine' ZQj;cases he:zU x c
   .refine' zf;have hq:(c.toList==x.toList)=false:=by{rw[<-he];exact Aq3 c x};clear he;go_wp2
    exact Ws
   .refine' zf;have hq:(c.toList==x.toList)=true:=by{rw[<-he];exact Aq3 c x};clear he;exact Uf
  exact ZQk
theorem ZBR(v xs c w)(hv:R_ w v xs):
 ya 281 #[v,.string c] w (.bool (decide (0<=y6 xs c))):=by
 go_enter func281,ntmps281
 refine' ZC;refine(Nf v xs c w hv).mono ?_;refine' ZZ;obtain⟨r,HR⟩:∃r,Hid (y6 xs c=r):=⟨_,rfl⟩;rw[HR.out]
 refine' ZI;exact⟨Al (by rw[HR.out]),rfl⟩
theorem BeL(n w):ya 272 #[.int .i64 n] w (.bool (decide (2<=n)&&decide (n<=16))):=by
 go_enter func272,ntmps272;by_cases h1:2<=n
 exact ZHV
 .refine' ZO;exact⟨Al (by rw[aP (p:=2<=n) ZA];rfl),rfl⟩
theorem ZCp(n w):ya 273 #[.int .i64 n] w (.bool (decide (1<=n)&&decide (n<=4))):=by
 go_enter func273,ntmps273;by_cases h1:1<=n
 exact ZHV
 .refine' ZO;exact⟨Al (by rw[aP (p:=1<=n) ZA];rfl),rfl⟩
theorem ZDd(b)(n:Nat)(w)(h1:2<=b)(h2:b<=16)(hn:n<=4):
 ya 317 #[.int .i64 b,.int .i64 n] w (.int .i64 (Ky b n)):=by
 go_enter func317,ntmps317;go_wp2
 go_loop[5,7] (fun t i=>∃(k:Nat) (m:Int),k<=n/\i=.int .i64 k/\t=.int .i64 m/\1<=m/\m<=65536/\Hid (m=Ky b k)) (fun _ i=>n - (intOf i).toNat)
 case atStart=>exact⟨0,1,aN _,rfl,rfl,ZA,ZA,rfl⟩
 case round=>
  obtain⟨k,m,hk,rfl,rfl,m0,m1,HM⟩:=hrel;by_cases ab:k<n
  .refine' ZQl;clear hp;go_wp2
   go_round
   case rel=>exact⟨k+1,_,ZA,ZJ,rfl,p1,p2,HP.out.symm⟩
   case measure=>exact ZK
  exact ZQm
theorem AdX(b p w)(h:Ms b p=true):
 ya 274 #[.int .i64 b,.int .i64 p] w (.int .i64 (Ky b p.toNat)):=by
 obtain⟨h1,h2,h3,h4⟩:=ZAr.1 h;clear h;obtain⟨n,rfl⟩:=aK (show 0<=p by omega);have e1:(decide (2<=b)&&decide (b<=16))=true:=by rw[aL h1,aL h2];rfl
 have e2:(decide ((1:Int)<=(n:Int))&&decide ((n:Int)<=4))=true:=by rw[aL h3,aL h4];rfl
 have E1:=aA e1;clear e1;have E2:=aA e2;clear e2;go_enter func274,ntmps274
 refine' ZC;refine(BeL b w).mono ?_;rw[E1.out];refine' ZZ;refine' ZC;refine(ZCp n w).mono ?_;rw[E2.out];refine' ZZ;refine' ZC;refine(ZDd b n w h1 h2 ZA).mono ?_;refine' ZZ;refine' ZI;exact⟨Bo (by rw[bE]),rfl⟩
theorem BcA(cs c):cs.all (fun d=> !zU d c)= !decide (0<=y6 cs c):=by
 rw[jE,dU];constructor
 .intro h
  have:rk cs c=cs.length:=AeN fun j hj=>by simpa using h _ (aS hj)
  rw[Ls ZA];decide
 .intro h x hx
  refine' ZE4;have hn:¬0<=y6 cs c:=zI
  have hk:¬rk cs c<cs.length:=fun ab=>by rw[ZDu ab]at hn;omega
  have:=ZBe cs c j hj ZA;simp[this]
theorem AbK(v cs w)(hv:R_ w v cs):
 ya 275 #[v] w (.bool (La cs)):=by
 refine' Yf;refine' h_;refine' zm;go_enter func275,ntmps275;go_wp2
 go_loop[7] (fun i=>∃k:Nat,k<=cs.length/\i=.int .i64 k/\Hid (∀j,j<k->Yr cs j=true)) (fun i=>cs.length - (intOf i).toNat)
 case atStart=>exact ZE5
 case round=>
  refine' YH;by_cases ab:k<cs.length
  .obtain⟨b,o,rfl,hb,ag,c1⟩:=HR.out.str k ab
   have hG:=aA (U9 ab);have ao:=aA (fun h=>AdD ab h);have hA:=aA (BcA (cs.take k) cs[k]);generalize cs[k]=c at *;cases pP:Ap c
   .have ii:=aA pP;clear pP
    go_wp2_with (go_at_call 231;refine(Cw _ _ ag).mono ?_;refine' V7)
    go_ret;exact⟨Al (ao.out (by rw[hG.out,ii.out];rfl)).symm,rfl⟩
   have ii:=aA pP;clear pP;cases hd:decide (0<=y6 (cs.take k) c)
   .refine' ZQn;go_round
    case rel=>
     refine' ZIz
     .refine' iS;rw[hG.out,ii.out,hA.out,oe.out];rfl
    case measure=>exact ZK
   .refine' ZQn;go_ret;exact⟨Al (ao.out (by rw[hG.out,ii.out,hA.out,oe.out];rfl)).symm,rfl⟩
  .have HE:=aA (show k=cs.length by omega)
   refine' ZO;exact⟨Al (ZCq iQ).symm,rfl⟩
theorem Fq(v p w)(hv:rdP w w.heap.size v p):
 C_ 202 #[v] w (.bool (Bq p)):=by
 obtain⟨vo,rfl,km,lI,hr⟩:=hv;have fi:=hr;obtain⟨A,n,cp,rfl,hn,hc,hm,_⟩:=hr;refine' Zj;have ti:=aA (fun o=>fi.on ((aF _ _).alloc (aC _) o));clear fi;refine' ZQo;clear hB;have e0:Bq p=(((decide (2<=p.bins)&&decide (p.bins<=16))&&(decide (1<=p.passes)&&decide (p.passes<=4)))&&(decide (1<=p.order.length)&&decide (p.order.length<=60))&&decide ((p.order.length:Int)<=Ky p.bins p.passes.toNat)&&La p.order):=rfl;have E0:=aA e0;clear e0;go_enter func202,ntmps202
 refine' ZC;refine(BeL _ _).mono ?_;refine' ZZ;cases h1:(decide (2<=p.bins)&&decide (p.bins<=16))
 .refine' zS;refine' ZI;exact⟨Al (by rw[E0.out,H1.out];rfl),HB.out⟩
 refine' zp;refine(ZCp _ _).mono ?_;refine' ZZ;cases h2:(decide (1<=p.passes)&&decide (p.passes<=4))
 .refine' zN;refine' ZI;exact⟨Al ZI0,HB.out⟩
 refine' zN;have CO:Ms p.bins p.passes=true:=by unfold Ms;rw[H1.out,H2.out];rfl
 have HSH:=aA CO;clear CO;by_cases h3:1<=p.order.length
 case neg=>
  have H3:=aA h3;clear h3;have LO:¬(1:Int)<=(p.order.length:Int):=by have:=H3.out;omega
  refine' ZI;exact⟨Al (by rw[E0.out,aP H3.out];simp),HB.out⟩
 by_cases h4:p.order.length<=60
 case neg=>
  refine' Qi;have h4i:¬(p.order.length:Int)<=60:=by have:=H4.out;omega
  refine' ZI;exact⟨Al (by rw[E0.out,aP H4.out];simp),HB.out⟩
 refine' ZC;refine(AdX _ _ _ HSH.out).mono ?_;refine' ZZ;obtain⟨q,HQ⟩:∃q,Hid (Ky p.bins p.passes.toNat=q):=⟨_,rfl⟩;rw[HQ.out];by_cases h5:(p.order.length:Int)<=q
 case neg=>
  have H5:=aA (aP h5)
  refine' ZI;exact⟨Al ZQp,HB.out⟩
 have H5:=aA (aL h5)
 refine' ZC;refine(AbK _ p.order _ (ti.out _)).mono ?_;refine' ZZ;refine' ZI;exact⟨Al (by rw[E0.out,HQ.out,H1.out,H2.out,H5.out,aL h3,aL h4];rfl),HB.out⟩
theorem Da{P}{f:FuncId}{args}{w:World}{n v}
 (h:Calls P f args (w.drewN n) fun e w'=>e=.returned v/\w.drewN n=w'):Calls P f args (w.drewN n) fun e w''=>e=.returned v/\∃m,w''=w.drewN m:=
 h.mono fun _ _ ⟨he,hm⟩=>⟨he,n,hm.symm⟩
theorem ZBm(n p w):ya 169 #[.int .i64 n,.int .i64 p] w (.bool (Ms n p)):=by
 have e0:Ms n p=(decide (2<=n)&&decide (n<=16)&&(decide (1<=p)&&decide (p<=4))):=rfl;have E0:=aA e0;go_enter func169,ntmps169
 refine' ZC;refine(D0 n 2 16 w).mono ?_;refine' ZZ;cases h1:(decide (2<=n)&&decide (n<=16))
 .refine' fE;refine' ZI;exact⟨Al (by rw[E0.out,H1.out];rfl),rfl⟩
 .refine' fE;refine' ZC;refine(D0 p 1 4 w).mono ?_;refine' ZZ;cases h2:(decide (1<=p)&&decide (p<=4))
  .refine' g_;refine' ZI;exact⟨Al ZI0,rfl⟩
  .refine' g_;refine' ZI;exact⟨Al ZI0,rfl⟩
theorem AaN(b)(n:Nat)(w)(h1:2<=b)(h2:b<=16)(hn:n<=4):
 ya 170 #[.int .i64 b,.int .i64 n] w (.int .i64 (Ky b n)):=by
 go_enter func170,ntmps170;go_wp2
 go_loop[5,6] (fun t i=>∃(k:Nat) (m:Int),k<=n/\i=.int .i64 k/\t=.int .i64 m/\1<=m/\m<=65536/\Hid (m=Ky b k)) (fun _ i=>n - (intOf i).toNat)
 case atStart=>exact⟨0,1,aN _,rfl,rfl,ZA,ZA,rfl⟩
 case round=>
  obtain⟨k,m,hk,rfl,rfl,m0,m1,HM⟩:=hrel;by_cases ab:k<n
  .refine' ZQl;have hlm:¬(100000:Int)<m*b:=ZA
   go_wp2
   go_round
   case rel=>exact⟨k+1,m*b,ZA,ZJ,by first|rfl|exact aU (aH .i64) (by omega),p1,p2,HP.out.symm⟩
   case measure=>exact ZK
  exact ZQm
theorem AbB{p}(h:0<=p):((p.toNat:Nat):Int)=p:=ZC9 h
theorem Fo(v p w)(hv:rdP w w.heap.size v p):
 C_ 72 #[v] w (.bool (Bq p)):=by
 obtain⟨vo,rfl,km,lI,hr⟩:=hv;have fi:=hr;obtain⟨A,n,cp,rfl,hn,hc,hm,uW⟩:=hr;refine' Zj;have HRA:=aA uW;have ti:=aA (fun o n=>(fi.on ((aF _ _).alloc (aC _) o)).on (Ba (aF _ _) n));refine' ZQo;have e0:Bq p=(Ms p.bins p.passes&&(decide (1<=p.order.length)&&decide (p.order.length<=60))&&decide ((p.order.length:Int)<=Ky p.bins p.passes.toNat)&&La p.order):=rfl;have E0:=aA e0;cases CO:Ms p.bins p.passes
 .refine' ZQq;refine' ZI1;go_quiet (first|(go_at_call 169;refine Da (JK.out _)))
  refine' ZO;exact⟨Al (by rw[E0.out,HS.out];rfl),Ba HB.out _⟩
 refine' ZQq;obtain⟨q1,q2,q3,q4⟩:=ZAr.1 CO;cases jV:(decide ((1:Int)<=(p.order.length:Int))&&decide ((p.order.length:Int)<=60))
 .refine' ZQr;have yW:(decide (1<=p.order.length)&&decide (p.order.length<=60))=false:=by have:=HL.out;rw[eM,eQ,eQ]at this⊢;omega
  have ig:=aA yW;refine' ZI1;go_quiet (first|(go_at_call 169;refine Da (JK.out _))|(go_at_call 167;refine Da (OM.out _)))
  refine' ZO;exact⟨Al (by rw[E0.out,ig.out];simp),Ba HB.out _⟩
 refine' ZQr;have yW:1<=p.order.length/\p.order.length<=60:=by rw[aO,bD,bD]at jV;omega
 obtain⟨l1,l2⟩:=yW;have uI:(decide (1<=p.order.length)&&decide (p.order.length<=60))=true:=by rw[aL l1,aL l2];rfl
 have kP:=aA uI;obtain⟨q,HQ⟩:∃q,Hid (Ky p.bins p.passes.toNat=q):=⟨_,rfl⟩;have NL:∀w:World,ya 170 #[.int .i64 p.bins,.int .i64 p.passes] w (.int .i64 q):=fun w=>by have:=AaN p.bins p.passes.toNat w q1 q2 ZA;rw[HQ.out,AbB ZA]at this;exact this
 have HPW:=aA NL;by_cases h5:(p.order.length:Int)<=q
 case neg=> have H5:=aA (aP h5);have h5':decide ((p.order.length:Int) > q)=true:=aL ZA;refine' ZQs;refine' ZO;exact⟨Al ZQp,Ba HB.out _⟩
 have H5:=aA (aL h5);have h5':decide ((p.order.length:Int) > q)=false:=aP ZA;have ON:Bq p=La p.order:=by rw[E0.out,HS.out,kP.out,HQ.out,H5.out];rfl
 have GE:=aA ON;refine' ZQs;have mF:B_ w ((w.alloc (aB #[aH aD p.bins,aH aD p.passes,Value.slice A p.order.length cp] 30)).drewN nq):=Ba HB.out _;have wI:((w.alloc (aB #[aH aD p.bins,aH aD p.passes,Value.slice A p.order.length cp] 30)).drewN nq).cell? ⟨w.heap.size,2,none⟩=some (.slice A p.order.length cp):=zD
 generalize((w.alloc (aB #[aH aD p.bins,aH aD p.passes,Value.slice A p.order.length cp] 30)).drewN nq)=w0 at *;generalize p.order=cs at *;go_wp2
 go_loopw[3] (fun i wr=>∃k:Nat,k<=cs.length/\i=.int .i64 k/\B_ w wr/\wr.cell? ⟨w.heap.size,2,none⟩=some (.slice A cs.length cp)/\Hid (∀j,j<k->Yr cs j=true)) (fun i _=>cs.length - (intOf i).toNat)
 case atStart=>exact⟨0,aN _,rfl,mF,wI,fun j hj=>absurd hj (aX j)⟩
 case round=>
  obtain⟨k,hk,rfl,av,jc,HG⟩:=hrel;refine' Sd;by_cases ab:k<cs.length
  .obtain⟨b,o,rfl,hb,ag,c1⟩:=HRA.out.str k ab
   have hG:=aA (U9 ab);have ao:=aA (fun h=>AdD ab h);generalize hx:cs[k]=c at *;have su:=aA hx;have qi:w1.cell? ⟨b,o+k,none⟩=some (.string c):=(av.cell (p:=⟨b,o+k,none⟩) hb).trans c1;cases pP:Ap c
   .refine' ZQt;go_ret;exact⟨Al (by rw[GE.out];exact(ao.out (by rw[hG.out,ii.out];rfl)).symm),av⟩
   refine' ZQt;go_loopw[4] (fun i wr=>∃m:Nat,m<=k/\i=.int .i64 m/\B_ w wr/\wr.cell? ⟨w.heap.size,2,none⟩=some (.slice (some ⟨b,o,none⟩) cs.length cp)/\Hid ((cs.take m).all (fun y=> !zU y c)=true)) (fun i _=>k - (intOf i).toNat)
   case atStart=>exact⟨0,aN _,rfl,av,jc,rfl⟩
   case round=>
    obtain⟨m,mj,rfl,oW,hcw,HA⟩:=hrel;have qi:wr.cell? ⟨b,o+k,none⟩=some (.string c):=(oW.cell (p:=⟨b,o+k,none⟩) hb).trans c1;by_cases fo:m<k
    .obtain⟨b',o',hA,_,_,d1⟩:=HRA.out.str m ZA
     have hT:=aA (Hv (p:=fun y:Y_=> !zU y c) cs m ZA);have hI:=aA (ZCO (p:=fun y:Y_=> !zU y c) cs m k ZA fo);generalize cs[m]=y at *;refine' eX;have d1':wr.cell? ⟨b,o+m,none⟩=some (.string y):=(oW.cell (p:=⟨b,o+m,none⟩) hb).trans d1;have ru:(m:Int)<(cs.length:Int):=ZA
     have gq:(k:Int)<(cs.length:Int):=ZA
     cases kY:zU y c
     .have HY:=aA kY
      have qo:(y.toList==c.toList)=false:=kY;refine' z6;go_wp2
      go_roundw
      case rel=>exact⟨m+1,ZA,ZJ,Ba oW _,zD,by show _=true;rw[hT.out,HA.out,HY.out];rfl⟩
      case measure=>exact ZK
     .have HY:=aA kY
      have qo:(y.toList==c.toList)=true:=kY;refine' z6;refine' ZO;exact⟨Al (by rw[GE.out];exact(ao.out (by rw[hG.out,hI.out (by rw[HY.out];rfl)];simp)).symm),Ba oW _⟩
    .refine' ZEb;go_roundw
     case rel=>
      refine⟨k+1,ZA,ZJ,oW,hcw,fun j hj=>?_⟩;refine' Ue
      .refine' iS;rw[hG.out,ii.out,<-HE.out,HA.out];rfl
     case measure=>exact ZK
  .have HE:=aA (show k=cs.length by omega)
   refine' ZO;exact⟨Al (by rw[GE.out];exact(ZCq iQ).symm),av⟩
theorem Lw(v xs c w)(hv:R_ w v xs):
 ya 161 #[v,.string c] w (.int .i64 (y6 xs c)):=by
 refine' h_;refine' zm;go_enter func161,ntmps161;go_wp2
 go_loop[5] (fun i=>∃k:Nat,k<=xs.length/\i=.int .i64 k/\Hid (∀j (h:j<xs.length),j<k->zU xs[j] c=false)) (fun i=>xs.length - (intOf i).toNat)
 case atStart=>exact Yc
 case round=>
  refine' YH;by_cases ab:k<xs.length
  .refine' ZQj;cases he:zU x c
   .refine' zf;have hq:(x.toList==c.toList)=false:=he;clear he;go_wp2
    exact Ws
   .refine' zf;have hq:(x.toList==c.toList)=true:=he;clear he;exact Uf
  exact ZQk
theorem Ok(v vb p xs w)(hv:rdP w w.heap.size v p)(hb:R_ w vb xs):
 C_ 73 #[v,vb] w (.bool (Bq p&&z_ xs)):=by
 refine' Yf;have br:=aA hb;refine' ZFP;clear tx rz jv;refine' ZQ0;go_enter func73,ntmps73
 refine' ZC;refine(Fo _ p _ (fg.out.on HB.out)).mono ?_;refine' ZU;have B1:=HB.out.trans (b1.mono HB.out.size);cases hp:Bq p
 .refine' Z6;refine' ZI;exact⟨Al (by rw[HP.out];rfl),B1⟩
 .refine' Z6;obtain⟨r,ak⟩:∃r,Hid (z_ xs=r):=⟨_,rfl⟩
  refine' ZC;refine(C6 _ xs _ (br.out.on B1)).mono ?_;refine' zK;rw[ak.out]
  refine' ZI;exact⟨Al (by rw[HP.out,ak.out];rfl),B1.trans (b2.mono B1.size)⟩
theorem BcL{w B p A c}(h:rdP w B (.agg #[.int .i64 p.bins,.int .i64 p.passes,.slice A p.order.length c]) p):rd w B (.slice A p.order.length c) p.order:=by obtain⟨vo,h1,_,_,h4⟩:=h;refine' ZEq;subst h1;exact h4
theorem AtW{v xs c r w}(hv:R_ w v xs)(h:y6 xs c=r):
 ya 226 #[v,.string c] w (.int .i64 r):=by rw[<-h];exact Nf v xs c w hv
theorem AfK{v xs c r w}(hv:R_ w v xs)(h:y6 xs c=r):
 ya 161 #[v,.string c] w (.int .i64 r):=ZNU
theorem ZDD(v p c)(k:Nat)(w)(hv:rdP w w.heap.size v p)(h1:2<=p.bins)(h2:p.bins<=16)(hk:k<=4)(hl:p.order.length<=1000):
 C_ 303 #[v,.string c,.int .i64 k] w (.int .i64 (Dm p c k)):=by
 refine' ZNV;have C2:=aA (fun w=>ZDd p.bins k w h1 h2 hk);go_enter func303,ntmps303
 refine' zG;refine(AtW HO.out ak.out).mono ?_;refine' ZNW;have C3:Hid (∀w:World,ya 317 #[.int .i64 p.bins,.int .i64 k] w (.int .i64 q)):=fun w=>ZNX
 refine' ZNY;go_quiet (first|(go_at_call 317;refine Da (C3.out _)))
 exact ZNZ
theorem AaD(v p c)(k:Nat)(w)(hv:rdP w w.heap.size v p)(h1:2<=p.bins)(h2:p.bins<=16)(hk:k<=4)(hl:p.order.length<=1000):
 C_ 171 #[v,.string c,.int .i64 k] w (.int .i64 (Dm p c k)):=by
 refine' ZNV;have C2:=aA (fun w=>AaN p.bins k w h1 h2 hk);go_enter func171,ntmps171
 refine' zG;refine(AfK HO.out ak.out).mono ?_;refine' ZNW;have C3:Hid (∀w:World,ya 170 #[.int .i64 p.bins,.int .i64 k] w (.int .i64 q)):=fun w=>ZNX
 refine' ZNY;go_quiet (first|(go_at_call 170;refine Da (C3.out _)))
 exact ZNZ
theorem ZCt(v p k w)(hv:rdP w w.heap.size v p):
 C_ 301 #[v,.int .i64 k] w (.bool (Ku p k)):=by
 refine' ZNa;have HQ:Hid (Ku p k=(Bq p&&(decide (0<=k)&&decide (k<p.passes)))):=rfl;go_enter func301,ntmps301
 refine' ZHr;cases h1:Bq p
 exact ZHs;refine' zS;by_cases h2:0<=k
 .by_cases h3:k<p.passes
  .have H2:=aA (aL h2);have H3:=aA (aL h3)
   refine' ZI;exact⟨Al ZHt,Aa HT.out l1⟩
  .have H2:=aA (aL h2);have H3:=aA (aP h3)
   have un:=aP h3
   refine' ZI;exact⟨Al ZHt,Aa HT.out l1⟩
 .have H2:=aA (aP h2)
  have h2':=aP h2
  refine' ZI;exact⟨Al ZEr,Aa HT.out l1⟩
theorem Tryz.infoRow:(Tryz.prog.info? 27).map (fun i=>(i.zero,i.size,i.bytes))=some (some (.slice none 0 0),1,24):=ZB
theorem ZDz(v)(xss:List (List Ltr))(w)(hv:R_ w v xss)(hl:xss.flatten.length<=1048576):
 Calls Tryz.prog 283 #[v] w fun e w'=>∃v',e=.returned v'/\own 119 w.heap.size w' v' xss.flatten/\B_ w w':=by
 refine' zl;refine' YA;have HL:=aA hl;clear hl;refine' V4;go_enter func283,ntmps283;go_wp2
 go_loopw[3,8] (fun t i wr=>∃k:Nat,k<=xss.length/\i=.int .i64 k/\B_ w wr/\own 119 w.heap.size wr t (xss.take k).flatten) (fun _ i _=>xss.length - (intOf i).toNat)
 case atStart=>exact⟨0,aN _,rfl,l0,own.nil_ _ _ _⟩
 case round=>
  refine' Wu;refine' Yg;by_cases ab:k<xss.length
  .refine' ZNb;go_wp2_with (at_builtin;refine Cu (α:=Ltr) rfl (.tmp 12) (.tmp 13) 27 rfl w.heap.size 119 i0 _ 24 aV hi ah ar ap rfl ZE (.slice A3 zs.length c3) zs rfl dm.out (.slice A2 m2 c2) ys rfl w1.heap.size (HU.out.on lr) (by have:=mP.out;exact ZN) (by have:=mP.out;omega) lr.size ?_;intro v' w2 kn jl _)
   exact ZNc
  exact ZNd
theorem Aq6{α:Type}[Flat α]{T1 T2 base:Nat}{w w' v u}{xss:List (List α)}{vs}(h:Fi T1 T2 base w v xss vs)(hf:D7 u v vs)(hg:w.grownBy w' u.ownBlock):Fi T1 T2 base w' v xss vs:=
 h.grown hg (Br hf.1) fun k hk=>Br (hf.2 k hk)
theorem ZA4(v vb vm p xs)(k0:Nat)(ms w)(hv:rdP w w.heap.size v p)(hb:R_ w vb xs)(hm:R_ w vm ms)
 (h1:2<=p.bins) (h2:p.bins<=16) (fp:k0<=4) (pH:p.order.length<=1000) (qK:∀m∈ms,0<=m.bin/\m.bin<p.bins) (hl:xs.length<=1000):
 Calls Tryz.prog 245 #[v,vb,.int .i64 k0,vm] w fun e w'=>∃vB vO vs,e=.returned (.tuple #[vB,vO])/\Fi 27 119 w.heap.size w' vB (Bm (fun x=>Ej ms x (Dm p x.code k0)) p.bins.toNat xs) vs/\own 119 w.heap.size w' vO (Bn (fun x=>Ej ms x (Dm p x.code k0)) xs)/\D7 vO vB vs/\B_ w w':=by
 refine' Rr;have qJ:=hb.on HT.out;have mj:=hm.on HT.out;subst e0;obtain⟨A,n,cp,rfl,hn,hc,px,hr⟩:=qJ;subst hn;obtain⟨A',n',cp',rfl,qL,UU,UV,tO⟩:=mj;subst qL;unfold maxLen at px UV;refine' iH;have HM:=aA tO;refine' ZNe;clear ac hv hb hm hr tO ah;refine' fL;refine' ZHj;have HF:Hid (∀x:Ltr, -1<=Ej ms x (Dm p x.code k0)/\Ej ms x (Dm p x.code k0)<N):=fun x=>by have:=ZAk qK x _ (M2 p x.code k0 h1);have:=HN.out;omega
 clear qK;refine' ZNG;go_enter func245,ntmps245;go_wp2;rw[<-di.out];have j6:=I3 (α:=Ltr) w0 27 119 N w0.heap.size (aC _) ZN;refine' ZNf;refine' ZNg;refine' ZHp;clear hG fo;obtain⟨pY,jo⟩:=jo;have lL:=aA jo;clear jo
 go_loopw[11,22] (fun t i wr=>∃(k:Nat) (vs:List Value),k<=xs.length/\i=.int .i64 k/\B_ w0 wr/\Fi 27 119 w0.heap.size wr (.slice (P_ G) N N) (Bm f N (xs.take k)) vs/\own 119 w0.heap.size wr t (Bn f (xs.take k))/\Hid (D7 t (.slice (P_ G) N N) vs)) (fun _ i _=>xs.length - (intOf i).toNat)
 case atStart=> refine' ZMl;exact Rv
 case round=>
  refine' ZHk;have HB:=aA hB;refine' Zn;clear l0 lz lL hB;refine' ZHl;by_cases ab:k<xs.length
  .refine' ZHm;refine' ZNh;refine' ZNi;have ll:=Aa lr (Aw de).1;have BL:=aA (Aw de).1;have yc:=aA de;clear de;refine' YN;obtain⟨b0,ga⟩:∃b0,Hid (Dm p x.code k0=b0):=⟨_,rfl⟩
   refine' ZC;rw[<-yc.out];refine(ZDD _ p x.code k0 _ (HP.out.on ll) h1 h2 fp pH).mono ?_;rw[ga.out];refine' zK;have m2:=Aa (aF wl.heap.size wl) b2;clear b2
   refine' ZC;go_loopw[14,33] (fun t i wi=>∃m:Nat,m<=ms.length/\i=.int .i64 m/\t=.int .i64 (Ej (ms.take m) x b0)/\B_ wl wi) (fun _ i _=>ms.length - (intOf i).toNat)
   case atStart=>exact⟨0,aN _,rfl,rfl,m2⟩
   case round=>
    obtain⟨m,hm,rfl,rfl,li⟩:=hrel;refine' zd;have jt:=Aa ll li;clear m2;by_cases py:m<ms.length
    .obtain⟨b',o',rfl,qJ,⟨UW,hyb⟩,d1,d2⟩:=HM.out.misU m py
     have HMT:=aA (AoD py x b0);generalize ms[m]=y at *;have xp:(m:Int)<(ms.length:Int):=ZA
     by_cases kY:y.id=x.id
     .refine' ZHX;clear kY;go_wp2
      go_roundw
      case rel=>exact⟨m+1,ZA,ZJ,by rw[HMT.out,aQ HY.out],Ae li _⟩
      case measure=>exact ZK
     .refine' ZHY;clear kY;go_wp2
      go_roundw
      case rel=>exact⟨m+1,ZA,ZJ,by rw[HMT.out,aM HY.out],Ae li _⟩
      case measure=>exact ZK
    .have HME:=aA (show m=ms.length by omega)
     have UX:Hid (Ej (ms.take m) x b0=f x):=by{show _=_;rw[HME.out,bA,kJ.out,ga.out]};rw[UX.out];refine' ZHn;have B3:=BL.out.trans (li.mono BL.out.size);refine' ZNj;refine' ZHo;by_cases bc:f x<0
     .refine' ZHu;go_wp2_with (at_builtin;refine An (α:=Ltr) rfl (.tmp 47) (.tmp 49) 27 rfl w0.heap.size 119 i1 _ 24 aV ji dr du dw rfl ZE (.slice AO (Bn f (xs.take k)).length cO) (Bn f (xs.take k)) x rfl (ez.out.alloc _) ⟨w3.heap.size,0,none⟩ 1 (Ltr.cells x) rfl ⟨⟨fq,fj⟩,rfl⟩ (Bz w3 _ (Ltr.cells x)) ZN ZA ZH ?_;refine' Zm)
      exact ZHv
     .refine' ZHw;rw[HD.out];refine' ZHx;go_region_law (go_loud ((refine Ce (α:=Ltr) ZG (.tmp 56) (.tmp 58) 27 ZG w0.heap.size 119 i1 _ 24 aV ji dr du dw rfl ZE (.slice Au zs.length cu) zs x ZG ((jW.out.alloc _).drew) ⟨w3.heap.size,0,none⟩ 1 (Ltr.cells x) ZG ⟨⟨fq,fj⟩,rfl⟩ (Ft w3 _ (Ltr.cells x)) ZN ZA ZH ?_;refine' Rp)))
      all_goals exact ZHy
  .exact ZNk
theorem Im(v)(xss:List (List Ltr))(w)(hv:R_ w v xss)(hl:xss.flatten.length<=1048576):
 Calls Tryz.prog 75 #[v] w fun e w'=>∃v',e=.returned v'/\own 119 w.heap.size w' v' xss.flatten/\B_ w w':=by
 refine' zl;refine' zm;have HL:=aA hl;clear hl;refine' V4;go_enter func75,ntmps75;go_wp2;have qd:own (α:=Ltr) 119 w.heap.size (w.alloc (aB #[] 119)) (.slice (P_ w.heap.size) 0 0) []:=own.made0 w _ (aC _);have l0:B_ w (w.alloc (aB #[] 119)):=(aF _ _).alloc (aC _) _;generalize(w.alloc (aB #[] 119))=w0 at *
 go_loopw[3,4] (fun t i wr=>∃k:Nat,k<=xss.length/\i=.int .i64 k/\B_ w wr/\own 119 w.heap.size wr t (xss.take k).flatten) (fun _ i _=>xss.length - (intOf i).toNat)
 case atStart=>exact⟨0,aN _,rfl,l0,qd⟩
 case round=>
  refine' Wu;refine' YB;clear l0 qd;by_cases ab:k<xss.length
  .refine' ZNb;go_wp2_with (at_builtin;refine Cu (α:=Ltr) rfl (.tmp 12) (.tmp 16) 27 rfl w.heap.size 119 i0 _ 24 aV hi ah ar ap rfl ZE (.slice A3 zs.length c3) zs rfl dm.out (.slice A2 m2 c2) ys rfl w1.heap.size (HU.out.on lr) (by have:=mP.out;exact ZN) (by have:=mP.out;omega) lr.size ?_;intro v' w2 kn jl _)
   exact ZNc
  exact ZNd
theorem Np(v vb p xs)(k0:Nat)(w)(hv:rdP w w.heap.size v p)(hb:R_ w vb xs)
 (h1:2<=p.bins) (h2:p.bins<=16) (fp:k0<=4) (pH:p.order.length<=1000) (hl:xs.length<=1000):
 Calls Tryz.prog 74 #[v,vb,.int .i64 k0] w fun e w'=>∃vB vO vs,e=.returned (.tuple #[vB,vO])/\Fi 27 119 w.heap.size w' vB (Bm (fun x=>Dm p x.code k0) p.bins.toNat xs) vs/\own 119 w.heap.size w' vO (Bn (fun x=>Dm p x.code k0) xs)/\D7 vO vB vs/\B_ w w':=by
 refine' Rr;have qJ:=hb.on HT.out;subst e0;obtain⟨A,n,cp,rfl,hn,hc,px,hr⟩:=qJ;refine' ZHz;refine' ZNe;clear ac hv hb hr ah;refine' fL;refine' ZHj;have HF:Hid (∀x:Ltr, -1<=Dm p x.code k0/\Dm p x.code k0<N):=fun x=>by have:=M2 p x.code k0 h1;have:=HN.out;omega
 obtain⟨f,lN⟩:∃f:Ltr->Int,Hid (f=fun x=>Dm p x.code k0):=⟨_,rfl⟩;rw[<-lN.out];have kJ:Hid (∀x,f x=Dm p x.code k0):=fun x=>by rw[lN.out]
 rw[tr.out];go_enter func74,ntmps74;refine' ZNH;go_loopw[9,10] (fun t i wr=>∃(k:Nat) (vs:List Value),k<=xs.length/\i=.int .i64 k/\B_ w0 wr/\Fi 27 119 w0.heap.size wr (.slice (P_ G) N N) (Bm f N (xs.take k)) vs/\own 119 w0.heap.size wr t (Bn f (xs.take k))/\Hid (D7 t (.slice (P_ G) N N) vs)) (fun _ i _=>xs.length - (intOf i).toNat)
 case atStart=> refine⟨0,pY,aN _,rfl,yI,?_,xC.out,uv.out⟩;exact Rv
 case round=>
  refine' ZHk;have HB:=aA hB;refine' Zn;clear l0 yI lL hB xC uv;refine' ZHl;by_cases ab:k<xs.length
  .refine' ZHm;refine' YN;have ld:=Ag lr;have HC:Hid (∀W,B_ w0 W->C_ 171 #[.agg #[.int .i64 p.bins,.int .i64 p.passes,.slice A0 p.order.length c0],.string x.code,.int .i64 k0] W (.int .i64 (f x))):=fun W hW=>by rw[kJ.out];exact AaD _ p x.code k0 W (HP.out.on hW) h1 h2 fp pH
   refine' ZNI;refine' ZHn;refine' ZNj;clear b3 ld B3;refine' ZHo;by_cases bc:f x<0
   .refine' ZHu;go_wp2_with (at_builtin;refine An (α:=Ltr) rfl (.tmp 32) (.tmp 37) 27 rfl w0.heap.size 119 i1 _ 24 aV ji dr du dw rfl ZE (.slice AO (Bn f (xs.take k)).length cO) (Bn f (xs.take k)) x rfl (ez.out.alloc _) ⟨w3.heap.size,0,none⟩ 1 (Ltr.cells x) rfl ⟨⟨fq,fj⟩,rfl⟩ (Bz w3 _ (Ltr.cells x)) ZN ZA ZH ?_;refine' Zm)
    exact ZHv
   .refine' ZHw;rw[HD.out];refine' ZHx;go_region_law (first|((refine Ce (α:=Ltr) ZG (.tmp 44) (.tmp 49) 27 ZG w0.heap.size 119 i1 _ 24 aV ji dr du dw rfl ZE (.slice Au zs.length cu) zs x ZG ((jW.out.alloc _).drew) ⟨w3.heap.size,0,none⟩ 1 (Ltr.cells x) ZG ⟨⟨fq,fj⟩,rfl⟩ (Ft w3 _ (Ltr.cells x)) ZN ZA ZH ?_;refine' Rp)))
    all_goals exact ZHy
  .exact ZNk
end Go.Proofs.YtfadhdacjpmmeaaGreatDoor
