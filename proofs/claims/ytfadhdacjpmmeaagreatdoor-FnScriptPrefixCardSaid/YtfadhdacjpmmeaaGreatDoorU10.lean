/- Parts. -/
import Derived.Test.YtfadhdacjpmmeaaGreatDoorU9
set_option linter.unusedVariables false
set_option linter.unusedSimpArgs false
set_option maxRecDepth 100000
set_option maxHeartbeats 16000000
open Go.Proofs.Tryz
open Go renaming madeCells->bF
open Go.IntKind renaming i64->aD
open Go.Obj renaming cells->aB
open Go.Value renaming string->aG,int->aH
namespace Go.Proofs.YtfadhdacjpmmeaaGreatDoor
open Go.RowKit
theorem ZCC(v d w)(hv:rdD w w.heap.size v d):
 C_ 209 #[v] w (.bool (Mi d)):=by
 refine' ZPX;clear hp ho hf hh hv je;refine' zT;clear ac;refine' fL;have HQ:Hid (Mi d=(Bq d.plan&&Be d.fwds&&Ee d.held&&Fp d.size)):=rfl;go_enter func209,ntmps209
 refine' zG;refine(Fq _ d.plan _ HP.out).mono ?_;refine' zh;cases h1:Bq d.plan
 exact ZHs;refine' zp;refine(Dj _ d.fwds _ (HF.out.on l1)).mono ?_;refine' zK;have l2:=Aa l1 b2;cases h2:Be d.fwds
 .refine' zN;refine' ZI;exact⟨Al ZEr,Aa HT.out l2⟩
 refine' zN;refine' ZC;refine(ZBL _ d.held _ (HH.out.on l2)).mono ?_;refine' Zb;cases h3:Ee d.held
 .have H3:=aA h3;clear h3
  refine' ZI;exact⟨Al ZHt,Aa HT.out l2⟩
 have H3:=aA h3;clear h3
 refine' ZC;refine(Me d.size _).mono ?_;refine' ZPY;exact⟨Al (by rw[HQ.out,H1.out,H2.out,H3.out,ak.out];rfl),Aa HT.out l2⟩
theorem AqI{xs k}(hk:k<xs.length)(h:Ap xs[k]=false):Ee xs=false:=ZPP
theorem AsJ{xs}(h:∀j (hj:j<xs.length),Ap xs[j]=true):Ee xs=decide (xs.length<=30):=by unfold Ee;rw[List.all_eq_true.2 fun x hx=>ZIL,Bool.and_true]
theorem AeG(v d w)(hv:rdD w w.heap.size v d):
 C_ 80 #[v] w (.bool (Mi d)):=by
 refine' ZPX;have hm:d.held.length<=9223372036854775807:=by obtain⟨A,n,c,e1,e2,e3,e4,e5⟩:=hh;unfold maxLen at e4;omega
 refine' ZPZ;have HQ:Hid (Mi d=(Bq d.plan&&Be d.fwds&&Ee d.held&&Fp d.size)):=rfl;go_enter func80,ntmps80;go_wp2;rw[<-di.out]
 go_loop[3] (fun i=>∃k:Nat,k<=d.held.length/\i=.int .i64 k/\Hid (∀j (h:j<d.held.length),j<k->Ap d.held[j]=true)) (fun i=>d.held.length - (intOf i).toNat)
 case atStart=>exact Yc
 case round=>
  refine' YH;by_cases ab:k<d.held.length
  .obtain⟨b,o,rfl,hb,ag,x1⟩:=HR.out.strU k ab
   have HX:Hid (∀h:Ap d.held[k]=true,∀j (h1:j<d.held.length),j<k+1->Ap d.held[j]=true):=fun h j h1 hj=>Yb
   have HY:=aA (AqI ab);generalize d.held[k]=x at *;obtain⟨r,ak⟩:∃r,Hid (Ap x=r):=⟨_,rfl⟩
   refine' ZC;refine(Cm x _ ag).mono ?_;rw[ak.out];refine' ZZ;cases r
   .refine' ZI;exact⟨Al (by rw[HQ.out,HY.out ak.out];simp),HT.out⟩
   exact ZPQ
  .have HE:=aA (AsJ fun j hj=>HG.out j hj ZA)
   refine' ZC;refine(Fo _ d.plan _ HP.out).mono ?_;refine' zh;cases h1:Bq d.plan
   exact ZHs;refine' zp;refine(D2 _ d.fwds _ (HF.out.on l1)).mono ?_;refine' zq;cases h2:Be d.fwds
   .refine' zN;refine' ZI;exact⟨Al ZEr,Aa HT.out l1⟩
   refine' zN;by_cases qS:(d.held.length:Int)<=30
   .have yT:Hid (Ee d.held=true):=by{show _=_;rw[HE.out,aL ZA]};refine' ZC;refine(Nm d.size _).mono ?_;refine' ZPY;exact⟨Al (by rw[HQ.out,H1.out,H2.out,yT.out,ak.out];rfl),Aa HT.out l1⟩
   .have yT:Hid (Ee d.held=false):=by{show _=_;rw[HE.out,aP ZA]};have hd:=aP qS
    refine' ZI;exact⟨Al (by rw[HQ.out,H1.out,H2.out,yT.out];rfl),Aa HT.out l1⟩
def Hl(p:Pln)(c:Y_):Int:=if Bq p then y6 p.order c else -1
theorem AsX(v p c w)(hv:rdP w w.heap.size v p):
 C_ 142 #[v,.string c] w (.int .i64 (Hl p c)):=by
 refine' Rr;subst e0;have HO:Hid (R_ w0 (.slice A0 p.order.length c0) p.order):=by obtain⟨vo,h1,_,_,h4⟩:=HP.out;refine' ZEq;subst h1;exact h4
 refine' zT;clear ac hv;refine' fL;have HQ:Hid (Hl p c=if Bq p then y6 p.order c else -1):=rfl;go_enter func142,ntmps142
 refine' ZHr;cases h1:Bq p
 .refine' zS;refine' ZI;exact⟨Bo (by rw[HQ.out,H1.out];rfl),Aa HT.out l1⟩
 refine' zp;refine(Nf _ p.order c _ (HO.out.on l1)).mono ?_;refine' zq;obtain⟨r,ak⟩:∃r,Hid (y6 p.order c=r):=⟨_,rfl⟩;rw[ak.out]
 refine' ZI;exact⟨Bo (by rw[HQ.out,H1.out,ak.out];rfl),Aa HT.out l1⟩
theorem AsI{c}(h:Ap c=true):c.size<=maxLen:=by unfold Ap at h;simp only[aO,dI]at h;exact ZN
theorem ZCm{fs c}(h:Be fs=true)(hc:c.size<=maxLen):(Bc fs c).1.size<=maxLen:=by refine(ZCs (fun x hx=>?_) _ _ _ hc).1;refine' eY;exact AsI ((Ch.1 h).2 k hk).2.1
theorem AaB(v vb fs xs w)(hv:R_ w v fs)(hb:R_ w vb xs):
 Calls Tryz.prog 210 #[v,vb] w fun e w'=>∃vA vB,e=.returned (.tuple #[vA,vB,.bool (Ve fs xs)])/\own 119 w.heap.size w' vA (E6 fs xs)/\own 119 w.heap.size w' vB (Gu fs xs)/\apart vA vB/\B_ w w':=by
 refine' zR;clear hv;refine' Uz;refine' YA;refine' ZN8;have HQ:Hid (Ve fs xs=(Be fs&&z_ xs)):=rfl;refine' Zl;go_enter func210,ntmps210
 refine' ZIC;refine' zh;cases h1:Be fs
 .have HF:Hid (Ve fs xs=false):=z7
  clear h1
  exact Rd
 refine' zS;refine' ZEi;clear b1 b2;cases h2:z_ xs
 .have HF:Hid (Ve fs xs=false):=Ww
  clear h2
  refine' zX;exact⟨_,_,Bf ZX,ZN9,ZOA,.inl rfl,l2⟩
 refine' ZOB;go_loopw[7,8,24] (fun a b i wr=>∃k:Nat,k<=xs.length/\i=.int .i64 k/\B_ w wr/\own 119 w.heap.size wr a (F9 fs (xs.take k))/\own 119 w.heap.size wr b (Lj fs (xs.take k))/\Hid (apart a b)) (fun _ _ i _=>xs.length - (intOf i).toNat)
 case atStart=>exact⟨0,aN _,rfl,l2,own.nil_ _ _ _,own.nil_ _ _ _,.inl rfl⟩
 case round=>
  refine' Uy;clear l0 l1 l2;by_cases ab:k<xs.length
  .refine' ZOC;refine' S7;have ll:=Aa lr (Aw de).1;refine' ZEl;refine' ZC;rw[<-kz.out];refine(Hj _ fs x.code _ (HV.out.on ll) fj ZA).mono ?_;rw[dj.out,tr.out];cases hf:(Bc fs x.code).2.2
   .refine' ZEy;have bu:=aA (HB.out.below B4);refine' ZEz;refine' Rc;clear b4 B4 hf
    go_wp2_with (at_builtin;refine An (α:=Ltr) rfl (.tmp 44) (.tmp 46) 27 rfl w.heap.size 119 i1 _ 24 aV ji dr du dw rfl ZE (.slice AB bs.length cB) bs x rfl (bu.out.alloc _) ⟨w4.heap.size,0,none⟩ 1 (Ltr.cells x) rfl ⟨⟨fq,fj⟩,rfl⟩ (Bz w4 _ (Ltr.cells x)) ZN ZA ZH ?_;refine' zH)
    exact R7
   .refine' ZEy;have bu:=aA (HB.out.below B4);refine' Ux;refine' Rc;clear b4 B4 hf;refine' ZOD;rw[mf]at y0 fq;rw[pJ]at tS;rw[pJ];clear hy mf pJ
    go_wp2_with (at_builtin;refine An (α:=Ltr) rfl (.tmp 37) (.tmp 42) 27 rfl w.heap.size 119 i1 _ 24 aV ji dr du dw rfl ZE (.slice AA sa.length cA) sa y rfl (jm.out.alloc _) ⟨w4.heap.size,0,none⟩ 1 (Ltr.cells y) rfl ⟨⟨fq,tS⟩,rfl⟩ (Bz w4 _ (Ltr.cells y)) ZN ZA ZH ?_;refine' zH)
    exact ZOE
  exact R6
theorem Ah3(vb v xs hs w)(hb:R_ w vb xs)(hv:R_ w v hs):
 Calls Tryz.prog 211 #[vb,v] w fun e w'=>∃vA vB,e=.returned (.tuple #[vA,vB,.bool (Qt hs xs)])/\own 119 w.heap.size w' vA (Jf hs xs)/\own 119 w.heap.size w' vB (Je hs xs)/\apart vA vB/\B_ w w':=by
 refine' zR;clear hv;refine' Uz;refine' YA;refine' ZOF;have HQ:Hid (Qt hs xs=(z_ xs&&Ee hs)):=rfl;refine' Zl;go_enter func211,ntmps211
 refine' ZID;refine' zh;cases h1:z_ xs
 .have HF:Hid (Qt hs xs=false):=z7
  clear h1
  exact Rd
 have kw:=Cq h1;refine' zp;refine(ZBL _ hs _ (HV.out.on l1)).mono ?_;refine' zq;clear b1;cases h2:Ee hs
 .have HF:Hid (Qt hs xs=false):=Ww
  clear h2
  exact Rd
 refine' zN;have HF:Hid (Qt hs xs=true):=ZEj
 refine' ZOG;go_loopw[7,8,21] (fun a b i wr=>∃k:Nat,k<=xs.length/\i=.int .i64 k/\B_ w wr/\own 119 w.heap.size wr a (Kq hs (xs.take k))/\own 119 w.heap.size wr b (Ng hs (xs.take k))/\Hid (apart a b)) (fun _ _ i _=>xs.length - (intOf i).toNat)
 case atStart=>exact ZOH
 case round=>
  refine' Uy;clear l0 l1;by_cases ab:k<xs.length
  .refine' ZOI;refine' ZOJ;refine(ZBR _ hs x.code _ (HV.out.on l4)).mono ?_;by_cases hf:y6 hs x.code<0
   .have hd:decide (0<=y6 hs x.code)=false:=ZH
    rw[hd];refine' fO;refine' Ux;clear hf hd
    go_wp2_with (at_builtin;refine An (α:=Ltr) rfl (.tmp 33) (.tmp 35) 27 rfl w.heap.size 119 i1 _ 24 aV ji dr du dw rfl ZE (.slice AA sa.length cA) sa x rfl (jm.out.alloc _) ⟨wl.heap.size,0,none⟩ 1 (Ltr.cells x) rfl ⟨⟨fq,fj⟩,rfl⟩ (Bz wl _ (Ltr.cells x)) ZN ZA ZH ?_;refine' zH)
    exact ZIE
   .have hd:decide (0<=y6 hs x.code)=true:=ZH
    rw[hd];refine' fO;refine' ZOK;clear hf hd
    go_wp2_with (at_builtin;refine An (α:=Ltr) rfl (.tmp 29) (.tmp 31) 27 rfl w.heap.size 119 i1 _ 24 aV ji dr du dw rfl ZE (.slice AB bs.length cB) bs x rfl (bu.out.alloc _) ⟨wl.heap.size,0,none⟩ 1 (Ltr.cells x) rfl ⟨⟨fq,fj⟩,rfl⟩ (Bz wl _ (Ltr.cells x)) ZN ZA ZH ?_;refine' zH)
    exact R7
  exact R6
theorem ZBY(v vb fs xs w)(hv:R_ w v fs)(hb:R_ w vb xs):
 Calls Tryz.prog 81 #[v,vb] w fun e w'=>∃vA vB,e=.returned (.tuple #[vA,vB,.bool (Ve fs xs)])/\own 119 w.heap.size w' vA (E6 fs xs)/\own 119 w.heap.size w' vB (Gu fs xs)/\apart vA vB/\B_ w w':=by
 refine' zR;clear hv;refine' Uz;refine' zm;refine' ZN8;refine' ZOL;have HQ:Hid (Ve fs xs=(Be fs&&z_ xs)):=rfl;go_enter func81,ntmps81
 refine' ZOM;refine(D2 _ fs _ (HV.out.on lz)).mono ?_;refine' ZZ;cases h1:Be fs
 .have HF:Hid (Ve fs xs=false):=z7
  clear h1
  refine' zX;exact⟨_,_,Bf ZX,ZON,ZOO,lp.out,lz⟩
 refine' zp;refine' ZOP;clear b2;cases h2:z_ xs
 .have HF:Hid (Ve fs xs=false):=Ww
  clear h2
  exact ZOQ
 refine' ZOB;go_loopw[7,8,9] (fun a b i wr=>∃k:Nat,k<=xs.length/\i=.int .i64 k/\B_ w wr/\own 119 w.heap.size wr a (F9 fs (xs.take k))/\own 119 w.heap.size wr b (Lj fs (xs.take k))/\Hid (apart a b)) (fun _ _ i _=>xs.length - (intOf i).toNat)
 case atStart=>exact⟨0,aN _,rfl,l2,OA.out,OB.out,lp.out⟩
 case round=>
  refine' Uy;clear lz l2 OA OB lp;by_cases ab:k<xs.length
  .refine' ZOC;refine' ZC;refine(It _ fs x.code _ (HV.out.on lr) fj ZA).mono ?_;rw[dj.out,tr.out];cases hf:(Bc fs x.code).2.2
   .refine' ZOR;refine' ZEz;refine' Rc;clear b4 hf
    go_wp2_with (at_builtin;refine An (α:=Ltr) rfl (.tmp 53) (.tmp 58) 27 rfl w.heap.size 119 i1 _ 24 aV ji dr du dw rfl ZE (.slice AB bs.length cB) bs x rfl (bu.out.alloc _) ⟨w4.heap.size,0,none⟩ 1 (Ltr.cells x) rfl ⟨⟨fq,fj⟩,rfl⟩ (Bz w4 _ (Ltr.cells x)) ZN ZA ZH ?_;refine' zH)
    exact R7
   .refine' ZOR;refine' Ux;refine' Rc;clear b4 hf;refine' ZOD;rw[mf]at c1 fq;rw[pJ]at tS;rw[pJ];clear hy mf pJ
    go_wp2_with (at_builtin;refine An (α:=Ltr) rfl (.tmp 43) (.tmp 51) 27 rfl w.heap.size 119 i1 _ 24 aV ji dr du dw rfl ZE (.slice AA sa.length cA) sa y rfl (jm.out.alloc _) ⟨w4.heap.size,0,none⟩ 1 (Ltr.cells y) rfl ⟨⟨fq,tS⟩,rfl⟩ (Bz w4 _ (Ltr.cells y)) ZN ZA ZH ?_;refine' zH)
    exact ZOE
  exact R6
theorem Ah2(vb v xs hs w)(hb:R_ w vb xs)(hv:R_ w v hs):
 Calls Tryz.prog 82 #[vb,v] w fun e w'=>∃vA vB,e=.returned (.tuple #[vA,vB,.bool (Qt hs xs)])/\own 119 w.heap.size w' vA (Jf hs xs)/\own 119 w.heap.size w' vB (Je hs xs)/\apart vA vB/\B_ w w':=by
 refine' zR;clear hv;refine' eP;obtain⟨A',n',c',rfl,qL,UU,mj,tO⟩:=HV.out;subst qL;unfold maxLen at mj;have JF:=aA tO;clear tO;obtain⟨A,n,c,rfl,hn,hc,hm,hr⟩:=hb;refine' zm;refine' ZOF;refine' ZOL;have HQ:Hid (Qt hs xs=(z_ xs&&(decide (hs.length<=30)&&hs.all Ap))):=rfl;go_enter func82,ntmps82
 refine' ZOM;refine' ZOP;clear b2 lz;cases h2:z_ xs
 .have HF:Hid (Qt hs xs=false):=by show _=_;rw[HQ.out,h2];rfl
  clear h2
  exact ZOS
 have kw:=Cq h2;refine' zN;by_cases qS:hs.length<=30
 rotate_left
 .have HF:Hid (Qt hs xs=false):=by show _=_;rw[HQ.out,aP qS];simp
  have rD:¬((hs.length:Int)<=30):=ZA
  exact ZOS
 have rD:(hs.length:Int)<=30:=ZA
 have y9:Hid (Qt hs xs=hs.all Ap):=by show _=_;rw[HQ.out,H2.out,aL qS];simp
 clear HQ
 refine' ZC;go_loopw[9,10] (fun g i wr=>∃j:Nat,j<=hs.length/\i=.int .i64 j/\g=.bool ((hs.take j).all Ap)/\wr=w2) (fun _ i _=>hs.length - (intOf i).toNat)
 case atStart=>exact⟨0,aN _,rfl,ZOT,rfl⟩
 case round=>
  obtain⟨j,hj,rfl,rfl,rfl⟩:=hrel;by_cases ab:j<hs.length
  .have ly:(j:Int)<(hs.length:Int):=ZA
   obtain⟨b',o',rfl,qJ,cm,d1⟩:=JF.out.strU j ab;have fx:Hid ((hs.take (j+1)).all Ap=((hs.take j).all Ap&&Ap hs[j])):=Hv hs j ab;generalize hs[j]=s at *;cases ha:(hs.take j).all Ap
   .have HG:Hid ((hs.take (j+1)).all Ap=false):=by{show _=_;rw[fx.out,ha];rfl};clear ha
    exact ZOU
   .obtain⟨r,hr⟩:∃r,Ap s=r:=⟨_,rfl⟩
    have HG:Hid ((hs.take (j+1)).all Ap=r):=by{show _=_;rw[fx.out,ha,hr];simp};clear ha
    refine' ZC;refine(AyP cm hr).mono ?_;clear hr;rintro e w5 ⟨rfl,rfl⟩
    exact ZOU
  .have ly:¬((j:Int)<(hs.length:Int)):=ZA
   have xg:=aA (show j=hs.length by omega);have HTA:Hid ((hs.take j).all Ap=Qt hs xs):=by{show _=_;rw[y9.out,xg.out,bA]};rw[HTA.out];cases hg:Qt hs xs
   .have HF:=aA hg;clear hg
    exact ZOV
   .have HF:=aA hg;clear hg
    refine' ZOG;go_loopw[7,8,11] (fun a b i wr=>∃k:Nat,k<=xs.length/\i=.int .i64 k/\B_ w wr/\own 119 w.heap.size wr a (Kq hs (xs.take k))/\own 119 w.heap.size wr b (Ng hs (xs.take k))/\Hid (apart a b)) (fun _ _ i _=>xs.length - (intOf i).toNat)
    case atStart=>exact⟨0,aN _,rfl,l2,OA.out,OB.out,lp.out⟩
    case round=>
     refine' Uy;clear l2 OA OB lp;by_cases ab:k<xs.length
     .refine' ZOI;have jm:=HA;have bu:=HB;refine' ZIF;obtain⟨r,hr⟩:∃r,y6 hs x.code=r:=⟨_,rfl⟩;rw[hr]at kK jg kt io
      refine' ZC;refine(AfK (HV.out.on lr) hr).mono ?_;clear hr;refine' fO;by_cases hf:r<0
      .have CV:¬(0<=r):=ZA
       refine' Ux;go_wp2_with (at_builtin;refine An (α:=Ltr) rfl (.tmp 59) (.tmp 64) 27 rfl w.heap.size 119 i1 _ 24 aV ji dr du dw rfl ZE (.slice AA sa.length cA) sa x rfl (jm.out.alloc _) ⟨w3.heap.size,0,none⟩ 1 (Ltr.cells x) rfl ⟨⟨fq,fj⟩,rfl⟩ (Bz w3 _ (Ltr.cells x)) ZN ZA ZH ?_;refine' zH)
       refine' ZOW;have l5:B_ w w5:=(Ae lr (aB #[aH aD x.id,aG x.code] 119)).grown aj ZH fun q hq=>(jm.out.blk q hq).1
       exact ZIG
      .have CV:0<=r:=ZA
       refine' ZOK;go_wp2_with (at_builtin;refine An (α:=Ltr) rfl (.tmp 52) (.tmp 57) 27 rfl w.heap.size 119 i1 _ 24 aV ji dr du dw rfl ZE (.slice AB bs.length cB) bs x rfl (bu.out.alloc _) ⟨w3.heap.size,0,none⟩ 1 (Ltr.cells x) rfl ⟨⟨fq,fj⟩,rfl⟩ (Bz w3 _ (Ltr.cells x)) ZN ZA ZH ?_;refine' zH)
       refine' ZOX;have l5:B_ w w5:=(Ae lr (aB #[aH aD x.id,aG x.code] 119)).grown aj ZH fun q hq=>(bu.out.blk q hq).1
       exact ZOY
     .refine' YO;have bd:¬((k:Int)<(xs.length:Int)):=ZA
      refine' zX;rw[HE.out,bA]at hA hB;exact⟨_,_,Bf ZX,by rw[HY.out.1];exact hA,by rw[HY.out.2];exact hB,fe.out,lr⟩
section
variable{P:Program}{fn:Func}{R:Ending->World->Prop}{a:Act}{w:World}{p u v r:Tmp}{ty:TypeId}{g:Nat}{t:TypeId}{cs:Array Value}{d:TypeDesc}
theorem AzE(hg:w.heap[g]? =some (.cells cs t (0,0)))(hu:P.underlying ty=some d)(hd:(match d with|.struct _|.array _ _=>true|_=>false)=true)(hi:(P.info? ty).map (·.size)=some cs.size):
 (loadVar ty ⟨g,0,none⟩).run P w=.ok (.agg cs) w:=run_loadVar_row w g t ty cs (0,0) d hg hu hd hi
theorem ZC0(h:fn.results=#[.cell p ty,.tmp u])(hp:a.tmps.getD p undef=.pointer (P_ g))(hg:w.heap[g]? =some (.cells cs t (0,0)))
 (hu:P.underlying ty=some d) (hd:(match d with|.struct _|.array _ _=>true|_=>false)=true) (hi:(P.info? ty).map (·.size)=some cs.size) (hf:a.defers=[])
 (hR:R (.returned (.tuple #[.agg cs,a.tmps.getD u undef])) w):bodyPost P fn R .ret a w:=by refine' ZOi;simp[results,h,BV,asAddr,AzE hg hu hd hi,Sem.run_bind,Result.andThen]
end
theorem ZEL{w:World}{g}{T:TypeId}{u0 u1 u2 u3 a b c d}(h:w.heap[g]? =some (.cells #[u0,u1,u2,u3] T (0,0))):
 ((((w.setCell ⟨g,0,none⟩ a).setCell ⟨g,1,none⟩ b).setCell ⟨g,2,none⟩ c).setCell ⟨g,3,none⟩ d).heap[g]? =some (.cells #[a,b,c,d] T (0,0)):=
 bO _ _ _ _ _ _ (bO _ _ _ _ _ _ (bO _ _ _ _ _ _ (bO _ _ _ _ _ _ h)))
theorem Tryz.sizeRpt:(Tryz.prog.info? 78).map (·.size)=some 4:=ZB
def ZAh(T:TypeId)(d:Dy)(xs:List Ltr)(w:World)(e:Ending)(w':World):Prop:=
 ∃vR,e=.returned (.tuple #[vR,.bool (Ka d xs)])/\Wq T w.heap.size w' vR (Dh d xs)/\B_ w w'
theorem ZCS{T:TypeId}{d xs w w'}(h:Ka d xs=false)(hb:B_ w w'):
 ZAh T d xs w (.returned (.tuple #[.agg #[.slice none 0 0,.slice none 0 0,.slice none 0 0,.slice none 0 0],.bool false])) w':=
 ⟨_,eO,by unfold Dh;rw[h];exact Wq.none_ _ _ _,hb⟩
theorem AeQ{T g b1 b2 b3:Nat}{d xs w w5 vR vS vH vK}(h:Ka d xs=true)(hg:w.heap.size<=g)(h1:g<b1)(h2:g<b2)(h3:g<b3)
 (oR:own T b3 w5 vR (Tb d xs).round) (oS:own T b3 w5 vS (Tb d xs).strange) (oH:own T b2 w5 vH (Tb d xs).held) (oK:own T b1 w5 vK (Tb d xs).stuck)
 (ha:apart vR vS/\apart vR vH/\apart vR vK/\apart vS vH/\apart vS vK/\apart vH vK) (hb:B_ w w5):
 ZAh T d xs w (.returned (.tuple #[.agg #[vR,vS,vH,vK],.bool true])) ((((w5.setCell ⟨g,0,none⟩ vR).setCell ⟨g,1,none⟩ vS).setCell ⟨g,2,none⟩ vH).setCell ⟨g,3,none⟩ vK):=by
 have jy:∀{b:Nat} {v:Value} {ys:List Ltr},g<b->own T b w5 v ys->own T w.heap.size ((((w5.setCell ⟨g,0,none⟩ vR).setCell ⟨g,1,none⟩ vS).setCell ⟨g,2,none⟩ vH).setCell ⟨g,3,none⟩ vK) v ys:=fun ab ho=>
  (Bd (Bd (Bd (Bd ho ⟨g,0,none⟩ vR ab) ⟨g,1,none⟩ vS ab) ⟨g,2,none⟩ vH ab) ⟨g,3,none⟩ vK ab).base_ (iA (Nat.lt_of_le_of_lt hg ab))
 refine⟨_,eO,?_,Ai (Ai (Ai (Ai hb (p:=⟨g,0,none⟩) hg vR) (p:=⟨g,1,none⟩) hg vS) (p:=⟨g,2,none⟩) hg vH) (p:=⟨g,3,none⟩) hg vK⟩;unfold Dh;rw[aQ h];exact⟨vR,vS,vH,vK,rfl,jy h3 oR,jy h3 oS,jy h2 oH,jy h1 oK,ha⟩
theorem Ap6(v vb d xs w)(hv:rdD w w.heap.size v d)(hb:R_ w vb xs):
 Calls Tryz.prog 129 #[v,vb] w (ZAh 119 d xs w):=by
 refine' ZOZ;go_enter func129,ntmps129
 refine' ZC;rw[<-di.out,<-HW.out];refine(ZCC _ d _ (HD.out.on lW)).mono ?_;refine' ZOa;refine(Cn _ xs _ (HB.out.on l1)).mono ?_;refine' ZOb;refine(AaB _ _ d.fwds xs _ (HF.out.on l2) (HB.out.on l2)).mono ?_;refine' ZOc;refine(Ah3 _ _ (E6 d.fwds xs) d.held _ OA.out.rd (HH.out.on l3)).mono ?_;refine' ZOd;refine(ZAd _ _ d.plan (Jf d.held (E6 d.fwds xs)) _ (HP.out.on l4) OF.out.rd).mono ?_;exact ZOe
theorem AnO(v vb d xs w)(hv:rdD w w.heap.size v d)(hb:R_ w vb xs):
 Calls Tryz.prog 34 #[v,vb] w (ZAh 119 d xs w):=by
 refine' ZOZ;go_enter func34,ntmps34
 refine' ZC;rw[<-di.out,<-HW.out];refine(AeG _ d _ (HD.out.on lW)).mono ?_;refine' ZOa;refine(C6 _ xs _ (HB.out.on l1)).mono ?_;refine' ZOb;refine(ZBY _ _ d.fwds xs _ (HF.out.on l2) (HB.out.on l2)).mono ?_;refine' ZOc;refine(Ah2 _ _ (E6 d.fwds xs) d.held _ OA.out.rd (HH.out.on l3)).mono ?_;refine' ZOd;refine(ZBu _ _ d.plan (Jf d.held (E6 d.fwds xs)) _ (HP.out.on l4) OF.out.rd).mono ?_;exact ZOe
theorem AjB{p}(hb:2<=p.bins){k xs x}:x∈Kr p k xs↔x∈xs/\0<=y6 p.order x.code:=by
 unfold Kr;rw[AhV];have h1:=ZCD (p:=p) (c:=x.code) (k:=k) hb;have h2:=M2 p x.code k hb;constructor
 .rintro⟨a,b,c⟩;exact⟨a,ZA⟩
 .rintro⟨a,b⟩;exact⟨a,ZA,ZA⟩
theorem AcM{p}(hb:2<=p.bins):∀(n k:Nat) (xs:List Ltr) (x:Ltr),x∈Cd p k (n+1) xs↔x∈xs/\0<=y6 p.order x.code
 |0,k,xs,x=>AjB hb
 |n+1,k,xs,x=>by show x∈Cd p (k+1) (n+1) (Kr p k xs)↔_;rw[AcM hb n,AjB hb];exact⟨fun h=>h.1,fun h=>⟨h,h.2⟩⟩
theorem BbV{p xs}(h:M4 p xs=true)(x):x∈Dr p xs↔x∈xs/\0<=y6 p.order x.code:=by
 have hp:Bq p=true:=by unfold M4 at h;refine' Xx;exact h.1
 have hb:=Dz hp;unfold Dr;rw[aQ h];obtain⟨n,hn⟩:∃n,p.passes.toNat=n+1:=⟨p.passes.toNat - 1,ZA⟩;rw[hn];exact AcM hb.1 n 0 xs x
theorem As3{p xs}(h:M4 p xs=true):z_ (Dr p xs)=true:=by unfold Dr;rw[aQ h];unfold M4 at h;refine' Xx;exact Pt p _ _ _ h.2
theorem BaB{p xs k ms}(h:Lo p xs k ms=true):z_ (Fr p xs k ms)=true:=by unfold Fr;rw[aQ h];exact Pt p _ _ _ (AdL _ _ (AcJ (Um.1 h).2.1))
theorem Qd{xs ys}(h:z_ xs=true)(hs:ys.Sublist xs):z_ ys=true:=by obtain⟨h1,h2,h3⟩:=Ke.1 h;have:=hs.length_le;exact Ke.2 ⟨ZA,fun x hx=>h2 x (hs.subset hx),h3.sublist hs⟩
theorem ArL{n}:Fp n=true↔1<=n/\n<=20:=by unfold Fp;rw[aO,bD,bD]
theorem ArR{fs}(h:Be fs=true){c}(hi:¬Gg fs c<0):Ap (Vt fs c)=true:=by
 obtain⟨k,hk⟩:=aK (Int.not_lt.1 hi);have hr:=(AbC (fun x=>zU x.src c) fs).2;have gj:o_ (fun x:Fwd=>zU x.src c) fs=k:=hk;have hl:k<fs.length:=ZA
 rw[Ah6 hk hl];exact((Ch.1 h).2 k hl).2.1
theorem AcK{fs}(h:Be fs=true):∀(f:Nat) (c:Y_) (n:Nat),Ap c=true->(Gb fs f c n).2.2=true->Ap (Gb fs f c n).1=true/\Gg fs (Gb fs f c n).1<0
 |0,c,n,_,h1=>by simp[Gb]at h1
 |f+1,c,n,hc,h1=>by
  unfold Gb at h1⊢;by_cases hi:Gg fs c<0
  .rw[aQ hi];exact⟨hc,hi⟩
  .rw[aM hi]at h1⊢
   exact AcK h f _ _ (ArR h hi) h1
theorem AgM{fs}(h:Be fs=true){c}(hc:Ap c=true)(h1:(Bc fs c).2.2=true):Ap (Bc fs c).1=true/\Gg fs (Bc fs c).1<0:=AcK h _ _ _ hc h1
theorem AzD{fs xs}(hf:Be fs=true)(hx:z_ xs=true):z_ (F9 fs xs)=true:=by
 obtain⟨h1,h2,h3⟩:=Ke.1 hx;refine Ke.2 ⟨?_,?_,?_⟩
 .unfold F9
  refine' ze;exact aI (bL _ _) h1
 .intro y hy
  unfold F9 at hy;refine' ZOf;obtain⟨a,b,c⟩:=h2 x ke;exact⟨a,b,(AgM hf c t7).1⟩
 .unfold F9
  exact ZOg
theorem Rb{d xs}:Ka d xs=true↔(Bq d.plan=true/\Be d.fwds=true/\Ee d.held=true/\Fp d.size=true)/\z_ xs=true:=by
 unfold Ka Mi;simp only[aO];constructor
 .rintro⟨⟨⟨⟨a,b⟩,c⟩,e⟩,f⟩;exact⟨⟨a,b,c,e⟩,f⟩
 .rintro⟨⟨a,b,c,e⟩,f⟩;exact⟨⟨⟨⟨a,b⟩,c⟩,e⟩,f⟩
theorem AuY{d xs}(h:Ka d xs=true):Ve d.fwds xs=true/\Qt d.held (E6 d.fwds xs)=true/\M4 d.plan (Jf d.held (E6 d.fwds xs))=true:=by
 obtain⟨⟨hp,hf,hh,_⟩,hx⟩:=Rb.1 h;have h1:Ve d.fwds xs=true:=by unfold Ve;rw[hf,hx];rfl
 have h2:Qt d.held (E6 d.fwds xs)=true:=by unfold Qt E6;rw[aQ h1,AzD hf hx,hh];rfl
 refine⟨h1,h2,?_⟩;unfold M4 Jf;rw[aQ h2,hp];have:z_ (E6 d.fwds xs)=true:=by unfold Qt at h2;rw[aO]at h2;exact h2.1
 exact Qd this dR
theorem Ak3{d xs}(h:Ka d xs=true):Jf d.held (E6 d.fwds xs)=Kq d.held (F9 d.fwds xs)/\(Dh d xs).held=Ng d.held (F9 d.fwds xs)/\(Dh d xs).stuck=Lj d.fwds xs/\(Dh d xs).round=Dr d.plan (Kq d.held (F9 d.fwds xs))/\(Dh d xs).strange=Bn (fun x=>Dm d.plan x.code 0) (Kq d.held (F9 d.fwds xs))/\M4 d.plan (Kq d.held (F9 d.fwds xs))=true/\z_ (F9 d.fwds xs)=true:=by
 obtain⟨h1,h2,h3⟩:=AuY h;have e1:E6 d.fwds xs=F9 d.fwds xs:=by unfold E6;rw[aQ h1]
 have e2:Jf d.held (E6 d.fwds xs)=Kq d.held (F9 d.fwds xs):=by unfold Jf;rw[aQ h2,e1]
 unfold Dh;rw[aQ h];refine⟨e2,?_,?_,?_,?_,?_,?_⟩
 .show Je _ _=_
  unfold Je;rw[aQ h2,e1]
 .show Gu _ _=_
  unfold Gu;rw[aQ h1]
 .show Dr _ _=_
  rw[e2]
 .show Ha _ _=_
  unfold Ha;rw[aQ h3,e2]
 .rw[<-e2];exact h3
 .have:=h2;unfold Qt at this;rw[aO,e1]at this;exact this.1
theorem AbJ{d xs}(h:Ka d xs=true):z_ (Dh d xs).round=true/\z_ (Dh d xs).strange=true/\z_ (Dh d xs).held=true/\z_ (Dh d xs).stuck=true:=by obtain⟨_,e1,e2,e3,e4,h1,h2⟩:=Ak3 h;rw[e1,e2,e3,e4];have hf:z_ (Kq d.held (F9 d.fwds xs))=true:=Qd h2 dR;exact⟨As3 h1,Qd hf dR,Qd h2 dR,Qd (Rb.1 h).2 dR⟩
def F_(r:Rpt):List Ltr:=r.round++r.strange++r.held++r.stuck
theorem ZED{α:Type}(p:α->Bool)(xs:List α):(xs.filter p++xs.filter fun x=> !p x).Perm xs:=by
 induction xs with
 |nil=>exact .nil
 |cons x xs ih=>
  cases hp:p x
  .simp only[gR,hp,Bool.not_false,if_true,ZDB,if_false]
   exact(ZB1).trans (ih.cons x)
  .simp only[gR,hp,Bool.not_true,if_true,ZDB,if_false,cK]
   exact ih.cons x
theorem Az2{fs xs}:(F9 fs xs).map Ltr.id=(xs.filter fun x=>(Bc fs x.code).2.2).map Ltr.id:=by unfold F9;rw[gZ];rfl
theorem AqB{xs ys}(hx:z_ xs=true)(hy:z_ ys=true)(h:∀x,x∈xs↔x∈ys):xs.Perm ys:=by
 have jy:∀{zs:List Ltr},z_ zs=true->zs.Nodup:=fun{zs} hz=>(Ke.1 hz).2.2.imp fun{a b} pX e=>pX (by rw[e])
 exact(List.perm_ext_iff_of_nodup (jy hx) (jy hy)).2 h
theorem Bb2{d xs}(h:Ka d xs=true):((F_ (Dh d xs)).map Ltr.id).Perm (xs.map Ltr.id):=by
 obtain⟨_,e1,e2,e3,e4,h1,h2⟩:=Ak3 h;obtain⟨⟨hp,hf,hh,hs⟩,hb⟩:=Rb.1 h;have hpb:=Dz hp;have hF:z_ (Kq d.held (F9 d.fwds xs))=true:=Qd h2 dR;unfold F_;rw[e1,e2,e3,e4];obtain⟨F,NR⟩:∃F,F=Kq d.held (F9 d.fwds xs):=⟨_,rfl⟩;rw[<-NR]at h1 hF⊢;have hR:(Dr d.plan F++Bn (fun x=>Dm d.plan x.code 0) F).Perm F:=by
  have mG:(Dr d.plan F).Perm (F.filter fun x=>decide (0<=y6 d.plan.order x.code)):=AqB (As3 h1) (Qd hF dR) fun x=>by rw[BbV h1,List.mem_filter,bD]
  have nP:Bn (fun x=>Dm d.plan x.code 0) F=F.filter fun x=> !decide (0<=y6 d.plan.order x.code):=by
   unfold Bn
   congr 1
   funext x
   have hb:Dm d.plan x.code 0<0↔y6 d.plan.order x.code<0:=ZCD hpb.1;rw[<-decide_not];refine decide_eq_decide.2 ?_;show Dm d.plan x.code 0<0↔_;omega
  rw[nP];exact(mG.append_right _).trans (ZED _ F)
 have hH:(F++Ng d.held (F9 d.fwds xs)).Perm (F9 d.fwds xs):=by rw[NR];exact ZED _ _
 have hS:((Dr d.plan F++Bn (fun x=>Dm d.plan x.code 0) F++Ng d.held (F9 d.fwds xs)).map Ltr.id).Perm ((F9 d.fwds xs).map Ltr.id):=((hR.append_right _).trans hH).map _;rw[cG];refine(hS.append_right _).trans ?_;rw[Az2,<-cG];exact(ZED _ _).map _
theorem AjJ{xs:List Ltr}:(xs.Pairwise fun x y=>x.id≠y.id)↔(xs.map Ltr.id).Nodup:=by unfold List.Nodup;rw[iK]
theorem AzU{d xs}(h:Ka d xs=true):z_ (F_ (Dh d xs))=true:=by
 have hp:=Bb2 h;obtain⟨o1,o2,o3,o4⟩:=AbJ h;obtain⟨h1,h2,h3⟩:=Ke.1 (Rb.1 h).2;refine Ke.2 ⟨?_,?_,?_⟩
 .have:=hp.length_eq
  rw[bI,bI]at this;omega
 .intro x hx
  unfold F_ at hx;rcases List.mem_append.1 hx with hx|hx
  .rcases List.mem_append.1 hx with hx|hx
   .rcases List.mem_append.1 hx with hx|hx
    .exact(Ke.1 o1).2.1 x hx
    .exact(Ke.1 o2).2.1 x hx
   .exact(Ke.1 o3).2.1 x hx
  .exact(Ke.1 o4).2.1 x hx
 .rw[AjJ,hp.nodup_iff,<-AjJ]
  exact h3
def bl(fs:List Fwd):List Fwd:=(fs.filter fun x=>(Bc fs x.src).2.2).map fun x=>⟨x.src,(Bc fs x.src).1⟩
theorem Wi{fs}:Be fs=true↔fs.length<=30/\(∀x∈fs,Ap x.src=true/\Ap x.dst=true)/\fs.Pairwise fun x y=>x.src≠y.src:=by
 rw[Ch,dJ];constructor
 .rintro⟨h1,h2⟩
  refine⟨h1,fun x hx=>?_,fun i j hi hj rg=>(h2 j hj).2.2 i rg⟩;refine' eY;exact⟨(h2 k hk).1,(h2 k hk).2.1⟩
 .rintro⟨h1,h2,h3⟩
  exact⟨h1,fun k hk=>⟨(h2 _ (aS hk)).1,(h2 _ (aS hk)).2,fun j hj=>h3 j k ZA hk hj⟩⟩
theorem An5{fs gs}(h:Be fs=true)(hp:fs.Perm gs):Be gs=true:=by obtain⟨h1,h2,h3⟩:=Wi.1 h;exact Wi.2 ⟨by rw[<-hp.length_eq];exact h1,fun x hx=>h2 x (hp.mem_iff.2 hx),hp.pairwise h3 (fun pX e=>pX e.symm)⟩
theorem ArY{fs}(h:Be fs=true):Be (bl fs)=true:=by
 obtain⟨h1,h2,h3⟩:=Wi.1 h;unfold bl;refine Wi.2 ⟨?_,?_,?_⟩
 .refine' ze;exact aI (bL _ _) h1
 .intro y hy
  refine' ZOf;exact⟨(h2 x ke).1,(AgM h (h2 x ke).1 t7).1⟩
 .exact ZOg
theorem BdL(n b w):
 Calls Tryz.prog 250 #[.int .i64 n,.int .i64 b] w fun e w'=>∃x:Int,e=.returned (.int .i64 x)/\ -1<=x/\x<=4/\w=w':=by
 go_enter func250,ntmps250;by_cases hn:0<=n
 .go_wp2
  go_loop[5] (fun i=>∃k:Nat,1<=k/\k<=5/\i=.int .i64 k) (fun i=>5 - (intOf i).toNat)
  case atStart=>exact⟨1,aC _,ZA,rfl⟩
  case round=>
   obtain⟨k,lv,p9,rfl⟩:=hrel
   refine' ZC;refine(ZBm b k _).mono ?_;refine' ZP;cases hs:Ms b k
   .refine' ZI;exact ZIH
   .have jd:(2<=b/\b<=16)/\1<=(k:Int)/\(k:Int)<=4:=by{simpa [Ms]using hs};refine' Zf;clear hs;obtain⟨⟨b1,b2⟩,k1,k2⟩:=jd
    refine' ZC;refine(AaN b k _ b1 b2 ZA).mono ?_;refine' ZP;generalize Ky b k=q;by_cases hq:n<=q
    .refine' ZI;exact ZIH
    .refine' ZC;go_round
     case rel=>exact⟨k+1,ZA,ZA,ZJ⟩
     case measure=>exact ZK
 .go_wp2
  go_loop[5] (fun i=>i=.int .i64 1) (fun i=>0)
  case atStart=>exact rfl
  case round=> subst hrel;refine' ZO;exact ZIH
def Sw(xs:List Y_):Prop:=∀x∈xs,x.size=7
theorem BeA(g p yD w)(hr:rdr w g p)(hp:p<=100000000000)(qq:1<=yD)(nD:yD<=100):
 Calls Tryz.prog 249 #[.pointer (P_ g),.int .i64 yD] w fun e w'=>∃(v:Value) (xs:List Y_) (p':Nat),e=.returned v/\own 9 w.heap.size w' v xs/\1<=xs.length/\xs.length<=100/\Sw xs/\rdr w' g p'/\p'<=p+1001/\w.grownBy w' (some g):=by
 have ab:=hr.lt;refine' zc;go_enter func249,ntmps249
 refine' ZC;have hA:=hr.alloc (aB #[] 9);refine' ZOh;have xD:=cQ w (aB #[] 9) (some g);generalize w.alloc (aB #[] 9)=wA at *;refine(p_ g p yD _ hA ZA ZS).mono ?_;rintro e w1 ⟨x,rfl,hx,ew,ey⟩;obtain⟨x0,x1⟩:=hx.2 ZA;obtain⟨N,rfl⟩:=aK x0;have iy:=pC.grown ey (l_ pC ab);have we:=vU xD ey;clear hx pC hA xD ey
 refine' ZC;go_loopw[5,6] (fun t i wr=>∃(k:Nat) (xs:List Y_) (q:Nat),k<=N+1/\i=.int .i64 k/\xs.length+k<=N+1/\Hid (k=N+1\/1<=xs.length)/\own 9 w.heap.size wr t xs/\Hid (Sw xs)/\rdr wr g q/\q+10*k<=p+1+10*(N+1)/\w.grownBy wr (some g)) (fun _ i _=>(intOf i).toNat)
 case atStart=>exact⟨N+1,[],p+1,aC _,ZJ,ZF,.inl rfl,iy,fun x hx=>Wt,ew,ZA,we⟩
 case round=>
  obtain⟨k,xs,q,hk,rfl,MH,HK,ho,HX,ko,xl,MI⟩:=hrel;refine' zO;clear iy ew we;have su:=aA MH;have kw:xs.length<=100:=ZA
  clear MH;by_cases fp:0<k
  .refine' ZN7;clear kq er ay ho;have ez:=aA mz;obtain⟨A,m,c,rfl,hm,_,_,_⟩:=mz.rd;subst hm;clear mz
   refine' ZC;refine(Lw _ xs s _ ez.out.rd).mono ?_;refine' ZP;have hrk:=ZER xs s;have qe:Hid (y6 xs s<0\/1<=xs.length):=by{show _\/_;omega};generalize y6 xs s=z at *;by_cases hz:z<0
   .go_wp2_with (at_builtin;refine Vk (α:=Y_) rfl (.tmp 23) (.tmp 25) _ rfl w.heap.size 9 i0 _ 16 aW hi ah ar ap rfl ZE (.slice A xs.length c) xs s rfl (ez.out.alloc _) ⟨w3.heap.size,0,none⟩ 1 [.string s] rfl ⟨xm,rfl⟩ (Bz w3 _ [.string s]) ZN ZA ZH ?_;intro v' w4 fd a6 _)
    have ju:Below w.heap.size w3 w4:=((aF _ _).alloc fu _).trans (Ay (ez.out.alloc _) a6 ZH);have ik:rdr w4 g q':=(fy.alloc _).append (ez.out.alloc _) a6 ab;have EL:w.grownBy w4 (some g):=Bd7 tW ju;clear a6 ju fy
    go_roundw
    case rel=>
     refine⟨k - 1,_,q',ZA,ZJ,ZEx,.inr ZF,fd,fun x hx=>?_,ik,ZA,EL⟩;refine' ZIB
     .simp at h
      subst h;exact nQ.out
    case measure=>exact ZK
   .have HZ:=aA hz;clear hz
    have hz':0<=z:=by{have:=HZ.out;omega};refine' ZC;go_roundw
    case rel=>exact⟨k - 1,xs,q',ZA,ZJ,Qz,.inr (by have:=qe.out;have:=HZ.out;omega),ez.out,HX.out,fy,ZA,tW⟩
    case measure=>exact ZK
  .refine' zY;obtain⟨A,m,c,rfl,hm,_,_,_⟩:=ho.rd;clear hm ho
   refine' ZI;exact⟨_,xs,q,rfl,HO.out,by have:=HK.out;omega,kw,HX.out,ko,ZA,MI⟩
theorem Tryz.sizePln:(Tryz.prog.info? 30).map (·.size)=some 3:=ZB
theorem Bp{w:World}{g}{T:TypeId}{u0 u1 u2 a b d}(h:w.heap[g]? =some (.cells #[u0,u1,u2] T (0,0))):
 (((w.setCell ⟨g,0,none⟩ a).setCell ⟨g,1,none⟩ b).setCell ⟨g,2,none⟩ d).heap[g]? =some (.cells #[a,b,d] T (0,0)):=
 bO _ _ _ _ _ _ (bO _ _ _ _ _ _ (bO _ _ _ _ _ _ h))
section
variable{P:Program}{fn:Func}{R:Ending->World->Prop}{a:Act}{w:World}{p u v r:Tmp}{ty:TypeId}{g:Nat}{t:TypeId}{cs:Array Value}{d:TypeDesc}
theorem BaL(hg:w.heap[g]? =some (.cells cs t (0,0)))(hu:P.underlying ty=some d)(hd:(match d with|.struct _|.array _ _=>true|_=>false)=true)(hi:(P.info? ty).map (·.size)=some cs.size):
 (loadVar ty ⟨g,0,none⟩).run P w=.ok (.agg cs) w:=run_loadVar_row w g t ty cs (0,0) d hg hu hd hi
theorem AzM(h:fn.results=#[.cell p ty])(hp:a.tmps.getD p undef=.pointer (P_ g))(hg:w.heap[g]? =some (.cells cs t (0,0)))
 (hu:P.underlying ty=some d) (hd:(match d with|.struct _|.array _ _=>true|_=>false)=true) (hi:(P.info? ty).map (·.size)=some cs.size) (hf:a.defers=[])
 (hR:R (.returned (.agg cs)) w):bodyPost P fn R .ret a w:=
 bodyPost_ret (results_cell_row h a.tmps w g t cs (0,0) d hp hg hu hd hi) hf hR
theorem Ax(h:fn.results=#[.cell p ty,.tmp u])(hp:a.tmps.getD p undef=.pointer (P_ g))(hg:w.heap[g]? =some (.cells cs t (0,0)))
 (hu:P.underlying ty=some d) (hd:(match d with|.struct _|.array _ _=>true|_=>false)=true) (hi:(P.info? ty).map (·.size)=some cs.size) (hf:a.defers=[])
 (hR:R (.returned (.tuple #[.agg cs,a.tmps.getD u undef])) w):bodyPost P fn R .ret a w:=by refine' ZOi;simp[results,h,BV,asAddr,BaL hg hu hd hi,Sem.run_bind,Result.andThen]
end
def Be8(p:Pln):Prop:=2<=p.bins/\p.bins<=10/\1<=p.passes/\p.passes<=4/\1<=p.order.length/\p.order.length<=100/\Sw p.order
def BdJ(T:TypeId)(g p:Nat)(w:World)(e:Ending)(w':World):Prop:=
 ∃(v:Value) (x:Pln) (p':Nat),e=.returned v/\Bf1 T w.heap.size w' v x/\Be8 x/\rdr w' g p'/\p'<=p+1002/\w.grownBy w' (some g)
theorem BdC{T g p q b A n c:_}{w w2 xs y V}(hV:own T b w2 V xs)(hb:w.heap.size<b)(hr:rdr w2 g q)(hg:w.grownBy w2 (some g))(ab:g<w.heap.size)(hq:q<=p+1+1001)
 (n0:2<=n) (n1:n<=10) (y1:1<=y) (y2:y<=4) (l1:1<=xs.length) (l2:xs.length<=100) (hd:Sw xs) (hVe:V=.slice A xs.length c):
 BdJ T g p w (.returned (.agg #[.int .i64 n,.int .i64 y,.slice A xs.length c])) (((w2.setCell ⟨w.heap.size,0,none⟩ (.int .i64 n)).setCell ⟨w.heap.size,1,none⟩ (.int .i64 y)).setCell ⟨w.heap.size,2,none⟩ (.slice A xs.length c)):=by subst hVe;have HG:=Gc (p:=⟨w.heap.size,2,none⟩) (Gc (p:=⟨w.heap.size,1,none⟩) (Gc (p:=⟨w.heap.size,0,none⟩) (bK w2 (some w.heap.size)) (.inl rfl) (.int .i64 n)) (.inl rfl) (.int .i64 y)) (.inl rfl) (.slice A xs.length c);have HS:=(((aF w.heap.size w2).setCell (p:=⟨w.heap.size,0,none⟩) (aC _) (.int .i64 n)).setCell (p:=⟨w.heap.size,1,none⟩) (aC _) (.int .i64 y)).setCell (p:=⟨w.heap.size,2,none⟩) (aC _) (.slice A xs.length c);exact⟨_,⟨n,y,xs⟩,q,rfl,⟨_,rfl,⟨by show _<=n;omega,by show n<=_;omega⟩,⟨by show _<=y;omega,by show y<=_;omega⟩,(hV.grown HG (l_ hV hb)).base_ (iA hb)⟩,⟨n0,n1,y1,y2,l1,l2,hd⟩,hr.grown HG ab,ZA,Bd7 hg HS⟩
theorem BeH(g p w)(hr:rdr w g p)(hp:p<=10000000000):
 Calls Tryz.prog 160 #[.pointer (P_ g)] w (BdJ 9 g p w):=by
 have ab:=hr.lt;go_enter func160,ntmps160
 refine' ZC;have MM:=hr.alloc (aB #[.int .i64 0,.int .i64 0,.slice none 0 0] 30);have xD:=cQ w (aB #[.int .i64 0,.int .i64 0,.slice none 0 0] 30) (some g);have j4:w.heap.size+1=(w.alloc (aB #[.int .i64 0,.int .i64 0,.slice none 0 0] 30)).heap.size:=ZF
 have ml:=bC w (aB #[.int .i64 0,.int .i64 0,.slice none 0 0] 30);generalize w.alloc (aB #[.int .i64 0,.int .i64 0,.slice none 0 0] 30)=wA at *;rw[j4];refine(Zz 3 g p _ [4,3,5,2,10] _ (MM.alloc _) ZA (a_ 3 (g+1) wA [4,3,5,2,10] Zg ZE ZA) ZE).mono ?_;refine' ZH9;have bv:=(ey.block w.heap.size ZA (fun e=>ZY)).trans ml;replace ey:=vU xD ey;have lK:2<=n/\n<=10:=Rf
 obtain⟨gx,dy⟩:=lK;have ar:=ey.size;clear hn MM xD ml;have wg:w.heap.size<w1.heap.size:=(Array.getElem?_eq_some_iff.1 bv).1;have it:=aA bv;clear bv;clear j4
 refine' ZC;refine(BeA g (p+1) 12 _ ew ZA ZA ZA).mono ?_;rintro e w2 ⟨v,xs,q,rfl,kn,uT,qF,hd,fh,hq,jl⟩;have dq:=(jl.block w.heap.size wg (fun e=>ZY)).trans it.out;have im:=aA kn;have PF:=aA wg;replace jl:=vU ey jl;obtain⟨A,m,c,rfl,hm,_,_,_⟩:=kn.rd;subst hm;clear kn it ey ew;refine' Uw;have kV:=aA dq;clear dq
 refine' ZC;refine(BdL xs.length n _).mono ?_;rintro e _ ⟨x,rfl,ke,t7,rfl⟩;have h2:=kV.out;have g0:w2.cell? ⟨w.heap.size,0,none⟩=some (.int .i64 0):=ZII
 have g1:w2.cell? ⟨w.heap.size,1,none⟩=some (.int .i64 0):=ZII
 have g2:w2.cell? ⟨w.heap.size,2,none⟩=some (.slice none 0 0):=ZII
 have f0:w2.frozen? ⟨w.heap.size,0,none⟩=false:=ZIJ
 have f1:w2.frozen? ⟨w.heap.size,1,none⟩=false:=ZIJ
 have f2:w2.frozen? ⟨w.heap.size,2,none⟩=false:=ZIJ
 clear h2;have GC:=aA fh;have HG2:=aA jl;clear fh jl;by_cases hx:x<1
 .refine' ZOj;exact BdC im.out PF.out GC.out HG2.out ab hq gx dy ZA ZA uT qF HD.out rfl
 .refine' ZOj;exact BdC im.out PF.out GC.out HG2.out ab hq gx dy ZA t7 uT qF HD.out rfl
theorem kept2.cell{g b w w'}(h:kept2 g b w w')(p)(hp:p.block<b)(ay:p.block≠g):w'.cell? p=w.cell? p:=
 World.cell?_of_block (h.block p.block hp ay)
theorem kept2.step{g b u w w'}(h:kept2 g b u w)(hg:w.grownBy w' (some g))(hb:b<=u.heap.size):kept2 g b u w':=
 h.trans (kept2.grown hg (aI hb h.size))
theorem kept2.set{g b u w}(h:kept2 g b u w)(p)(hp:b<=p.block)(v):kept2 g b u (w.setCell p v):=h.trans (kept2.below ((aF _ _).setCell (p:=p) hp v))
theorem Ad6{T base g n c:Nat}{w xs}(h:own T base w (.slice (P_ g) n c) xs){k}(hk:k<xs.length)(y)(hy:y.size<=maxLen):
 own T base (w.setCell ⟨g,k,none⟩ (.string y)) (.slice (P_ g) n c) (xs.set k y):=by
 have h1:=h.setCell (k:=k) (j:=0) hk ZE (.string y) y (fun ecs he=>ZOk)
 rw[show k*El.size Y_+0=k from eF k]at h1;exact h1
section
variable{T1 T2 lo hi:Nat}{w w':World}{vB vO:Value}{xss:List (List Ltr)}{ys:List Ltr}
end
theorem Tryz.infoFwd:(Tryz.prog.info? 128).map (fun i=>(i.zero,i.size,i.bytes))=some (some (.agg #[.string ⟨#[]⟩,.string ⟨#[]⟩]),2,32):=ZB
theorem Bb8(v vb d xs w)(hv:rdD w w.heap.size v d)(hb:R_ w vb xs):
 Calls Tryz.prog 129 #[v,vb] w fun e w'=>∃vR,e=.returned (.tuple #[vR,.bool (Ka d xs)])/\Wq 119 w.heap.size w' vR (Dh d xs)/\B_ w w':=Ap6 v vb d xs w hv hb
theorem ZCL(v vb d xs w)(hv:rdD w w.heap.size v d)(hb:R_ w vb xs):
 Calls Tryz.prog 34 #[v,vb] w fun e w'=>∃vR,e=.returned (.tuple #[vR,.bool (Ka d xs)])/\Wq 119 w.heap.size w' vR (Dh d xs)/\B_ w w':=AnO v vb d xs w hv hb
def W8(s:Int)(L:List (List Ltr))(x:Ltr):List (List Ltr):=
 if L.length=0\/((L.getD (L.length - 1) []).length:Int)=s then L++[[x]]else L.set (L.length - 1) (L.getD (L.length - 1) []++[x])
def Gr(s:Int)(xs:List Ltr):List (List Ltr):=xs.foldl (W8 s) []
theorem ZCF{s}{xs:List Ltr}{k}(h:k<xs.length):Gr s (xs.take (k+1))=W8 s (Gr s (xs.take k)) xs[k]:=by unfold Gr;exact ZEt
theorem AxZ(s L x):(W8 s L x).length<=L.length+1/\0<(W8 s L x).length/\L.length<=(W8 s L x).length:=by
 unfold W8
 split
 .simp
 .rename_i h
  rw[eV];have:L.length≠0:=fun e=>h (.inl e)
  omega
theorem Ax0{α:Type}:∀(L:List (List α)) (n:Nat) (r:List α) (h:n<L.length),((L.set n r).flatten).length+(L[n]).length=(L.flatten).length+r.length:=ZNt
theorem Aw1(s L x):(W8 s L x).flatten.length=L.flatten.length+1:=by
 unfold W8
 split
 .simp
 .rename_i h
  have hn:L.length - 1<L.length:=by
   have:L.length≠0:=fun e=>h (.inl e)
   omega
  have h1:=Ax0 L (L.length - 1) (L.getD (L.length - 1) []++[x]) hn;rw[bH,aR hn]at h1⊢;simp only[gS,aT,cE]at h1⊢;omega
theorem Oi(s)(xs:List Ltr):∀k,k<=xs.length->(Gr s (xs.take k)).length<=k/\((Gr s (xs.take k)).length=0↔k=0)/\(Gr s (xs.take k)).flatten.length=k
 |0,_=>by simp[Gr]
 |k+1,h=>by obtain⟨h1,h2,h3⟩:=Oi s xs k ZA;rw[ZCF ZA,Aw1];obtain⟨a,b,_⟩:=AxZ s (Gr s (xs.take k)) xs[k];omega
theorem Lz{s L x}(h:L.length=0\/∃d,∃hd:d<L.length,L.length=d+1/\(L[d].length:Int)=s):W8 s L x=L++[[x]]:=by
 unfold W8;rw[aQ];rcases h with h|⟨d,hd,h1,h2⟩
 .exact .inl h
 .refine .inr ?_
  have e:L.length - 1=d:=ZA
  rw[e,bH,aR hd];exact h2
theorem AqD{s L x d}(hd:d<L.length)(h1:L.length=d+1)(h2:(L[d].length:Int)≠s):W8 s L x=L.set d (L[d]++[x]):=by
 unfold W8;have e:L.length - 1=d:=ZA
 rw[e,bH,aR hd,aM]
 .rfl
 .rintro(h|h)
  .omega
  .exact h2 h
theorem ApV{L:List (List Ltr)}{x d}(h1:L.length=d)(hd:d<(L++[[]]).length):(L++[[]]).set d ((L++[[]])[d]++[x])=L++[[x]]:=by subst h1;simp[cC]
def Oj(s:Int)(xs:List Ltr):Bool:=z_ xs&&Fp s
def Iq(s:Int)(xs:List Ltr):List (List Ltr):=if Oj s xs then Gr s xs else []
def Tw(d:Dy)(xs:List Ltr):Bool:=Ka d xs&&Oj d.size (Dh d xs).round
def Eu(d:Dy)(xs:List Ltr):List (List Ltr):=if Ka d xs then Iq d.size (Dh d xs).round else []
theorem Af3(s xs):(Iq s xs).length<=60/\(Iq s xs).flatten.length<=60:=by
 unfold Iq
 split
 .rename_i h
  unfold Oj at h;refine' Yd;have h1:=Cq h.1;obtain⟨a,_,b⟩:=Oi s xs xs.length (aC _);rw[bA]at a b;omega
 .simp
theorem Ag7(d xs):(Eu d xs).length<=60/\(Eu d xs).flatten.length<=60:=by
 unfold Eu
 split
 .exact Af3 _ _
 .simp
theorem own.made1{α:Type}[Flat α](w)(T:TypeId)(cs)(x:α){base}(lx:El.el w w.heap.size x cs)(hb:base<=w.heap.size):own T base (w.alloc (.cells cs.toArray T)) (.slice (P_ w.heap.size) 1 1) [x]:=by
 refine⟨[cs],⟨by simp[El.len lx],.inr ⟨w.heap.size,1,cs.toArray,rfl,hb,bC w _,aC _,ZN,by simp[El.len lx],?_⟩⟩,rfl,fun k h1 h2=>?_⟩
 .show List.take (1*El.size α) _=_
  rw[iT,<-El.len lx];simp
 .have hk:k=0:=ZIK
  subst hk;exact Flat.free lx
theorem ZCV(vb xs s w)(hb:R_ w vb xs):
 Calls Tryz.prog 282 #[vb,.int .i64 s,.int .i64 0] w fun e w'=>∃v',e=.returned (.tuple #[v',.bool (Oj s xs)])/\Fu 27 119 w.heap.size w' v' (Iq s xs)/\B_ w w':=by
 refine' Uz;refine' zm;refine' ZOl;have HQ:Hid (Oj s xs=(z_ xs&&Fp s)):=rfl;refine' S_;go_enter func282,ntmps282
 refine' ZID;refine' ZU;have l1:=Aa (aF w.heap.size w) b1;clear b1;cases h1:z_ xs
 .have HF:Hid (Oj s xs=false):=z7
  clear h1
  exact ZOm
 have kw:=Cq h1;refine' zp;refine(Me s _).mono ?_;refine' zq;cases h2:Fp s
 .have HF:Hid (Oj s xs=false):=ZEs
  clear h2
  exact ZOm
 refine' ZOn;have VP:=aA (Oi s xs);clear h2 HB
 refine' ZC;go_loopw[8,30] (fun t i wr=>∃(k:Nat) (vs:List Value),k<=xs.length/\i=.int .i64 k/\B_ w wr/\Fi 27 119 w.heap.size wr t (Gr s (xs.take k)) vs) (fun _ i _=>xs.length - (intOf i).toNat)
 case atStart=>exact⟨0,[],aN _,rfl,l1,Md _ _ _ _⟩
 case round=>
  obtain⟨k,vs,hk,rfl,lr,hB⟩:=hrel;refine' zd;clear l1;by_cases ab:k<xs.length
  .refine' ZOo;refine' ZOp;have j8:=aA hB;clear hB;refine' YN;refine' S7;have ll:=Aa lr (Aw de).1;have bu:=aA (j8.out.below (Aw de).1);have kz:=aA de;clear de;have EH:=aF wl.heap.size wl;by_cases fp:k=0
   .have IU:L.length=0:=f2.2 fp
    have fx:Hid (Gr s (xs.take (k+1))=L++[[x]]):=by{show _=_;rw[mD.out,Lz (.inl IU)]};have NX:((k:Int)==0)=true:=by{simp[fp]};clear f2 IU rW;clear fp;refine' ZOq;have rq:Hid (D7 (.slice (P_ wq.heap.size) 1 1) (.slice AO vs.length cO) vs):=⟨Dd rX.out ku.out.1 (aC _),fun i hi=>Dd rX.out (ku.out.2.2.1 i hi ZE0) (aC _)⟩;refine' ZOr;go_wp2_with (at_builtin;refine An (α:=Value) rfl (.tmp 64) (.tmp 67) 82 rfl w.heap.size 27 i0 _ 24 eU hi m7 ar ap rfl ZE (.slice AO vs.length cO) vs (.slice (P_ wq.heap.size) 1 1) rfl (ur.out.1.alloc _) ⟨wq.heap.size+1,0,none⟩ 1 [.slice (P_ wq.heap.size) 1 1] rfl ⟨rfl,rfl⟩ fa ZN ZA ZH ?_;refine' zH)
    refine' ZOs;go_roundw
    case rel=>exact⟨k+1,_,ZA,ZJ,l5,by rw[fx.out];exact vM.out⟩
    case measure=>exact ZK
   .refine' ZOt;have NX:(((k'+1:Nat):Int)==0)=false:=ZH2
    have hk0'':((k':Int)+1==0)=false:=ZH2
    clear fp;refine' ZOu;have EI:(d:Int)<(vs.length:Int):=ZA
    refine' ZOv;by_cases hs:(qn:Int)=s
    .have rS:((qn:Int)==s)=true:=by{simp[hs]};refine' Zf;clear hs;have fx:Hid (Gr s (xs.take (k'+1+1))=L++[[x]]):=by{show _=_;rw[mD.out,Lz (.inr ⟨d,jh,hd,ZE1⟩)]};refine' ZOq;have rq:Hid (D7 (.slice (P_ wq.heap.size) 1 1) (.slice (P_ G) vs.length cO) vs):=⟨Dd rX.out ku.out.1 (aC _),fun i hi=>Dd rX.out (ku.out.2.2.1 i hi ZE0) (aC _)⟩;refine' ZOr;go_wp2_with (at_builtin;refine An (α:=Value) rfl (.tmp 64) (.tmp 67) 82 rfl w.heap.size 27 i0 _ 24 eU hi m7 ar ap rfl ZE (.slice (P_ G) vs.length cO) vs (.slice (P_ wq.heap.size) 1 1) rfl (ur.out.1.alloc _) ⟨wq.heap.size+1,0,none⟩ 1 [.slice (P_ wq.heap.size) 1 1] rfl ⟨rfl,rfl⟩ fa ZN ZA ZH ?_;refine' zH)
     refine' ZOs;go_roundw
     case rel=>exact⟨k'+1+1,_,ZA,ZJ,l5,by rw[fx.out];exact vM.out⟩
     case measure=>exact ZK
    .have rS:((qn:Int)==s)=false:=by{simp[hs]};refine' Zf;clear hs;have fx:Hid (Gr s (xs.take (k'+1+1))=L.set d (L[d]++[x])):=by{show _=_;rw[mD.out,AqD jh hd ZE1]};go_wp2;rw[<-kz.out]
     go_quiet (fail)
     clear oI kF ky
     try skip
     refine' ZE2;obtain⟨fm,df,gy⟩:∃fm:d<vs.length,own 119 w.heap.size wq vs[d] L[d]/\apart vs[d] (.slice (P_ G) vs.length cO):=ZOw
     refine' ZOx;go_region_law (first|go_loud ((refine Ce (α:=Ltr) ZG (.tmp 74) (.tmp 76) 27 ZG w.heap.size 119 i1 _ 24 aV ji dr du dw rfl ZE (.slice Au qs.length cu) qs x ZG ((jW.out.alloc _).drew) ⟨wq.heap.size,0,none⟩ 1 (Ltr.cells x) ZG ⟨⟨fq,fj⟩,rfl⟩ (Ft wq _ (Ltr.cells x)) ZN ZA ZH ?_;refine' ZEn)))
     all_goals exact ZOy
  .refine' YO;go_wp2;go_ret2;refine' ZE3;exact⟨_,Bf ZX,by rw[HY.out];exact⟨vs,hB⟩,lr⟩
theorem AmH(vb xs s w)(hb:R_ w vb xs)(kw:xs.length<=60):
 Calls Tryz.prog 305 #[vb,.int .i64 s,.int .i64 0] w fun e w'=>∃v',e=.returned v'/\Fu 27 119 w.heap.size w' v' (Gr s xs)/\B_ w w':=by
 obtain⟨A,n,c,rfl,hn,hc,hm,hr⟩:=hb;refine' zm;refine' S_;have VP:=aA (Oi s xs);go_enter func305,ntmps305;refine' ZND;go_loopw[7,8] (fun t i wr=>∃(k:Nat) (vs:List Value),k<=xs.length/\i=.int .i64 k/\B_ w wr/\Fi 27 119 w.heap.size wr t (Gr s (xs.take k)) vs) (fun _ i _=>xs.length - (intOf i).toNat)
 case atStart=>exact ZHg
 case round=>
  obtain⟨k,vs,hk,rfl,lr,hB⟩:=hrel;obtain⟨wl,rfl⟩:∃wl:World,wl=wr:=⟨_,rfl⟩;clear l0 uo;by_cases ab:k<xs.length
  .refine' ZOo;have tu:Hid (∀d (h:d<(L++[[]]).length),(L++[[]])[d].length<=60):=fun d h=>aI (Nn h) (by simp;simp at f3;omega)
   refine' ZOp;have bu:=aA hB;clear hB;refine' YN;have ll:=lr;have EH:=aF wl.heap.size wl;clear lr;by_cases fp:k=0
   .have IU:L.length=0:=f2.2 fp
    have vI:vs.length=0:=ZA
    have jh:0<(L++[[]]).length:=ZF
    have fx:Hid (Gr s (xs.take (k+1))=(L++[[]]).set 0 ((L++[[]])[0]++[x])):=by{show _=_;rw[mD.out,Lz (.inl IU),ApV IU]};clear f2 IU rW f1 f3;clear fp;refine' z6;refine' ZOz;have rq:Hid (D7 (.slice (P_ wq.heap.size) 0 0) (.slice AO vs.length cO) vs):=⟨Dd rX.out ku.out.1 (aC _),fun i hi=>Dd rX.out (ku.out.2.2.1 i hi ZE0) (aC _)⟩;refine' ZO0;go_wp2_with (at_builtin;refine An (α:=Value) rfl (.tmp 49) (.tmp 51) 82 rfl w.heap.size 27 i0 _ 24 eU hi m7 ar ap rfl ZE (.slice AO vs.length cO) vs (.slice (P_ wq.heap.size) 0 0) rfl (ur.out.1.alloc _) ⟨wq.heap.size+1,0,none⟩ 1 [.slice (P_ wq.heap.size) 0 0] rfl ⟨rfl,rfl⟩ fa ZN ZA ZH ?_;intro gn cap wn QP CC tK jV)
    refine' ZO1;refine' ZO2;obtain⟨G,hG⟩:∃z,z=gn:=⟨_,rfl⟩;rw[<-hG]at pB;rw[<-hG];clear hG;obtain⟨fm,df,gy⟩:∃fm:0<ir.length,own 119 w.heap.size wn ir[0] L2[0]/\apart ir[0] (.slice (P_ G) n2 cap):=by{obtain⟨z1,z2,z3,z4,z5⟩:=pB.out;exact⟨ZA,z3 0 ZA jh,z5 0 ZA⟩};have kF:wn.cell? ⟨G,0,none⟩=some ir[0]:=Ff pB.out.1 0 fm;have tP:wn.frozen? ⟨G,0,none⟩=false:=pB.out.1.freeAt 0;have lS:L2[0].length<=60:=lX.out 0 jh;obtain⟨qs,nw⟩:∃qs,qs=L2[0]:=⟨_,rfl⟩;have tT:=aA nw;rw[<-nw]at df lS;clear nw;obtain⟨u,hu⟩:∃u,u=ir[0]:=⟨_,rfl⟩;refine' ZO3;go_region_law (first|((refine' ZO4;have sM:w5.cell? ⟨G,0,none⟩=some (.slice Au qs.length cu):=(aj.cell_far ⟨G,0,none⟩ ZH g7.out).trans zD;have sN:w5.frozen? ⟨G,0,none⟩=false:=(aj.frozen_far ⟨G,0,none⟩ ZH g7.out).trans zD)))
    all_goals
     refine' ZO5;have p4:=Ex (G:=G) (d:=0) (g:=g) (m:=qs.length+1) (cap:=cap) (Ag (Ae ln (aB #[aH aD x.id,aG x.code] 119))) aj (fun j hj=>(jW.out.blk j hj).1) nT;have P1:=aA p1;clear p1 gi;go_wp2
     go_roundw
     case rel=>exact⟨k+1,_,ZA,ZJ,p4,by rw[fx.out];exact P1.out⟩
     case measure=>exact ZK
   .refine' ZOt;clear fp;have vI:vs.length=d+1:=ZA
    refine' ZOu;refine' ZOv;have tQ:decide ((d:Int)<0)=false:=aP ZA;have BQ:(d:Int)+1<((vs.length+1:Nat):Int):=ZA
    have hdp:(0:Int)<=(d:Int)+1:=ZA
    have hkp1:(0:Int)<=(k':Int)+1:=ZA
    have rQ:(d:Int)<(d:Int)+1:=ZA
    have xq:(k':Int)+1<(xs.length:Int):=ZA
    have vt:=aA hd;rw[vI]at bu⊢;clear vI rW hd;by_cases hs:(qn:Int)=s
    .have rS:((qn:Int)==s)=true:=by{simp[hs]};refine' Zf;clear hs;have VU:d+1<(L++[[]]).length:=by{have:=vt.out;exact ZH};have fx:Hid (Gr s (xs.take (k'+1+1))=(L++[[]]).set (d+1) ((L++[[]])[d+1]++[x])):=by{show _=_;rw[mD.out,Lz (.inr ⟨d,jh,vt.out,ZE1⟩),ApV vt.out]};refine' z6;clear oI kF ky;have jh:=VU
     refine' ZOz;have rq:Hid (D7 (.slice (P_ wq.heap.size) 0 0) (.slice (P_ G) (d+1) cO) vs):=⟨Dd rX.out ku.out.1 (aC _),fun i hi=>Dd rX.out (ku.out.2.2.1 i hi ZE0) (aC _)⟩;refine' ZO0;go_wp2_with (at_builtin;refine An (α:=Value) rfl (.tmp 49) (.tmp 51) 82 rfl w.heap.size 27 i0 _ 24 eU hi m7 ar ap rfl ZE (.slice (P_ G) (d+1) cO) vs (.slice (P_ wq.heap.size) 0 0) rfl (ur.out.1.alloc _) ⟨wq.heap.size+1,0,none⟩ 1 [.slice (P_ wq.heap.size) 0 0] rfl ⟨rfl,rfl⟩ fa ZN ZA ZH ?_;intro gn cap wn QP CC tK jV)
     refine' ZO1;clear ku ur rq rX;refine' ZO2;obtain⟨G2,hG⟩:∃z,z=gn:=⟨_,rfl⟩;rw[<-hG]at pB;rw[<-hG];clear hG;obtain⟨G,VV⟩:∃z,z=G2:=⟨_,rfl⟩;rw[<-VV]at pB;rw[<-VV];clear VV;obtain⟨fm,df,gy⟩:∃fm:(d+1)<ir.length,own 119 w.heap.size wn ir[(d+1)] L2[(d+1)]/\apart ir[(d+1)] (.slice (P_ G) n2 cap):=by{obtain⟨z1,z2,z3,z4,z5⟩:=pB.out;exact⟨ZA,z3 (d+1) ZA jh,z5 (d+1) ZA⟩};have kF:wn.cell? ⟨G,(d+1),none⟩=some ir[(d+1)]:=Ff pB.out.1 (d+1) fm;have tP:wn.frozen? ⟨G,(d+1),none⟩=false:=pB.out.1.freeAt (d+1);have lS:L2[(d+1)].length<=60:=lX.out (d+1) jh;obtain⟨qs,nw⟩:∃qs,qs=L2[(d+1)]:=⟨_,rfl⟩;have tT:=aA nw;rw[<-nw]at df lS;clear nw;obtain⟨u,hu⟩:∃u,u=ir[(d+1)]:=⟨_,rfl⟩;refine' ZO3;go_region_law (first|((refine' ZO4;have sM:w5.cell? ⟨G,(d+1),none⟩=some (.slice Au qs.length cu):=(aj.cell_far ⟨G,(d+1),none⟩ ZH g7.out).trans zD;have sN:w5.frozen? ⟨G,(d+1),none⟩=false:=(aj.frozen_far ⟨G,(d+1),none⟩ ZH g7.out).trans zD)))
     all_goals refine' ZO5;have p4:=Ex (G:=G) (d:=d+1) (g:=g) (m:=qs.length+1) (cap:=cap) (Ag (Ae ln (aB #[aH aD x.id,aG x.code] 119))) aj (fun j hj=>(jW.out.blk j hj).1) nT;exact ZO6
    .have rS:((qn:Int)==s)=false:=by{simp[hs]};refine' Zf;clear hs;have fx:Hid (Gr s (xs.take (k'+1+1))=L.set d (L[d]++[x])):=by{show _=_;rw[mD.out,AqD jh vt.out ZE1]};refine' z6;clear oI kF ky
     try clear vI
     refine' ZE2;obtain⟨fm,df,gy⟩:∃fm:d<vs.length,own 119 w.heap.size wq vs[d] L[d]/\apart vs[d] (.slice (P_ G) (d+1) cO):=ZOw
     refine' ZOx;go_region_law (first|((refine Ce (α:=Ltr) ZG (.tmp 60) (.tmp 65) 27 ZG w.heap.size 119 i1 _ 24 aV ji dr du dw rfl ZE (.slice Au qs.length cu) qs x ZG ((jW.out.alloc _).drew) ⟨wq.heap.size,0,none⟩ 1 (Ltr.cells x) ZG ⟨⟨fq,fj⟩,rfl⟩ (Ft wq _ (Ltr.cells x)) ZN ZA ZH ?_;refine' ZEn)))
     all_goals exact ZOy
  .refine' YO;refine' ZO;refine' ZE3;exact⟨_,rfl,⟨vs,hB⟩,lr⟩
theorem Af7(vb xs s w)(hb:R_ w vb xs):
 Calls Tryz.prog 213 #[vb,.int .i64 s] w fun e w'=>∃v',e=.returned (.tuple #[v',.bool (Oj s xs)])/\Fu 27 119 w.heap.size w' v' (Iq s xs)/\B_ w w':=by
 refine' eP;clear hb;go_enter func213,ntmps213
 refine' ZC;refine(ZCV _ xs s _ HB.out).mono ?_;refine' Ye;have O1:=aA o1;clear o1
 refine' ZQ;exact⟨_,rfl,O1.out,b1⟩
theorem AaV(vb xs s w)(hb:R_ w vb xs):
 Calls Tryz.prog 252 #[vb,.int .i64 s] w fun e w'=>∃v',e=.returned (.tuple #[v',.bool (Oj s xs)])/\R_ w' v' (Iq s xs)/\B_ w w':=by
 refine' eP;clear hb;have HQ:Hid (Oj s xs=(z_ xs&&Fp s)):=rfl;refine' ZOl;have HEM:Hid (∀W:World,rd (W.alloc (.cells #[] 27)) (W.alloc (.cells #[] 27)).heap.size (.slice (P_ W.heap.size) 0 0) ([]:List (List Ltr))):=fun W=>
  Fu.rd (T1:=27) (T2:=119) (base:=W.heap.size) ⟨[],own.made0 W _ (aC _),rfl,fun k h=>absurd h (aX k),fun j k h=>absurd h (aX j),fun k h=>absurd h (aX k)⟩
 go_enter func252,ntmps252
 refine' ZC;refine(C6 _ xs _ HB.out).mono ?_;refine' ZU;cases h1:z_ xs
 .have HF:Hid (Oj s xs=false):=z7
  clear h1;exact ZO7
 have kw:=Cq h1;refine' zp;refine(Nm s _).mono ?_;refine' zq;cases h2:Fp s
 .have HF:Hid (Oj s xs=false):=ZEs
  clear h2;exact ZO7
 refine' ZOn;clear h2
 refine' ZC;refine(AmH _ xs s _ (HB.out.on b1) kw).mono ?_;refine' fM;have O3:=aA o3.rd;clear o3;have l3:=Aa b1 b3
 refine' ZQ;exact⟨_,Bf ZX,by rw[HY.out];exact O3.out,l3⟩
theorem AgT(vb xs s w)(hb:R_ w vb xs):
 Calls Tryz.prog 172 #[vb,.int .i64 s] w fun e w'=>∃v',e=.returned (.tuple #[v',.bool (Oj s xs)])/\Fu 27 119 w.heap.size w' v' (Iq s xs)/\B_ w w':=by
 refine' eP;clear hb;have HL:=aA (Af3 s xs);go_enter func172,ntmps172
 refine' ZC;refine(AaV _ xs s _ HB.out).mono ?_;rintro e w1 ⟨v1,rfl,r1,b1⟩;have R1:=aA r1;clear r1
 refine' ZC;refine(ZCb _ (Iq s xs) _ R1.out zt zt).mono ?_;rintro e w2 ⟨v2,vs,rfl,o2,b2⟩;have O2:=aA (o2.base_ b1.size);clear o2;have l2:=Aa b1 b2
 refine' ZQ;exact⟨_,rfl,⟨vs,O2.out⟩,l2⟩
theorem Ai5(v vb d xs w)(hv:rdD w w.heap.size v d)(hb:R_ w vb xs):
 Calls Tryz.prog 131 #[v,vb] w fun e w'=>∃v',e=.returned (.tuple #[v',.bool (Tw d xs)])/\Fu 27 119 w.heap.size w' v' (Eu d xs)/\B_ w w':=by
 refine' ZO8;go_enter func131,ntmps131
 refine' zG;refine(Bb8 _ _ d xs _ HD.out HB.out).mono ?_;refine' ZO9;cases h1:Ka d xs
 .refine' ZPA;refine' ZQ;exact⟨_,Bf ZX,by rw[HE.out];exact⟨[],Md _ _ _ _⟩,Aa HT.out (Ae l1 _)⟩
 refine' ZPB;refine(Af7 _ (Dh d xs).round d.size _ (PR.out.on bx)).mono ?_;refine' ZPC;exact⟨_,Bf ZX,by rw[HE.out];exact O2.out.base_ (aI bj lb.size),Aa HT.out l2⟩
theorem Ah0(v vb d xs w)(hv:rdD w w.heap.size v d)(hb:R_ w vb xs):
 Calls Tryz.prog 83 #[v,vb] w fun e w'=>∃v',e=.returned (.tuple #[v',.bool (Tw d xs)])/\R_ w' v' (Eu d xs)/\B_ w w':=by
 refine' ZO8;go_enter func83,ntmps83
 refine' zG;refine(ZCL _ _ d xs _ HD.out HB.out).mono ?_;refine' ZO9;cases h1:Ka d xs
 .refine' ZPA;have E1:Hid (∀W:World,rd (W.alloc (.cells #[] 27)) (W.alloc (.cells #[] 27)).heap.size (.slice (P_ W.heap.size) 0 0) ([]:List (List Ltr))):=fun W=>
   Fu.rd (T1:=27) (T2:=119) (base:=W.heap.size) ⟨[],own.made0 W _ (aC _),rfl,fun k h=>absurd h (aX k),fun j k h=>absurd h (aX j),fun k h=>absurd h (aX k)⟩
  have E2:=aA (E1.out (w1.alloc (aB #[.slice R0 (Dh d xs).round.length r0,.slice R1 (Dh d xs).strange.length r1,.slice R2 (Dh d xs).held.length r2,.slice R3 (Dh d xs).stuck.length r3] 78)))
  refine' ZQ;refine⟨_,Bf ZX,?_,Aa HT.out (Ae (Ae l1 _) _)⟩;rw[HE.out];show rd _ _ _ _;simpa using E2.out
 refine' ZPB;refine(AgT _ (Dh d xs).round d.size _ (PR.out.on bx)).mono ?_;refine' ZPC;exact⟨_,Bf ZX,by rw[HE.out];exact O2.out.rd,Aa HT.out l2⟩
theorem Aj1(v vb d xs w)(hv:rdD w w.heap.size v d)(hb:R_ w vb xs):
 Calls Tryz.prog 36 #[v,vb] w fun e w'=>∃v',e=.returned (.tuple #[v',.bool (Tw d xs)])/\Fu 27 119 w.heap.size w' v' (Eu d xs)/\B_ w w':=by
 refine' ZPD;have HL:=aA (Ag7 d xs);go_enter func36,ntmps36
 refine' zG;refine(Ah0 _ _ d xs _ HD.out HB.out).mono ?_;rintro e w1 ⟨v1,rfl,r1,b1⟩;have l1:=Aa l0 b1;have R1:=aA r1;clear r1
 refine' ZC;refine(ZCb _ (Eu d xs) _ R1.out zt zt).mono ?_;rintro e w2 ⟨v2,vs,rfl,o2,b2⟩;have l2:=Aa l1 b2;have O2:=aA (o2.base_ (aI bj l1.size));clear o2
 refine' ZQ;exact⟨_,rfl,⟨vs,O2.out⟩,Aa HT.out l2⟩
theorem Ao8(v d s w)(hv:rdD w w.heap.size v d)(hs:s.size<=maxLen):
 C_ 233 #[v,.string s] w (.tuple #[.string (Nh d s).1,.string (Nh d s).2]):=by
 refine' ZPa;go_enter func233,ntmps233
 refine' zG;refine(ZCC _ d _ HD.out).mono ?_;refine' ZPb;have OV:Be d.fwds=true/\Bq d.plan=true:=by unfold Mi at h1;simp only[aO]at h1;exact⟨h1.1.1.2,h1.1.1.1⟩
 have JL:=aA OV;clear OV;refine' zp;refine(Cw s _ hs).mono ?_;refine' ZPc;have qN:Hid (rSv d.fwds s=Bc d.fwds s):=by show _=_;unfold rSv;rw[H2.out,JL.out.1];rfl
 refine' ZPd;refine(ZBJ _ d.fwds s _ (HF.out.on l1) hs).mono ?_;rw[qN.out,dj.out];refine' ZPe;refine' ZC;go_loop[33] (fun i=>∃k:Nat,k<=d.held.length/\i=.int .i64 k/\Hid (∀j (h:j<d.held.length),j<k->zU d.held[j] to=false)) (fun i=>d.held.length - (intOf i).toNat)
 case atStart=>exact Yc
 case round=>
  refine' YH;by_cases ab:k<d.held.length
  .obtain⟨b,o,rfl,hb,ag,x1⟩:=HR.out.strU k ab
   have HX:Hid (∀h:zU d.held[k] to=false,∀j (h1:j<d.held.length),j<k+1->zU d.held[j] to=false):=fun h j h1 hj=>Yb
   have HY:Hid (∀h:zU d.held[k] to=true,0<=y6 d.held to):=fun h=>by{have e:=Ay4 ab (fun j hj=>HG.out j ZA hj) h;rw[ZDu ZA];omega};generalize d.held[k]=x at *;cases he:zU x to
   .refine' zf;have hq:(x.toList==to.toList)=false:=he;clear he
    refine' ZC;exact Ws
   .refine' zf;have hq:(x.toList==to.toList)=true:=he;clear he
    refine' ZQ;exact⟨Bf (by rw[y9.out,aQ (HY.out jj.out)]<;>rfl),Aa HT.out l2⟩
  .have HE:Hid (y6 d.held to= -1):=by have e:=AeN (cs:=d.held) (c:=to) (fun j hj=>HG.out j hj ZA);exact Ls ZA
   have HRI:Hid (Hl d.plan to=y6 d.plan.order to):=by{show _=_;unfold Hl;rw[JL.out.2];rfl};obtain⟨r,ak⟩:∃r,Hid (y6 d.plan.order to=r):=⟨_,rfl⟩
   refine' ZC;refine(AsX _ d.plan to _ (HP.out.on l2)).mono ?_;rw[HRI.out,ak.out];refine' zB;refine' YG;by_cases hr:0<=r
   .refine' ZQ;exact⟨Bf (by rw[y9.out,HE.out,ak.out,aM ZA,aQ hr]<;>rfl),Aa HT.out l3⟩
   .refine' ZQ;exact⟨Bf (by rw[y9.out,HE.out,ak.out,aM ZA,aM ZA]<;>rfl),Aa HT.out l3⟩
theorem ApT(v d s w)(hv:rdD w w.heap.size v d)(hs:s.size<=maxLen):
 C_ 107 #[v,.string s] w (.tuple #[.string (Nh d s).1,.string (Nh d s).2]):=by
 refine' ZPa;go_enter func107,ntmps107
 refine' zG;refine(AeG _ d _ HD.out).mono ?_;refine' ZPb;have OV:Be d.fwds=true:=by unfold Mi at h1;simp only[aO]at h1;exact h1.1.1.2
 have j7:=(Ch.1 OV).1;clear OV;refine' zp;refine(Cm s _ hs).mono ?_;refine' ZPc;refine' ZPd;refine(It _ d.fwds s _ (HF.out.on l1) hs ZA).mono ?_;rw[dj.out];refine' ZPe;obtain⟨r,ak⟩:∃r,Hid (y6 d.held to=r):=⟨_,rfl⟩;obtain⟨r',GN⟩:∃r,Hid (y6 d.plan.order to=r):=⟨_,rfl⟩
 refine' ZC;refine(Lw _ d.held to _ (HH.out.on l2)).mono ?_;rw[ak.out];refine' Zb;by_cases hr:0<=r
 .refine' ZQ;exact⟨Bf (by rw[y9.out,ak.out,aQ hr]<;>rfl),Aa HT.out l2⟩
 refine' ZC;refine(Lw _ d.plan.order to _ (HO.out.on l2)).mono ?_;rw[GN.out];refine' Zb;by_cases tO:0<=r'
 .refine' ZQ;exact⟨Bf (by rw[y9.out,ak.out,GN.out,aM ZA,aQ tO]<;>rfl),Aa HT.out l2⟩
 .refine' ZQ;exact⟨Bf (by rw[y9.out,ak.out,GN.out,aM ZA,aM ZA]<;>rfl),Aa HT.out l2⟩
theorem AlA(p:Pln)(xs:List Ltr)(k:Nat)(h:k<xs.length):(Gt p xs)[k]'(by unfold Gt;exact zI)=y6 p.order xs[k].code:=by simp[Gt]
theorem ZDo(p xs):(Gt p xs).length=xs.length:=by simp[Gt]
theorem Ar8(p xs k)(h:k<xs.length):Hd ((Gt p xs).take (k+1))=Xi (Hd ((Gt p xs).take k)) (y6 p.order xs[k].code):=by rw[Rt _ _ (by rw[ZDo];exact h),AlA p xs k h]
theorem AbZ{L r}(h:r<0):Xi L r=L:=by unfold Xi;rw[aQ h]
theorem AbH{L}(r:Nat):Xi L (r:Int)=L++[(r,Gf L r+1)]:=by unfold Xi;rw[aM ZA,bE]
theorem Ac7(v vb p xs w)(hv:rdP w w.heap.size v p)(hb:R_ w vb xs):
 C_ 203 #[v,vb] w (.int .i64 (Jh p xs)):=by
 refine' Yf;have br:=aA hb;obtain⟨vo,rfl,km,lI,jv⟩:=hv;have yZ:=aA jv;obtain⟨Ao,no,og,rfl,mq,tx,rz,_⟩:=jv;subst mq;refine' ZSG;refine' Yi;have OQ:B_ w (w.alloc (aB #[aH aD p.bins,aH aD p.passes,Value.slice Ao p.order.length og] 30)):=(aF _ _).alloc (aC _) _;have gb:(w.alloc (aB #[aH aD p.bins,aH aD p.passes,Value.slice Ao p.order.length og] 30)).cell? ⟨w.heap.size,2,none⟩=some (.slice Ao p.order.length og):=zD
 refine' ZQw;have GB:=aA gb;clear gb;have ga:=aA OQ;clear OQ;have kA:=aA ah;clear ah;go_enter func203,ntmps203
 refine' ZC;refine(Fq _ p _ (fg.out.on ga.out)).mono ?_;refine' ZQx;have g0:w0.cell? ⟨w.heap.size,2,none⟩=some (.slice Ao p.order.length og):=(b0.cell (p:=⟨w.heap.size,2,none⟩) (by rw[kA.out];simp)).trans GB.out;have wZ:w.heap.size<w0.heap.size:=ZQy
 clear kA GB ga b0;cases hp:Bq p
 .refine' Z6;refine' ZI;exact⟨Bo (by unfold Jh;rw[HP.out];rfl),B0⟩
 have uY:=(De.1 hp).2.1;refine' Z6;refine' ZC;refine(Cn _ xs _ (br.out.on B0)).mono ?_;refine' ZU;have B1:=B0.trans (b1.mono B0.size);have g1:=(b1.cell (p:=⟨w.heap.size,2,none⟩) wZ).trans g0;have hlv1:w.heap.size<w1.heap.size:=bR wZ b1.size;clear g0 b1 wZ B0;cases hx:z_ xs
 .have HX:=aA hx;clear hx
  refine' ZI;exact⟨Bo (by unfold Jh;rw[HP.out,HX.out];rfl),B1⟩
 have kw:=(Ep.1 hx).1;have HX:=aA hx;clear hx;refine' ZGA;have fo:=Ed (P:=Tryz.prog) 61 3 i0 _ iP hi ah p.order.length zi ZA
 refine' ZC;clear fo;have ho:=AkA w1 p.order.length w.heap.size B1.size ZN;have tZ:B_ w (w1.alloc (aB (bF #[.int .i64 0] p.order.length) 3)):=B1.alloc B1.size _;have gz:(w1.alloc (aB (bF #[.int .i64 0] p.order.length) 3)).cell? ⟨w.heap.size,2,none⟩=some (.slice Ao p.order.length og):=zD
 have m7:w1.heap.size<(w1.alloc (aB (bF #[.int .i64 0] p.order.length) 3)).heap.size:=ZF
 generalize(w1.alloc (aB (bF #[.int .i64 0] p.order.length) 3))=wz at *;generalize DN:w1.heap.size=gk at *;clear DN g1 B1;have qg:=aA (ZDo p xs);clear hi ah ar ap i0
 go_loopw[6,24] (fun t i wr=>∃k:Nat,k<=xs.length/\i=.int .i64 k/\t=.int .i64 (Kg (Hd ((Gt p xs).take k)):Nat)/\B_ w wr/\wr.cell? ⟨w.heap.size,2,none⟩=some (.slice Ao p.order.length og)/\gk<wr.heap.size/\own 3 w.heap.size wr (.slice (P_ gk) p.order.length p.order.length) (N4 (Q8 (Hd ((Gt p xs).take k))) p.order.length)) (fun _ i _=>xs.length - (intOf i).toNat)
 case atStart=>exact⟨0,aN _,rfl,rfl,tZ,gz,m7,ho⟩
 case round=>
  obtain⟨k,hk,rfl,rfl,av,g2,hgk2,ok⟩:=hrel;refine' zO;have lZ:=av.size;have hlv2:w.heap.size<w2.heap.size:=ZA
  clear tZ gz m7 ho;have OK:=aA ok;clear ok;by_cases ab:k<xs.length
  .obtain⟨b,o,rfl,hb,⟨⟨o1,o2⟩,o3⟩,c1,c2⟩:=HR.out.ltr k ab
   have fx:=aA (Ar8 p xs k ab);have FB:=aA (Pv ((Gt p xs).take k));have ma:Hid (((Gt p xs).take k).length=k):=by{show _=_;rw[bJ,qg.out];omega};refine' zu;have qi:w2.cell? ⟨b,o+k*2,none⟩=some (.int .i64 x.id):=(av.cell (p:=⟨b,o+k*2,none⟩) hb).trans c1;have pL:w2.cell? ⟨b,o+k*2+1,none⟩=some (.string x.code):=(av.cell (p:=⟨b,o+k*2+1,none⟩) hb).trans c2;clear c1 c2;refine' ZSH;rw[qe.out]at cj;have y8:=aA (qe.out▸fx.out);clear fx;obtain⟨L',GL⟩:∃L',Hid (Hd ((Gt p xs).take (k+1))=L'):=⟨_,rfl⟩;have y8:Hid (L'=Xi (Hd ((Gt p xs).take k)) r):=by{show _=_;rw[<-GL.out];exact y8.out};generalize Hd ((Gt p xs).take k)=L at *;have it:=aA (fun n=>ma.out▸(FB.out n).1);have kV:Hid (Kg L<=k):=by{show _<=_;have:=(FB.out 0).2;rw[ma.out]at this;exact this};clear FB ma;have nU:=aA (fun o=>yZ.out.on (av.alloc lZ o))
   refine' ZC;refine(Nf _ p.order x.code _ (nU.out _)).mono ?_;rw[qe.out];refine' Zb;by_cases bc:r<0
   .have HN:Hid (L'=L):=by{show _=_;rw[y8.out,AbZ bc]};refine' ZC;go_roundw
    case rel=> refine⟨k+1,ZA,ZJ,by rw[GL.out,HN.out],av.alloc lZ _,zD,ZH,?_⟩;rw[GL.out,HN.out];exact OK.out.alloc _
    case measure=>exact ZK
   .refine' ZJk;have hq:q<p.order.length:=ZA
    have sh:Hid (L'=L++[(q,Gf L q+1)]):=by{show _=_;rw[y8.out,AbH]};have mn:B_ w (w2.alloc (aB #[aH aD x.id,aG x.code] 119)):=av.alloc lZ _;have o4:=OK.out.alloc (aB #[aH aD x.id,aG x.code] 119);have g3:(w2.alloc (aB #[aH aD x.id,aG x.code] 119)).cell? ⟨w.heap.size,2,none⟩=some (.slice Ao p.order.length og):=zD
    have fu:gk<(w2.alloc (aB #[aH aD x.id,aG x.code] 119)).heap.size:=ZH
    generalize(w2.alloc (aB #[aH aD x.id,aG x.code] 119))=w4 at *;clear g2 hgk2 av lZ qi pL OK hlv2 nU;have hrt:=o4.rd.take (k:=q+1) (by rw[Gp];omega);rw[AtQ _ _ _ ZA]at hrt;have BD:=aA hrt;clear hrt;obtain⟨u0,hu0⟩:=o4.cellAt (j:=q) (by rw[Gp];show _<_*1;omega);have lk:=o4.freeAt q;have px:Mz (Q8 L) q=Gf L q:=Aq5 L q;have HMX:=aA px;clear px;have bv:=it.out q;have dq:=kV.out;have HSI:=aA (fun y hy=>ZD0 o4 (k:=q) (by rw[Gp];exact hq) y hy);clear o4;refine' ZC;refine(Ap9 _ (Q8 L) q _ BD.out).mono ?_;rw[HMX.out];rintro e w5 ⟨rfl,rfl⟩;have lX:Hid (N4 (Q8 L') p.order.length=(N4 (Q8 L) p.order.length).set q ((Gf L q:Nat)+1:Int)):=by{show _=_;rw[sh.out,show((Gf L q:Nat)+1:Int)=((Gf L q+1:Nat):Int) by omega,Ah5];exact ZBk fun j _=>AsG L q j};have CS:Hid (Kg L'=max (Kg L) (Gf L q+1)):=by{show _=_;rw[sh.out,ZAp]};generalize Gf L q=m at *;generalize Kg L=m2 at *;by_cases xw:(m2:Int)<(m:Int)+1
    exact ZSI;exact ZSI
  .refine' YO;have HF:Hid (Jh p xs=(Kg (Hd ((Gt p xs).take k)):Nat)):=by show _=_;unfold Jh Xg;rw[HP.out,HX.out,HE.out,<-qg.out,bA];rfl
   generalize Kg (Hd ((Gt p xs).take k))=m at *;refine' ZO;exact⟨Bo HF.out.symm,av⟩
def F5(p:Pln)(xs:List Ltr):Int:=if Jh p xs<0 then -1 else xs.length - Jh p xs
theorem ZBd(p xs): -1<=Jh p xs/\Jh p xs<=xs.length:=by
 unfold Jh Xg
 split
 .have h:=(Pv (Gt p xs) 0).2
  rw[ZDo]at h;omega
 .omega
theorem ZDq(v vb p xs w)(hv:rdP w w.heap.size v p)(hb:R_ w vb xs):
 C_ 124 #[v,vb] w (.int .i64 (F5 p xs)):=by
 refine' ZSJ;go_enter func124,ntmps124
 refine' ZC;refine(Ac7 _ _ p xs _ (fg.out.on HB.out) (br.out.on HB.out)).mono ?_;exact ZSK
def Mk(c:UInt8):Bool:=97<=c.toNat&&c.toNat<=122
def jN(l:List UInt8):Bool:=l.all Mk
theorem Ad9(s:Y_)(k)(h:k<s.size):jN (s.data.toList.take (k+1))=(jN (s.data.toList.take k)&&Mk s[k]):=by unfold jN;exact ZMG
theorem AoO(s:Y_)(k)(h:k<s.size)(hd:Mk s[k]=false):jN s.data.toList=false:=by unfold jN;exact ZMH
def Gi(s:Y_):Bool:=jN s.data.toList&&(decide (1<=(s.size:Int))&&decide ((s.size:Int)<=8))
def Jr(s:Y_):Bool:=Ea s.data.toList&&decide (s.size<=7)
theorem AbX{s}:Jr s=true↔Ea s.data.toList=true/\s.size<=7:=by unfold Jr;rw[aO,bD]
theorem Kb{s}:Gi s=true↔jN s.data.toList=true/\1<=s.size/\s.size<=8:=by unfold Gi;rw[aO,aO,bD,bD];refine and_congr Iff.rfl ?_;omega
def L8:Y_:=⟨#[104,101,114,101]⟩
def pre(c p:Y_):Bool:=decide (p.size<=c.size)&&zU (c.extract 0 p.size) p
theorem AlZ{c p}:pre c p=true↔p.data.toList<+:c.data.toList:=by
 unfold pre;rw[aO,bD,Ec,List.prefix_iff_eq_take];refine' ZSf;constructor
 .rintro⟨h1,h2⟩
  rw[hl]
  conv=>lhs;rw[<-h2]
  exact ZTo
 .intro h
  have hs:p.size<=c.size:=by have:=aU List.length h;rw[bJ,hl,hl]at this;omega
  refine⟨hs,?_⟩;rw[hl]at h;have:(c.extract 0 p.size).data.toList=p.data.toList:=by rw[h];exact ZTo
  exact ByteArray.ext (Array.toList_inj.1 this)
def Xh(rs:List Fwd)(k:Nat):Bool:=
 match rs[k]? with
 |none=>false
 |some x=>Jr x.src&&Gi x.dst&&(rs.take k).all (fun y=> !zU y.src x.src)
def C7(rs:List Fwd):Bool:=decide (rs.length<=20)&&(List.range rs.length).all (Xh rs)
theorem Ma{fs k}(hk:k<fs.length):Xh fs k=(Jr fs[k].src&&Gi fs[k].dst&&(fs.take k).all (fun y=> !zU y.src fs[k].src)):=by unfold Xh;exact Uv
theorem AcN{fs k}(hk:k<fs.length)(h:Xh fs k=false):C7 fs=false:=by unfold C7;exact Qx
theorem ZAj{fs}(qS:fs.length<=20)(h:∀j,j<fs.length->Xh fs j=true):C7 fs=true:=by unfold C7;rw[aL qS];exact ZIM
theorem AdB{fs}(h:¬fs.length<=20):C7 fs=false:=by unfold C7;rw[aP h];rfl
theorem Ev{fs:List Fwd}:C7 fs=true↔fs.length<=20/\∀k (h:k<fs.length),Jr fs[k].src=true/\Gi fs[k].dst=true/\∀j (hj:j<k),fs[j].src≠fs[k].src:=by
 unfold C7;refine' ZIN;refine and_congr Iff.rfl ⟨fun h k hk=>?_,fun h k hk=>?_⟩
 .have:=h k zP
  rw[Ma hk]at this;exact ZPG
 .have gj:k<fs.length:=zP
  obtain⟨h1,h2,h3⟩:=h k gj;rw[Ma gj];exact ZPH
def D_(rs:List Fwd)(b:Int):Nat:=((rs[b.toNat]?).map fun x=>x.src.size).getD 0
def J0(rs:List Fwd)(c:Y_)(b:Int)(k:Nat):Int:=
 match rs[k]? with
 |none=>b
 |some x=>if pre c x.src=true/\(b<0\/D_ rs b<x.src.size)then(k:Int)else b
def Ie(rs:List Fwd)(c:Y_):Nat->Int
 |0=> -1
 |k+1=>J0 rs c (Ie rs c k) k
def Iv(rs:List Fwd)(c:Y_):Int:=Ie rs c rs.length
theorem Hm(rs c):∀k, -1<=Ie rs c k/\Ie rs c k<k
 |0=>⟨by simp[Ie],by simp[Ie]⟩
 |k+1=>by
  have h:=Hm rs c k;unfold Ie J0
  split
  .omega
  .split<;>omega
theorem AeU{rs c k b}(hk:k<rs.length)(hb:Ie rs c k=b)(h:pre c rs[k].src=false):Ie rs c (k+1)=b:=by show J0 _ _ _ _=_;unfold J0;rw[aR hk];simp[h,hb]
theorem AeX{rs:List Fwd}{c k q}(hk:k<rs.length)(hq:q<rs.length)(hb:Ie rs c k=q)(h:¬rs[q].src.size<rs[k].src.size):Ie rs c (k+1)=q:=by
 show J0 _ _ _ _=_;unfold J0;rw[aR hk,hb];have:D_ rs (q:Int)=rs[q].src.size:=by unfold D_;rw[bE,aR hq];rfl
 simp only[this];rw[aM];rintro⟨_,h1|h1⟩
 .omega
 .exact h h1
theorem AfP{rs c k}(hk:k<rs.length)(hp:pre c rs[k].src=true)(h:Ie rs c k<0\/∃q:Nat,∃hq:q<rs.length,Ie rs c k=q/\rs[q].src.size<rs[k].src.size):Ie rs c (k+1)=k:=by
 show J0 _ _ _ _=_;unfold J0;rw[aR hk]
 dsimp only
 rw[aQ];refine⟨hp,?_⟩;rcases h with h|⟨q,hq,h1,h2⟩
 .exact .inl h
 .refine .inr ?_
  rw[h1];unfold D_;rw[bE,aR hq];exact h2
def Gw(rs:List Fwd)(c:Y_):Y_:=if Iv rs c<0 then⟨#[]⟩else((rs[(Iv rs c).toNat]?).map Fwd.dst).getD ⟨#[]⟩
theorem AgR{rs c}(h:Iv rs c<0):Gw rs c=⟨#[]⟩:=by unfold Gw;rw[aQ h]
theorem Rx{rs c}{k:Nat}(h:Iv rs c=k)(hk:k<rs.length):Gw rs c=rs[k].dst:=by unfold Gw;rw[aM ZA,h,bE,aR hk];rfl
theorem ArN{rs c M}(h:∀x∈rs,x.dst.size<=M):(Gw rs c).size<=M:=by
 by_cases hb:Iv rs c<0
 .rw[AgR hb];exact zC
 .obtain⟨k,hk⟩:=aK (Int.not_lt.1 hb)
  have hr:=(Hm rs c rs.length).2;have gj:Ie rs c rs.length=k:=hk;rw[Rx hk ZA];exact h _ (aS _)
structure Ofc where
 name:ByteArray
 rules:List Fwd
def Gq(net:List Ofc)(s:Y_):Int:=o_ (fun o=>zU o.name s) net
def I0(net:List Ofc)(r:Fwd):Bool:=zU r.dst L8||decide (0<=Gq net r.dst)
def dO(net:List Ofc)(k:Nat):Bool:=
 match net[k]? with
 |none=>false
 |some o=>(Gi o.name&& !zU o.name L8&&(net.take k).all (fun y=> !zU y.name o.name)&&C7 o.rules)&&o.rules.all (I0 net)
def Di(net:List Ofc):Bool:=(decide (1<=(net.length:Int))&&decide ((net.length:Int)<=8))&&(List.range net.length).all (dO net)
theorem AkC{net k}(hk:k<net.length):dO net k=((Gi net[k].name&& !zU net[k].name L8&&(net.take k).all (fun y=> !zU y.name net[k].name)&&C7 net[k].rules)&&net[k].rules.all (I0 net)):=by unfold dO;exact Uv
theorem Aj9{net k}(hk:k<net.length)(h:dO net k=false):Di net=false:=by unfold Di;exact Qx
theorem AhY{net}(h:∀j,j<net.length->dO net j=true):Di net=(decide (1<=(net.length:Int))&&decide ((net.length:Int)<=8)):=by unfold Di;rw[List.all_eq_true.2 fun k hk=>h k zP,Bool.and_true]
theorem AjA{net}(h:¬(1<=net.length/\net.length<=8)):Di net=false:=by
 unfold Di;rw[eM,eM,eQ,eQ]
 left;omega
theorem D1{net:List Ofc}:Di net=true↔(1<=net.length/\net.length<=8)/\∀k (h:k<net.length),Gi net[k].name=true/\net[k].name≠L8/\(∀j (hj:j<k),net[j].name≠net[k].name)/\C7 net[k].rules=true/\∀r∈net[k].rules,r.dst=L8\/0<=Gq net r.dst:=by
 unfold Di;rw[aO,aO,bD,bD,dU];refine and_congr ZA ⟨fun h k hk=>?_,fun h k hk=>?_⟩
 .have:=h k zP
  rw[AkC hk]at this;simp only[aO,fJ,F6]at this;obtain⟨⟨⟨⟨a,b⟩,c⟩,d⟩,e⟩:=this;refine⟨a,b,fun j hj=>?_,d,fun r hr=>?_⟩
  .have hh:=List.all_eq_true.1 c net[j] V3
   simp only[fJ]at hh;exact F6.1 hh
  .have hh:=List.all_eq_true.1 e r hr
   unfold I0 at hh;rw[jF,Ec,bD]at hh;exact hh
 .have gj:k<net.length:=zP
  obtain⟨h1,h2,h3,h4,h5⟩:=h k gj;rw[AkC gj];simp only[aO,fJ,F6];refine⟨⟨⟨⟨h1,h2⟩,List.all_eq_true.2 fun y hy=>?_⟩,h4⟩,List.all_eq_true.2 fun r hr=>?_⟩
  .exact ZTp
  .unfold I0
   rw[jF,Ec,bD];exact h5 r hr
theorem Ak1{net}(h:Di net=true){i j}(hi:i<net.length)(hj:j<net.length)(e:net[i].name=net[j].name):i=j:=by
 obtain⟨_,h⟩:=D1.1 h;rcases eT i j with ab|rG|KZ
 .exact absurd e ((h j hj).2.2.1 i ab)
 .exact rG
 .exact absurd e.symm ((h i hi).2.2.1 j KZ)
theorem AuD{net}(h:Di net=true){i}(hi:i<net.length):Gq net net[i].name=i:=
 Sk hi (fun j hj ly=>F6.2 fun e=>by have:=Ak1 h hj hi e;omega) (Mq _)
theorem AsU{net s}{k:Nat}(h:Gq net s=k):∃hk:k<net.length,net[k].name=s:=by obtain⟨hk,h1,_⟩:=AeP h;exact⟨hk,Ec.1 h1⟩
def q_(net:List Ofc)(c:Y_)(i:Nat):Int:=
 match net[i]? with
 |none=> -2
 |some o=>if Iv o.rules c<0 then -2 else if zU (Gw o.rules c) L8=true then -1 else Gq net (Gw o.rules c)
def Fc(net:List Ofc)(c:Y_):Nat->List Nat->Nat->List Nat×Int
 |0,p,_=>(p,3)
 |f+1,p,i=>if i∈p then(p++[i],2)else if q_ net c i= -2 then(p++[i],1)else if q_ net c i= -1 then(p++[i],0)else Fc net c f (p++[i]) (q_ net c i).toNat
def Ht(net:List Ofc)(c:Y_)(i:Nat):List Nat×Int:=Fc net c (net.length+1) [] i
theorem AsP{net}(h:Di net=true){c i}(hi:i<net.length)(h1:q_ net c i≠ -2)(h2:q_ net c i≠ -1):∃j:Nat,j<net.length/\q_ net c i=j/\0<=Iv net[i].rules c/\Gw net[i].rules c≠L8/\Gq net (Gw net[i].rules c)=j/\net[j]?.map Ofc.name=some (Gw net[i].rules c):=by
 have hh:q_ net c i=if Iv net[i].rules c<0 then -2 else if zU (Gw net[i].rules c) L8=true then -1 else Gq net (Gw net[i].rules c):=by unfold q_;rw[aR hi]
 rw[hh]at h1 h2⊢;by_cases hb:Iv net[i].rules c<0
 .rw[aQ hb]at h1;exact absurd rfl h1
 rw[aM hb]at h1 h2⊢;by_cases hs:zU (Gw net[i].rules c) L8=true
 .rw[aQ hs]at h2;exact absurd rfl h2
 rw[aM hs];obtain⟨k,hk⟩:=aK (Int.not_lt.1 hb);have hr:=(Hm net[i].rules c net[i].rules.length).2;have gj:Ie net[i].rules c net[i].rules.length=k:=hk;have gq:k<net[i].rules.length:=ZA
 have hn:Gw net[i].rules c=(net[i].rules[k]).dst:=Rx hk gq;have ho:=((D1.1 h).2 i hi).2.2.2.2 (net[i].rules[k]) (aS _);rw[<-hn]at ho;have ay:Gw net[i].rules c≠L8:=fun e=>hs (Ec.2 e)
 rcases ho with ho|ho
 .exact absurd ho ay
 .refine' ZTW;exact⟨j,vp,hj,ZA,ay,hj,by rw[aR vp,Option.map_some,JM]⟩
theorem ZDL:∀(n:Nat) (l:List Nat),l.Nodup->(∀x∈l,x<n)->l.length<=n
 |0,l,_,h=>by
  cases l with
  |nil=>exact zC
  |cons x l=>exact absurd (h x fY) (aX x)
 |n+1,l,hn,h=>by
  have:=ZDL n (l.erase n) (hn.erase n) fun x hx=>by have h1:=(hn.mem_erase_iff).1 hx;have:=h x h1.2;omega
  have hl:=List.length_erase (a:=n) (l:=l)
  split at hl<;>omega
def Uj(net:List Ofc)(f:Nat)(p:List Nat)(i:Nat):Prop:=p.Nodup/\(∀x∈p,x<net.length)/\i<net.length/\f+p.length=net.length+1
theorem Ml{net i}(hi:i<net.length):Uj net (net.length+1) [] i:=⟨ZF,ZF,hi,ZF⟩
theorem AgF{net f p i}(h:Uj net f p i):∃g,f=g+1:=by refine' Tv;have:=ZDL _ _ h1 h2;exact⟨f - 1,ZA⟩
theorem ZDE{net f p i j}(h:Uj net (f+1) p i)(hi:i∉p)(hj:j<net.length):Uj net f (p++[i]) j:=by
 refine' Tv;refine⟨?_,?_,hj,ZH⟩
 .rw[List.nodup_append]
  refine⟨h1,ZF,?_⟩;intro a ha b hb e;simp at hb;subst hb e;exact hi ha
 .intro x hx
  rcases List.mem_append.1 hx with hx|hx
  .exact h2 x hx
  .simp at hx;omega
theorem AbM{net}(h:Di net=true){c}:∀(f:Nat) (p:List Nat) (i:Nat),Uj net f p i->p.length+1<=(Fc net c f p i).1.length/\(Fc net c f p i).1.length<=net.length+1/\∀x∈(Fc net c f p i).1,x<net.length
 |0,p,i,ho=>ZSd
 |f+1,p,i,ho=>by
  have h1:=ZDL _ _ ho.1 ho.2.1;have hi:=ho.2.2.1;have qu:∀x∈p++[i],x<net.length:=fun x hx=>by
   rcases List.mem_append.1 hx with hx|hx
   .exact ho.2.1 x hx
   .simp at hx;omega
  unfold Fc;by_cases hm:i∈p
  .rw[aQ hm];exact ZJ2
  rw[aM hm]
  split
  .exact ZJ2
  .split
   .exact ZJ2
   .rename_i h1 h2
    obtain⟨j,hj,e,_⟩:=AsP h hi h1 h2;rw[e,bE];have:=AbM h (c:=c) f (p++[i]) j (ZDE ho hm hj);simp only[aT,cE]at this;exact⟨ZA,this.2⟩
theorem AgJ(s w)(hs:s.size<=maxLen):
 ya 284 #[.string s] w (.bool (Gi s)):=by
 unfold maxLen at hs;go_enter func284,ntmps284;by_cases hz:1<=(s.size:Int)/\(s.size:Int)<=8
 .obtain⟨ar,ap⟩:=hz
  have HI:Hid (∀b,jN s.data.toList=b->Gi s=b):=fun b h=>by unfold Gi;rw[aL ar,aL ap,h];simp
  refine' ZTj
  .refine' Se;by_cases ab:k<s.size
   .have lG:=Ad9 s k ab
    have ao:=aA (AoO s k ab);refine' ZEX;go_wp2
    exact ZTk;exact ZTl
    exact ZTk
   .refine' ZEY;refine' ZO;exact⟨Al (HI.out _ HD.out).symm,rfl⟩
 .have HF:Hid (Gi s=false):=by
   show _=_;cases hq:Gi s
   .rfl
   .have:=(Kb.1 hq).2
    exact absurd ⟨ZA,ZA⟩ hz
  by_cases ar:(s.size:Int)<1
  .exact ZIQ
  .have ap:(8:Int)<(s.size:Int):=ZA
   clear hz;exact ZIQ
theorem AdJ(s w)(hs:s.size<=maxLen):
 ya 173 #[.string s] w (.bool (Gi s)):=by
 unfold maxLen at hs;go_enter func173,ntmps173;refine' ZTj
 .refine' Se;by_cases ab:k<s.size
  .have lG:=Ad9 s k ab
   have ao:=aA (AoO s k ab);refine' ZEX;go_wp2
   .go_ret
    exact⟨Al ZTm,rfl⟩
   exact ZTl
   .go_ret
    exact⟨Al ZTm,rfl⟩
  .refine' ZEY;refine' ZC;refine(D0 s.size 1 8 _).mono ?_;refine' ZZ;have HR:Hid (Gi s=(decide (1<=(s.size:Int))&&decide ((s.size:Int)<=8))):=by show _=_;unfold Gi;rw[HD.out];rfl
   obtain⟨r,hr⟩:∃r,(decide (1<=(s.size:Int))&&decide ((s.size:Int)<=8))=r:=⟨_,rfl⟩;rw[hr]at HR⊢;clear hr
   exact ZIP
theorem AiY(s w)(hs:s.size<=maxLen):
 ya 288 #[.string s] w (.bool (Jr s)):=by
 go_enter func288,ntmps288;by_cases h7:s.size<=7
 .have h7':(s.size:Int)<=7:=ZA
  have HP:Hid (Jr s=Ea s.data.toList):=by show _=_;unfold Jr;rw[aL h7,Bool.and_true]
  rw[HP.out]
  refine' ZMK;exact ZW
 .have h7':¬(s.size:Int)<=7:=ZA
  have HP:Hid (Jr s=false):=by show _=_;unfold Jr;rw[aP h7,Bool.and_false]
  rw[HP.out];refine' ZO;exact ZW
theorem dig(s w)(hs:s.size<=maxLen):
 ya 253 #[.string s] w (.bool (Jr s)):=by
 go_enter func253,ntmps253;cases hd:(Ea s.data.toList&&decide (s.size<=20))
 .refine' ZEZ;simp only[Jr,eM,eQ]at this⊢;rcases this with h|h
  .simp[h]
  .have h7:¬s.size<=7:=ZA
   simp[h7]
 .refine' ZEZ;refine' ZHW;refine' fV;simp[Jr,this.1]
  try omega
theorem AnJ(v fs c w)(hv:R_ w v fs):
 C_ 337 #[v,.string c] w (.int .i64 (Gg fs c)):=by refine' Ze;go_enter func337,ntmps337;exact ZPI
theorem AmP(v fs c w)(hv:R_ w v fs):
 ya 164 #[v,.string c] w (.int .i64 (Gg fs c)):=by refine' Ze;go_enter func164,ntmps164;exact ZPJ
theorem At0{s r w}(hs:s.size<=maxLen)(h:Jr s=r):ya 288 #[.string s] w (.bool r):=by rw[<-h];exact AiY s w hs
theorem M7{s r w}(hs:s.size<=maxLen)(h:Gi s=r):ya 284 #[.string s] w (.bool r):=by rw[<-h];exact AgJ s w hs
theorem BaY(v fs w)(hv:R_ w v fs):
 ya 174 #[v] w (.bool (C7 fs)):=by
 refine' Qw;refine' YA;go_enter func174,ntmps174;go_wp2
 go_loop[3] (fun i=>∃k:Nat,k<=fs.length/\i=.int .i64 k/\Hid (∀j,j<k->Xh fs j=true)) (fun i=>fs.length - (intOf i).toNat)
 case atStart=>exact ZE5
 case round=>
  refine' YH;by_cases ab:k<fs.length
  .refine' ZE6;have hG:=aA (Ma ab);have hS:=aA (AjD ab);have ao:=aA (fun h=>AcN ab h);refine' YR;refine' Zd;refine' ZC;refine(dig x.src _ nz).mono ?_;refine' ZZ;cases h1:Jr x.src
   exact ZIR;refine' zp;refine(AdJ x.dst _ nC).mono ?_;refine' ZZ;cases h2:Gi x.dst
   .refine' zN;exact ZIS
   refine' ZPR;refine(AmP _ fs x.src _ fg.out).mono ?_;exact ZPS
  .refine' Uu;by_cases qS:fs.length<=20
   .have tF:=aA qS
    have rD:(fs.length:Int)<=20:=ZA
    refine' ZI;exact⟨Al (ZAj tF.out iQ).symm,rfl⟩
   .have tF:=aA qS
    have rD:¬(fs.length:Int)<=20:=ZA
    refine' ZI;exact⟨Al (AdB tF.out).symm,rfl⟩
theorem ZAw(v fs w)(hv:R_ w v fs):
 C_ 285 #[v] w (.bool (C7 fs)):=by
 refine' Qw;refine' YA;go_enter func285,ntmps285;by_cases qS:(20:Int)<(fs.length:Int)
 .have HF:=aA (show¬fs.length<=20 by omega)
  refine' ZO;exact⟨Al (AdB HF.out).symm,l0⟩
 have tF:=aA (show fs.length<=20 by omega);go_wp2
 go_loopw[10] (fun i wr=>∃k:Nat,k<=fs.length/\i=.int .i64 k/\B_ w wr/\Hid (∀j,j<k->Xh fs j=true)) (fun i _=>fs.length - (intOf i).toNat)
 case atStart=>exact ZIT
 case round=>
  refine' Ya;clear l0;by_cases ab:k<fs.length
  .refine' ZE6;have hG:=aA (Ma ab);have ao:=aA (fun h=>AcN ab h);refine' YR;refine' Zd;refine' ZJq;refine' ZPT;cases h1:Jr x.src
   .refine' zS;have C1:=aA (fun w=>At0 (w:=w) nz H1.out);refine' Zc;go_quiet (first|(go_at_call 288;exact Y9))
    exact ZIV
   refine' zS;have C1:=aA (fun w=>At0 (w:=w) nz H1.out);cases h2:Gi x.dst
   .refine' zN;have C2:=aA (fun w=>M7 (w:=w) nC H2.out);refine' Zc;go_quiet (first|(go_at_call 288;exact Y9)|(go_at_call 284;refine Da (C2.out _)))
    exact ZIX
   refine' zN;have C2:=aA (fun w=>M7 (w:=w) nC H2.out);refine' ZPU;have C3:Hid (∀W,B_ wo W->C_ 337 #[.slice (some ⟨b,o,none⟩) k cp,.string x.src] W (.int .i64 r)):=fun W hW=>by{have h:=AnJ (.slice (some ⟨b,o,none⟩) k cp) (fs.take k) x.src W ((je.out.on hW).take hk);rw[ak.out]at h;exact h};refine' ZIY;by_cases fi:0<=r
   .have HD:=aA (aL fi)
    refine' ZTn;go_ret;exact ZIZ
   .have HD:=aA (aP fi)
    refine' ZTn;exact ZPW
  .refine' Uu;refine' ZO;exact⟨Al (ZAj tF.out iQ).symm,lr⟩
instance elOfc:El Ofc where
 size:=2
 el w B x cs:=x.name.size<=maxLen/\∃v,cs=[.string x.name,v]/\rd w B v x.rules
 len h:=by obtain⟨_,v,rfl,_⟩:=h;rfl
 more h hB:=by obtain⟨h0,v,h1,h2⟩:=h;exact⟨h0,v,h1,h2.more hB⟩
 keep h hk:=by obtain⟨h0,v,h1,h2⟩:=h;exact⟨h0,v,h1,h2.keep hk⟩
 one h:=by obtain⟨_,v,rfl,A,n,c,rfl,_⟩:=h;intro u hu;simp at hu;rcases hu with rfl|rfl<;>rfl
theorem rdA.ofcU{w A}{net:List Ofc}(h:rdA w w.heap.size A net)(k)(hk:k<net.length):
 ∃b o A' c',A=some ⟨b,o,none⟩/\b<w.heap.size/\net[k].name.size<=maxLen/\R_ w (.slice A' net[k].rules.length c') net[k].rules/\(∀W,B_ w W->W.cell? ⟨b,o+k*2,none⟩=some (.string net[k].name))/\(∀W,B_ w W->W.cell? ⟨b,o+k*2+1,none⟩=some (.slice A' net[k].rules.length c')):=by
 obtain⟨b,o,cs,hA,hb,⟨hn,v,rfl,hv⟩,hc⟩:=h k hk;have fg:=hv;obtain⟨A',n',c',rfl,qL,_⟩:=hv;subst qL;have c1:w.cell? ⟨b,o+k*2,none⟩=some (.string net[k].name):=Rn
 have c2:w.cell? ⟨b,o+k*2+1,none⟩=some (.slice A' net[k].rules.length c'):=by simpa [El.size,jT]using hc 1 _ rfl
 exact⟨b,o,A',c',hA,hb,hn,fg,fun W hW=>(hW.cell (p:=⟨b,o+k*2,none⟩) hb).trans c1,fun W hW=>(hW.cell (p:=⟨b,o+k*2+1,none⟩) hb).trans c2⟩
structure OfV where
 name:ByteArray
 val:Value
instance elOfV:El OfV where
 size:=2
 el _ _ x cs:=cs=[.string x.name,x.val]/\x.name.size<=maxLen/\x.val.oneCell'=true
 len h:=by rw[h.1];rfl
 more h _:=h
 keep h _:=h
 one h:=by
  rw[h.1];intro u hu;simp at hu;rcases hu with rfl|rfl
  .rfl
  .exact h.2.2
instance flatOfV:Flat OfV where
 free h:=h
def isN(T1 T2:TypeId)(base:Nat)(w:World)(v:Value)(net:List Ofc)(os:List OfV):Prop:=
 own T1 base w v os/\os.length=net.length/\(∀k (h:k<os.length) (h':k<net.length),os[k].name=net[k].name/\own T2 base w os[k].val net[k].rules)/\(∀j k (hj:j<os.length) (hk:k<os.length),j≠k->apart os[j].val os[k].val)/\(∀k (h:k<os.length),apart os[k].val v)
def AoW(T1 T2:TypeId)(base:Nat)(w:World)(v:Value)(net:List Ofc):Prop:=∃os:List OfV,isN T1 T2 base w v net os
section
variable{T1 T2:TypeId}{base:Nat}{w w':World}{v:Value}{net:List Ofc}{os:List OfV}
theorem isN.below(h:isN T1 T2 base w v net os)(hb:B_ w w'):isN T1 T2 base w' v net os:=by refine' fQ;exact⟨h1.below hb,h2,fun k a b=>⟨(h3 k a b).1,(h3 k a b).2.below hb⟩,h4,h5⟩
theorem isN.grown{row}(h:isN T1 T2 base w v net os)(hg:w.grownBy w' row)(hv:v.ownBlock=none\/v.ownBlock≠row)(CL:∀k (h:k<os.length),os[k].val.ownBlock=none\/os[k].val.ownBlock≠row):isN T1 T2 base w' v net os:=by refine' fQ;exact⟨h1.grown hg hv,h2,fun k a b=>⟨(h3 k a b).1,(h3 k a b).2.grown hg (CL k a)⟩,h4,h5⟩
theorem isN.base_{base'}(h:isN T1 T2 base w v net os)(hb:base'<=base):isN T1 T2 base' w v net os:=by refine' fQ;exact⟨h1.base_ hb,h2,fun k a b=>⟨(h3 k a b).1,(h3 k a b).2.base_ hb⟩,h4,h5⟩
theorem AzF{g n c}(h:own T1 base w (.slice (P_ g) n c) os)(k)(hk:k<os.length):
 os[k].name.size<=maxLen/\w.cell? ⟨g,k*2,none⟩=some (.string os[k].name)/\w.cell? ⟨g,k*2+1,none⟩=some os[k].val:=by
 refine' Rj;obtain⟨b,o,cs,hA,_,⟨rfl,hz,_⟩,hc⟩:=nU k hk;refine' V0;refine⟨hz,?_,?_⟩
 .have:=hc 0 _ rfl
  rw[show 0+(k*El.size OfV+0)=k*2 by show 0+(k*2+0)=k*2;omega]at this;exact this
 .have:=hc 1 _ rfl
  rw[show 0+(k*El.size OfV+1)=k*2+1 by show 0+(k*2+1)=k*2+1;omega]at this;exact this
theorem isN.form(h:isN T1 T2 base w v net os):v=.slice none 0 0/\net=[]\/∃g c,v=.slice (P_ g) net.length c/\base<=g/\g<w.heap.size/\net.length<=c/\c<=maxLen:=by obtain⟨h1,h2,_⟩:=h;exact ZSO
theorem isN.rd(h:isN T1 T2 base w v net os):R_ w v net:=by
 refine' ZSP
 .obtain⟨h1,h2,h3,_⟩:=h
  refine⟨_,_,_,rfl,rfl,hc,hm,fun k hk=>?_⟩;have gj:k<os.length:=ZA
  obtain⟨e1,e2⟩:=h3 k gj hk;obtain⟨z0,z1,z2⟩:=AzF h1 k gj;refine⟨g,0,[.string net[k].name,os[k].val],rfl,ab,⟨by rw[<-e1];exact z0,_,rfl,e2.rd⟩,fun j u hu=>?_⟩
  match j,hu with
  |0,hu=> simp at hu;subst hu;rw[show 0+(k*El.size Ofc+0)=k*2 by show 0+(k*2+0)=k*2;omega,z1,e1]
  |1,hu=> simp at hu;subst hu;rw[show 0+(k*El.size Ofc+1)=k*2+1 by show 0+(k*2+1)=k*2+1;omega,z2]
  |j+2,hu=>simp at hu
theorem AoW.rd(h:AoW T1 T2 base w v net):R_ w v net:=by obtain⟨os,h⟩:=h;exact h.rd
end
theorem Tl(s):zU s L8=(s.toList==[104,101,114,101]):=by unfold zU;rw[bU L8];rfl
theorem BbB(net:List Ofc)(k c){r}(h:Gq (net.take k) c=r):(net.take k).all (fun y=> !zU y.name c)= !decide (0<=r):=by have:=ArO (fun y:Ofc=>zU y.name c) (net.take k);rw[<-h];unfold Gq;rw[this,Bool.not_not]
theorem BaJ{net}{k:Nat}(h:k<net.length):(Gq net net[k].name==(k:Int))=(net.take k).all (fun y=> !zU y.name net[k].name):=
 An4 (p:=fun y:Ofc=>zU y.name net[k].name) h (Mq _)
theorem Hx(v fs c w)(hv:R_ w v fs):
 C_ 234 #[v,.string c] w (.int .i64 (Gq fs c)):=by
 refine' Ze;go_enter func234,ntmps234;go_wp2
 go_loopw[9] (fun i wr=>∃k:Nat,k<=fs.length/\i=.int .i64 k/\B_ w wr/\Hid (∀j (h:j<fs.length),j<k->zU fs[j].name c=false)) (fun i _=>fs.length - (intOf i).toNat)
 case atStart=>exact ZS7
 case round=>
  refine' Ya;by_cases ab:k<fs.length
  .refine' ZS8;cases he:zU x.name c
   .refine' zf;have hq:(x.name.toList==c.toList)=false:=he;exact ZS9
   .refine' zf;have hq:(x.name.toList==c.toList)=true:=he;clear he;refine' ZO;exact⟨Bo (HY.out jj.out).symm,Ae lr _⟩
  .have HE:Hid (Gq fs c= -1):=Pk fun j hj=>HG.out j hj ZA
   refine' ZO;exact⟨Bo HE.out.symm,lr⟩
theorem H7(v fs c w)(hv:R_ w v fs):
 ya 111 #[v,.string c] w (.int .i64 (Gq fs c)):=by
 refine' Ze;go_enter func111,ntmps111;go_wp2
 go_loop[5] (fun i=>∃k:Nat,k<=fs.length/\i=.int .i64 k/\Hid (∀j (h:j<fs.length),j<k->zU fs[j].name c=false)) (fun i=>fs.length - (intOf i).toNat)
 case atStart=>exact Yc
 case round=>
  refine' YH;by_cases ab:k<fs.length
  .refine' ZS8;cases he:zU x.name c
   .refine' zf;have hq:(x.name.toList==c.toList)=false:=he;clear he;go_wp2
    exact Ws
   .refine' zf;have hq:(x.name.toList==c.toList)=true:=he;clear he;exact Uf
  .have HE:Hid (Gq fs c= -1):=Pk fun j hj=>HG.out j hj ZA
   exact ZFO
theorem ZCU(v net w)(hv:R_ w v net):
 ya 87 #[v] w (.bool (Di net)):=by
 refine' Sm;refine' YA;go_enter func87,ntmps87;go_wp2
 go_loop[3] (fun i=>∃k:Nat,k<=net.length/\i=.int .i64 k/\Hid (∀j,j<k->dO net j=true)) (fun i=>net.length - (intOf i).toNat)
 case atStart=>exact ZE5
 case round=>
  refine' YH;by_cases ab:k<net.length
  .refine' Sl;have hG:=aA (AkC ab);have hS:=aA (BaJ ab);have ao:=aA (fun h=>Aj9 ab h);generalize net[k]=x at *;have HU:=aA hu;clear hu;refine' Tx;refine' ZC;refine(AdJ x.name _ ag).mono ?_;refine' ZZ;cases h1:Gi x.name
   exact ZIR;refine' zS;cases h2:zU x.name L8
   case true=>
    refine' g_;rw[Tl]at h2
    exact ZIS
   refine' g_;rw[Tl]at h2;obtain⟨r,ak⟩:∃r,Hid (Gq net x.name=r):=⟨_,rfl⟩
   refine' ZC;refine(H7 _ net x.name _ fg.out).mono ?_;refine' ZTA;refine' ZTB;refine(BaY _ x.rules _ HU.out).mono ?_;refine' ZZ;cases h4:C7 x.rules
   .refine' Qi;refine' ZI;exact⟨Al (ao.out (by rw[hG.out,H4.out];simp)).symm,rfl⟩
   refine' Qi;have yE:=(Ev.1 H4.out).1;have pR:Hid (∀b,x.rules.all (I0 net)=b->dO net k=b):=fun b hb=>by{rw[hG.out,H1.out,H2.out,<-hS.out,ak.out,H3.out,H4.out,hb];rfl};refine' ZTC;go_loop[4] (fun i=>∃m:Nat,m<=x.rules.length/\i=.int .i64 m/\Hid ((x.rules.take m).all (I0 net)=true)) (fun i=>x.rules.length - (intOf i).toNat)
   case atStart=>exact Ug
   case round=>
    obtain⟨m,mj,rfl,HA⟩:=hrel;by_cases py:m<x.rules.length
    .refine' ZTD;cases h5:zU y.dst L8
     case true=>
      have H5:=aA h5;rw[Tl]at h5
      refine' ZC;go_round
      case rel=>exact⟨m+1,ZA,ZJ,ZTE⟩
      case measure=>exact ZK
     refine' ZTF;refine' ZC;refine(H7 _ net y.dst _ fg.out).mono ?_;rw[IB.out];refine' ZZ;by_cases hq:q<0
     .refine' ZTG;exact⟨Al (ao.out (pR.out _ (hI.out H6.out))).symm,rfl⟩
     .refine' ZTH;go_round
      case rel=>exact⟨m+1,ZA,ZJ,ZTI⟩
      case measure=>exact ZK
    .refine' ZTJ;go_round
     case rel=>
      refine' ZIz
      .refine' iS;exact pR.out _ HA2.out
     case measure=>exact ZK
  .refine' Sg;have HN:Hid (Di net=(decide (1<=(net.length:Int))&&decide ((net.length:Int)<=8))):=AhY iQ
   refine' ZC;refine(D0 net.length 1 8 _).mono ?_;refine' ZZ;obtain⟨r,hr⟩:∃r,(decide (1<=(net.length:Int))&&decide ((net.length:Int)<=8))=r:=⟨_,rfl⟩;rw[hr]at HN⊢;clear hr
   refine' ZI;exact⟨Al HN.out.symm,rfl⟩
theorem Js(v net w)(hv:R_ w v net):
 C_ 216 #[v] w (.bool (Di net)):=by
 refine' Sm;refine' YA;go_enter func216,ntmps216;by_cases h1:(net.length:Int)<1
 exact ZTK;by_cases h8:(8:Int)<(net.length:Int)
 exact ZTK;have HL:Hid ((decide (1<=(net.length:Int))&&decide ((net.length:Int)<=8))=true):=by show _=_;exact ZJy
 have SE:net.length<=8:=ZA
 go_wp2
 go_loopw[17] (fun i wr=>∃k:Nat,k<=net.length/\i=.int .i64 k/\B_ w wr/\Hid (∀j,j<k->dO net j=true)) (fun i _=>net.length - (intOf i).toNat)
 case atStart=>exact ZIT
 case round=>
  refine' Ya;clear l0;by_cases ab:k<net.length
  .refine' Sl;have hG:=aA (AkC ab);have ao:=aA (fun h=>Aj9 ab h);refine' ZSp;have y0:=Af ja 0 (.string x.name) rfl;have y1:=Af ja 1 (.slice A2 x.rules.length k2) rfl;refine' Sn;have je:=aA (fg.out.on lo);have HU:=aA (hu.on lo);have na:=aA ja;clear ja hu;cases h1:Gi x.name
   .refine' zS;have C1:=aA (fun w=>M7 (w:=w) ag H1.out);refine' Zc;go_quiet (first|(go_at_call 284;exact Y9))
    exact ZIV
   refine' zS;have C1:=aA (fun w=>M7 (w:=w) ag H1.out);cases h2:zU x.name L8
   case true=>
    refine' g_;rw[Tl]at h2;refine' Zc;go_quiet (first|(go_at_call 284;exact Y9))
    exact ZIX
   refine' g_;rw[Tl]at h2;obtain⟨r,ak⟩:∃r,Hid (Gq (net.take k) x.name=r):=⟨_,rfl⟩;have CI:=aA (BbB net k x.name ak.out);have C3:Hid (∀W,B_ wo W->C_ 234 #[.slice (some ⟨b,o,none⟩) k cp,.string x.name] W (.int .i64 r)):=fun W hW=>by{have h:=Hx (.slice (some ⟨b,o,none⟩) k cp) (net.take k) x.name W ((je.out.on hW).take hk);rw[ak.out]at h;exact h};refine' ZIY;by_cases fi:0<=r
   .have HD:=aA (aL fi)
    refine' ZTL;have l3:=Aa lo (Aa ld b3);refine' ZO;exact ZIZ
   .have HD:=aA (aP fi)
    refine' ZTL;have l3:=Aa ld b3;clear C1 C3 ld b3
    refine' ZC;refine(ZAw _ x.rules _ (HU.out.on l3)).mono ?_;refine' YP;have l4:=Aa l3 b4;clear b4 l3;cases h4:C7 x.rules
    .refine' Qi;refine' ZI;exact⟨Al (ao.out (by rw[hG.out,H4.out];simp)).symm,Aa lo l4⟩
    refine' Qi;have yE:=(Ev.1 H4.out).1;have pR:Hid (∀b,x.rules.all (I0 net)=b->dO net k=b):=fun b hb=>by{rw[hG.out,H1.out,H2.out,CI.out,HD.out,H4.out,hb];rfl};refine' ZTC;go_loopw[47] (fun i wi=>∃m:Nat,m<=x.rules.length/\i=.int .i64 m/\B_ wo wi/\Hid ((x.rules.take m).all (I0 net)=true)) (fun i _=>x.rules.length - (intOf i).toNat)
    case atStart=>exact⟨0,aN _,rfl,l4,rfl⟩
    case round=>
     obtain⟨m,mj,rfl,li,HA⟩:=hrel;obtain⟨w5,rfl⟩:∃w5:World,w5=wr:=⟨_,rfl⟩;clear l4;by_cases py:m<x.rules.length
     .refine' ZTD;cases h5:zU y.dst L8
      case true=>
       have H5:=aA h5;rw[Tl]at h5
       refine' ZC;go_roundw
       case rel=>exact⟨m+1,ZA,ZJ,Ae li _,ZTE⟩
       case measure=>exact ZK
      refine' ZTF;have lj:=Ae li (aB #[.string y.src,.string y.dst] 181)
      refine' ZC;refine(Hx _ net y.dst _ (je.out.on lj)).mono ?_;rw[IB.out];rintro e w6 ⟨rfl,b6⟩;have l6:=Aa lj b6;by_cases hq:q<0
      .refine' ZTG;exact⟨Al (ao.out (pR.out _ (hI.out H6.out))).symm,Aa lo l6⟩
      .refine' ZTH;go_roundw
       case rel=>exact⟨m+1,ZA,ZJ,l6,ZTI⟩
       case measure=>exact ZK
     .refine' ZTJ;go_roundw
      case rel=>
       refine⟨k+1,ZA,ZJ,Aa lo li,fun j hj=>?_⟩;refine' Ue
       .refine' iS;exact pR.out _ HA2.out
      case measure=>exact ZK
  .refine' Sg;have HN:Hid (Di net=true):=by show _=_;rw[AhY iQ,HL.out]
   refine' ZI;exact⟨Al HN.out.symm,lr⟩
theorem AkB{c p}(h:¬p.size<=c.size):pre c p=false:=by unfold pre;rw[aP h];rfl
theorem AaI{c p}(h:p.size<=c.size){b}(hb:zU (c.extract 0 p.size) p=b):pre c p=b:=by unfold pre;rw[aL h,hb];rfl
theorem AfY(c p w)(hc:c.size<=maxLen)(hp:p.size<=maxLen):
 ya 338 #[.string c,.string p] w (.bool (pre c p)):=by unfold maxLen at hc hp;go_enter func338,ntmps338;exact ZTM
theorem ZCY(c p w)(hc:c.size<=maxLen)(hp:p.size<=maxLen):
 ya 289 #[.string c,.string p] w (.bool (pre c p)):=by
 go_enter func289,ntmps289
 refine' ZC;refine(AfY c p _ hc hp).mono ?_;refine' ZZ;obtain⟨r,HR⟩:∃r,Hid (pre c p=r):=⟨_,rfl⟩;rw[HR.out]
 exact ZIP
theorem ZCo(c p w)(hc:c.size<=maxLen)(hp:p.size<=maxLen):
 ya 255 #[.string c,.string p] w (.bool (pre c p)):=by unfold maxLen at hc hp;go_enter func255,ntmps255;exact ZTM
theorem Ac8(v rs c w)(hv:R_ w v rs)(jw:c.size<=maxLen):
 C_ 362 #[v,.string c,.int .i64 (-1)] w (.int .i64 (Iv rs c)):=by
 refine' Ze;go_enter func362,ntmps362;go_wp2
 go_loopw[7,12] (fun t i wr=>∃k:Nat,k<=rs.length/\i=.int .i64 k/\t=.int .i64 (Ie rs c k)/\B_ w wr) (fun _ i _=>rs.length - (intOf i).toNat)
 case atStart=>exact Pr
 case round=>
  refine' ZTN;by_cases ab:k<rs.length
  .refine' ZTO;refine' ZJq;have z0:=Af ja 0 (.string x.src) rfl;refine' Sn;have na:=aA ja;clear ja;have FQ:((k:Int)== -1)=false:=ZF
   refine' ZC;rw[<-na.out];refine(ZCY c x.src _ jw ry).mono ?_;refine' zq;cases hp:pre c x.src
   .refine' Z6;refine' ZC;go_roundw
    case rel=>exact⟨k+1,ZA,ZJ,by rw[HM.out HP.out],lo⟩
    case measure=>exact ZK
   refine' Z6;by_cases bc:q<0
   .refine' ZTP;refine' z6;go_wp2
    go_roundw
    case rel=>exact⟨k+1,ZA,ZJ,ZTQ,Ba lo _⟩
    case measure=>exact ZK
   refine' ZTR;by_cases hs:y.src.size<x.src.size
   .have rS:(y.src.size:Int)<(x.src.size:Int):=ZA
    refine' Zf;refine' z6;go_wp2
    go_roundw
    case rel=>exact⟨k+1,ZA,ZJ,by rw[yS.out HS.out],Ba lo _⟩
    case measure=>exact ZK
   .refine' ZTS;refine' z6;go_wp2
    go_roundw
    case rel=>exact⟨k+1,ZA,ZJ,by rw[JC.out HS.out],Ba lo _⟩
    case measure=>exact ZK
  exact ZTT
theorem AfU{c p r w}(hc:c.size<=maxLen)(hp:p.size<=maxLen)(h:pre c p=r):ya 255 #[.string c,.string p] w (.bool r):=by rw[<-h];exact ZCo c p w hc hp
theorem Ao1(v rs c w)(hv:R_ w v rs)(jw:c.size<=maxLen):
 C_ 345 #[v,.string c] w (.int .i64 (Iv rs c)):=by
 refine' Ze;go_enter func345,ntmps345;go_wp2
 go_loopw[5,6] (fun t i wr=>∃k:Nat,k<=rs.length/\i=.int .i64 k/\t=.int .i64 (Ie rs c k)/\B_ w wr) (fun _ i _=>rs.length - (intOf i).toNat)
 case atStart=>exact Pr
 case round=>
  refine' ZTN;by_cases ab:k<rs.length
  .refine' ZTO;refine' ZGI;cases hp:pre c x.src
   .refine' Z6;have CB:=aA (fun w=>AfU (w:=w) jw ry HP.out);refine' ZGJ;go_roundw
    case rel=>exact⟨k+1,ZA,ZJ,by rw[HM.out HP.out],Ba lr _⟩
    case measure=>exact ZK
   refine' Z6;have CB:=aA (fun w=>AfU (w:=w) jw ry HP.out);by_cases bc:q<0
   .refine' ZTP;refine' ZGJ;go_roundw
    case rel=>exact⟨k+1,ZA,ZJ,ZTQ,Ba lr _⟩
    case measure=>exact ZK
   refine' ZTR;by_cases hs:y.src.size<x.src.size
   .have rS:(y.src.size:Int)<(x.src.size:Int):=ZA
    refine' Zf;refine' ZGJ;go_roundw
    case rel=>exact⟨k+1,ZA,ZJ,by rw[yS.out HS.out],Ba lr _⟩
    case measure=>exact ZK
   .refine' ZTS;refine' ZGJ;go_roundw
    case rel=>exact⟨k+1,ZA,ZJ,by rw[JC.out HS.out],Ba lr _⟩
    case measure=>exact ZK
  exact ZTT
theorem AqG(v rs c w)(hv:R_ w v rs)(jw:c.size<=maxLen):
 C_ 342 #[v,.string c] w (.tuple #[.string (Gw rs c),.bool (decide (0<=Iv rs c))]):=by
 refine' ZTU;rw[HQ.out];go_enter func342,ntmps342
 refine' ZC;refine(Ac8 _ rs c _ fg.out jw).mono ?_;rw[HQ.out];refine' ZU;by_cases bc:q<0
 .have HS:Hid (Gw rs c=⟨#[]⟩):=AgR (by rw[HQ.out];exact bc)
  have HD:Hid (decide (0<=q)=false):=aP ZA
  refine' ZQ;exact⟨Bf (by rw[HS.out,HD.out]<;>rfl),b1⟩
 .refine' ZTV;have HD:Hid (decide (0<=(u:Int))=true):=aL ZA;generalize rs[u]=y at *;refine' ZJz;refine' ZQ;exact⟨Bf (by rw[HS.out,HD.out]<;>rfl),b1⟩
theorem ApO(v rs c w)(hv:R_ w v rs)(jw:c.size<=maxLen):
 C_ 308 #[v,.string c] w (.string (Gw rs c)):=by
 refine' ZTU;go_enter func308,ntmps308
 refine' ZC;refine(Ao1 _ rs c _ fg.out jw).mono ?_;rw[HQ.out];refine' ZU;by_cases bc:q<0
 .have HS:Hid (Gw rs c=⟨#[]⟩):=AgR (by rw[HQ.out];exact bc)
  refine' ZI;exact⟨B8 HS.out.symm,b1⟩
 .refine' ZTV;generalize rs[u]=y at *;refine' ZJz;refine' ZI;exact⟨B8 HS.out.symm,b1⟩
def S8(p:List Nat):List Int:=p.map fun(n:Nat)=>(n:Int)
def Bw(net:List Ofc)(i:Nat):Y_:=((net[i]?).map Ofc.name).getD ⟨#[]⟩
theorem Kl{net i}(h:i<net.length):Bw net i=net[i].name:=by unfold Bw;rw[aR h];rfl
theorem AkZ(p)(i:Nat):S8 (p++[i])=S8 p++[(i:Int)]:=by simp[S8]
theorem Jm(p):(S8 p).length=p.length:=by simp[S8]
theorem AyX(p)(j:Nat):decide (0<=o_ (fun y:Int=>y==(j:Int)) (S8 p))=decide (j∈p):=by
 rw[ArO];by_cases h:j∈p
 .rw[aL h]
  simp only[fJ,List.all_eq_false];exact⟨(j:Int),List.mem_map.2 ⟨j,h,rfl⟩,ZF⟩
 .rw[aP h]
  simp only[Bool.not_eq_false',dU];intro y hy;obtain⟨n,hn,rfl⟩:=List.mem_map.1 hy;have:¬n=j:=fun e=>h (e▸hn)
  exact ZH
theorem BbY{cs c}:0<=y6 cs c↔c∈cs:=by
 by_cases h:rk cs c<cs.length
 .rw[ZDu h]
  have:=Ec.1 (I1 cs c h);refine⟨fun _=>?_,fun _=>ZA⟩;rw[<-this];exact aS _
 .rw[Ls h]
  refine⟨fun h=>ZA,fun hm=>?_⟩;obtain⟨k,hk,e⟩:=bP hm;have h1:=Ay1 cs c;have:=ZBe cs c k hk ZA;rw[e,Mq]at this;cases this
theorem Av5{net}(h:Di net=true){p:List Nat}{i}(hp:∀x∈p,x<net.length)(hi:i<net.length):decide (0<=y6 (p.map (Bw net)) (Bw net i))=decide (i∈p):=by refine decide_eq_decide.2 (BbY.trans ⟨fun hm=>?_,fun hm=>List.mem_map.2 ⟨i,hm,rfl⟩⟩);obtain⟨j,hj,e⟩:=List.mem_map.1 hm;rw[Kl (hp j hj),Kl hi]at e;exact Ak1 h (hp j hj) hi e▸hj
theorem Ao7{net c i}(hi:i<net.length)(h:Iv net[i].rules c<0):q_ net c i= -2:=by refine' ZJ0;dsimp only;rw[aQ h]
theorem ApK{net c i}(hi:i<net.length)(h:0<=Iv net[i].rules c)(h2:zU (Gw net[i].rules c) L8=true):q_ net c i= -1:=by refine' ZJ0;dsimp only;rw[aM ZA,aQ h2]
theorem AyW{net}(hk:Di net=true){c i}(hi:i<net.length)(h:0<=Iv net[i].rules c)(h2:zU (Gw net[i].rules c) L8=false):∃j:Nat,j<net.length/\q_ net c i=j/\Gq net (Gw net[i].rules c)=j/\Bw net j=Gw net[i].rules c:=by
 have e:q_ net c i=Gq net (Gw net[i].rules c):=by refine' ZJ0;dsimp only;rw[aM ZA,h2];rfl
 obtain⟨k,r8⟩:=aK h;have hr:=(Hm net[i].rules c net[i].rules.length).2;have gj:Ie net[i].rules c net[i].rules.length=k:=r8;have gq:k<net[i].rules.length:=ZA
 have hn:Gw net[i].rules c=(net[i].rules[k]).dst:=Rx r8 gq;have ho:=((D1.1 hk).2 i hi).2.2.2.2 (net[i].rules[k]) (aS _);rw[<-hn]at ho;rcases ho with ho|ho
 .exact absurd ho (F6.1 h2)
 .refine' ZTW;exact⟨j,vp,by rw[e,hj],hj,by rw[Kl vp,JM]⟩
theorem Ao5{rs}(h:C7 rs=true)(c):zU (Gw rs c) ⟨#[]⟩=decide (Iv rs c<0):=by
 by_cases hb:Iv rs c<0
 .rw[aL hb,AgR hb];exact Mq _
 .rw[aP hb]
  obtain⟨k,r8⟩:=aK (Int.not_lt.1 hb);have hr:=(Hm rs c rs.length).2;have gj:Ie rs c rs.length=k:=r8;have gq:k<rs.length:=ZA
  rw[Rx r8 gq];have:=(Kb.1 ((Ev.1 h).2 k gq).2.1).2.1;refine F6.2 fun e=>?_
  rw[e]at this;exact absurd this ZE
theorem AoH{rs}(h:C7 rs=true)(c):(Gw rs c).size<=8:=ArN fun x hx=>by refine' eY;exact(Kb.1 ((Ev.1 h).2 k hk).2.1).2.2
theorem Ad5{net c f p i}(h:i∈p):Fc net c (f+1) p i=(p++[i],2):=by unfold Fc;rw[aQ h]
theorem Af1{net c f p i}(h:¬i∈p)(h1:q_ net c i= -2):Fc net c (f+1) p i=(p++[i],1):=by unfold Fc;rw[aM h,aQ h1]
theorem AeW{net c f p i}(h:¬i∈p)(h1:q_ net c i= -1):Fc net c (f+1) p i=(p++[i],0):=by unfold Fc;rw[aM h,aM ZA,aQ h1]
theorem AoN{net c f p}{i j:Nat}(h:¬i∈p)(h1:q_ net c i=j):Fc net c (f+1) p i=Fc net c f (p++[i]) j:=by rw[Fc,aM h,aM ZA,aM ZA,h1,bE]
def E_:Value->Nat
 |.slice _ n _=>n
 |_=>0
theorem AiP(v xs c w)(hv:R_ w v xs):
 ya 363 #[v,.int .i64 c] w (.int .i64 (o_ (fun y:Int=>y==c) xs)):=by
 refine' h_;refine' fS;refine' zk;go_enter func363,ntmps363;go_wp2
 go_loop[8] (fun i=>∃k:Nat,k<=xs.length/\i=.int .i64 k/\Hid (∀j (h:j<xs.length),j<k->(xs[j]==c)=false)) (fun i=>xs.length - (intOf i).toNat)
 case atStart=>exact Yc
 case round=>
  refine' YH;by_cases ab:k<xs.length
  .obtain⟨b,o,rfl,hb,ag,c1⟩:=HR.out.intU k ab
   have HX:Hid (∀h:(xs[k]==c)=false,∀j (h1:j<xs.length),j<k+1->(xs[j]==c)=false):=fun h j h1 hj=>Yb
   have HY:Hid (∀h:(xs[k]==c)=true,o_ (fun y:Int=>y==c) xs=k):=fun h=>Sk ab (fun j hj dx=>HG.out j hj dx) h
   refine' zu;cases he:(x==c)
   .refine' zf;have he2:(c==x)=false:=by{rw[Bd3]at he⊢;exact fun e=>he e.symm};go_wp2
    exact Ws
   .refine' zf;have he2:(c==x)=true:=by{rw[dI]at he⊢;exact he.symm};exact Uf
  .have HE:Hid (o_ (fun y:Int=>y==c) xs= -1):=Pk fun j hj=>HG.out j hj ZA
   exact ZFO
theorem Ab8(v xs c w)(hv:R_ w v xs):
 ya 343 #[v,.int .i64 c] w (.bool (decide (0<=o_ (fun y:Int=>y==c) xs))):=by
 go_enter func343,ntmps343
 refine' ZC;refine(AiP v xs c w hv).mono ?_;refine' ZZ;obtain⟨r,HR⟩:∃r,Hid (o_ (fun y:Int=>y==c) xs=r):=⟨_,rfl⟩;rw[HR.out]
 refine' ZI;exact⟨Al (by rw[HR.out]),rfl⟩
theorem AnT{T base g n c:Nat}{w xs}(h:own T base w (.slice (P_ g) n c) xs)(k)(hk:k<xs.length):∀W,B_ w W->W.cell? ⟨g,k,none⟩=some (.int .i64 xs[k]):=by
 refine' Rj;obtain⟨b,o,hA,_,_,c1⟩:=nU.intU k hk;refine' V0;intro W hW;have:=c1 W hW
 rwa [bV]at this
theorem ZCd(v net s c w)(hv:R_ w v net)(hk:Di net=true)(hs:s<net.length)(jw:c.size<=maxLen):
 Calls Tryz.prog 300 #[v,.int .i64 s,.string c] w fun e w'=>∃v',e=.returned (.tuple #[v',.int .i64 (Ht net c s).2])/\own 3 w.heap.size w' v' (S8 (Ht net c s).1)/\B_ w w':=by
 refine' ZTX;refine' ZGA;go_enter func300,ntmps300;go_wp2;have iy:own (α:=Int) 3 w.heap.size (w.alloc (aB #[.int .i64 s] 3)) (.slice (P_ w.heap.size) 1 1) (S8 ([]++[s])):=own.made1 (α:=Int) w 3 [.int .i64 s] (s:Int) ⟨⟨ZA,ZA⟩,rfl⟩ (aC _);have mH:=aA iy;have l1:B_ w (w.alloc (aB #[.int .i64 s] 3)):=Ae l0 _;go_loopw[8] (fun t wr=>∃(p:List Nat) (i f g cap n:Nat),t=.slice (P_ g) n cap/\n=p.length+1/\own 3 w.heap.size wr t (S8 (p++[i]))/\Hid (Uj net (f+1) p i)/\Hid (¬i∈p)/\B_ w wr/\Hid (Ht net c s=Fc net c (f+1) p i)) (fun t _=>net.length+2 - E_ t)
 case atStart=>exact⟨[],s,net.length,w.heap.size,1,1,rfl,rfl,mH.out,Ml hs,by simp[Hid],l1,rfl⟩
 case round=>
  obtain⟨p,i,f,g,cap,n,rfl,rfl,ho,ou,AQ,lr,HG⟩:=hrel;refine' ZTY;obtain⟨b,o,A2,k2,rfl,hb,ag,hu,y1,y2⟩:=HR.out.ofcU i pD;have x1:=AnT ho p.length (by rw[Jm];simp);have ke:(S8 (p++[i]))[p.length]'(by rw[Jm];simp)=(i:Int):=by simp[S8]
  rw[ke]at x1;refine' ZTZ;refine' ZTa;rw[hN]at HL HH dj;rw[hS]at HH dj BK;have tr:=aA hN;have ef:=aA hS;have lw:=aF w1.heap.size w1
  refine' ZC;refine(AqG _ x.rules c _ (HU.out.on lr) jw).mono ?_;rw[tr.out,ef.out];refine' zK;have l2:=Aa lr b2;have im:=aA (HO.out.below b2);by_cases bc:N<0
  .have HD:Hid (decide (0<=N)=false):=aP ZA
   have HE:Hid (Ht net c s=(p++[i],1)):=ZTb
   rw[HD.out]
   exact ZTc
  have HD:Hid (decide (0<=N)=true):=aL ZA;rw[HD.out];cases lQ:zU S L8
  case true=> refine' ZTd;exact ZTc
  obtain⟨j,hj,e1,e2,_⟩:=dj.out ZA lQ;refine' ZTe;have yT:=aA e2;refine' ZC;refine(Hx _ net S _ (fg.out.on l2)).mono ?_;rw[yT.out];refine' zB;refine' YG;have ez:=aA (im.out.below b3)
  refine' ZC;refine(Ab8 _ (S8 (p++[i])) j _ ez.out.rd).mono ?_;rw[AyX];refine' fO;have mQ:=l3.size;obtain⟨f',CV⟩:=AgF xj.out;subst CV;cases hq:decide (j∈p++[i])
  .have HQ':=aA (iD hq)
   refine' ZTf;go_roundw
   case rel=>exact⟨p++[i],j,f',g5,tL,(S8 (p++[i])).length+1,rfl,by rw[AT];simp,iu.out,xj.out,HQ'.out,l5,HE.out⟩
   case measure=>simp[E_,AT];omega
  .have JD:Hid (Ht net c s=(p++[i]++[j],2)):=by show _=_;rw[HE.out,Ad5 (ZAf hq)]
   refine' ZTf;go_ret2;exact⟨_,Bf (by rw[JD.out]<;>rfl),by rw[JD.out];exact ZJ1,l5⟩
theorem AyY(s):zU s ⟨#[]⟩=s.toList.isEmpty:=by unfold zU;rw[bU ⟨#[]⟩];generalize s.toList=l;cases l<;>rfl
theorem AcX(v net s nm c w)(hv:R_ w v net)(hk:Di net=true)(hs:s<net.length)(pF:Bw net s=nm)(jw:c.size<=maxLen):
 Calls Tryz.prog 261 #[v,.string nm,.string c] w fun e w'=>∃v',e=.returned (.tuple #[v',.int .i64 (Ht net c s).2])/\own 9 w.heap.size w' v' ((Ht net c s).1.map (Bw net))/\B_ w w':=by
 refine' ZTX;refine' zc;go_enter func261,ntmps261;go_wp2;have iy:own (α:=Y_) 9 w.heap.size (w.alloc (aB #[] 9)) (.slice (P_ w.heap.size) 0 0) (([]:List Nat).map (Bw net)):=own.made0 w _ (aC _);have mH:=aA iy;have l1:B_ w (w.alloc (aB #[] 9)):=Ae l0 _;go_loopw[8,9] (fun t u wr=>∃(p:List Nat) (i f g cap n:Nat) (d:Y_),t=.slice (P_ g) n cap/\n=p.length/\u=.string d/\Hid (Bw net i=d)/\own 9 w.heap.size wr t (p.map (Bw net))/\Hid (Uj net (f+1) p i)/\B_ w wr/\Hid (Ht net c s=Fc net c (f+1) p i)) (fun t _ _=>net.length+2 - E_ t)
 case atStart=>exact⟨[],s,net.length,w.heap.size,0,0,nm,rfl,rfl,rfl,pF,mH.out,Ml hs,l1,rfl⟩
 case round=>
  obtain⟨p,i,f,g,cap,n,d,rfl,rfl,rfl,HD,ho,ou,lr,HG⟩:=hrel;refine' ZTY;have AU:=aA (Av5 HK.out ou.out.2.1 pD);rw[HD.out]at AU;have HOF:=aA (AuD HK.out pD);rw[<-Kl pD,HD.out]at HOF;obtain⟨b,o,A2,k2,rfl,hb,ag,hu,y1,y2⟩:=HR.out.ofcU i pD;have tI:d.size<=maxLen:=by rw[<-HD.out,Kl pD];exact ag
  refine' ZTZ;have AZ:=aA (Ao5 ux.out c);refine' ZTa;rw[hN]at HL HH dj AZ;rw[hS]at HH dj BK AZ;have ef:=aA hS;obtain⟨r,hr⟩:∃r,y6 (p.map (Bw net)) d=r:=⟨_,rfl⟩;rw[hr]at AU;have ak:=aA hr;have ie:=lr.size
  refine' ZC;refine(Lw _ (p.map (Bw net)) d _ HO.out.rd).mono ?_;rw[ak.out];refine' zq;by_cases fi:0<=r
  .have pT:decide (i∈p)=true:=by rw[<-AU.out];exact aL fi
   have rj:=aA (ZAf pT);have HE:Hid (Ht net c s=(p++[i],2)):=by{show _=_;rw[HG.out,Ad5 rj.out]};go_wp2_with (at_builtin;refine An (α:=Y_) rfl (.tmp 17) (.tmp 19) 28 rfl w.heap.size 9 i0 _ 16 aW hi ah ar ap rfl ZE (.slice (P_ g) p.length cap) (p.map (Bw net)) d rfl (HO.out.alloc _) ⟨w1.heap.size,0,none⟩ 1 [.string d] rfl ⟨tI,rfl⟩ (Bz w1 _ [.string d]) (by refine' ze;exact ZN) U8 ZH ?_;refine' ZGH)
   refine' ZTg;refine' Xz;go_ret2;refine⟨_,Bf ZGK,?_,l5⟩;rw[HE.out];have h:=iu.out;rw[<-HD.out]at h;exact zI
  have pT:decide (i∈p)=false:=by rw[<-AU.out];exact aP fi
  have AQ:=aA (iD pT)
  go_wp2_with (at_builtin;refine An (α:=Y_) rfl (.tmp 21) (.tmp 23) 28 rfl w.heap.size 9 i0 _ 16 aW hi ah ar ap rfl ZE (.slice (P_ g) p.length cap) (p.map (Bw net)) d rfl (HO.out.alloc _) ⟨w1.heap.size,0,none⟩ 1 [.string d] rfl ⟨tI,rfl⟩ (Bz w1 _ [.string d]) (by refine' ze;exact ZN) U8 ZH ?_;refine' ZGH)
  refine' ZTg;have AT:(p.map (Bw net)).length=p.length:=ZTh
  have lG:(p++[i]).map (Bw net)=p.map (Bw net)++[d]:=by rw[cG,List.map_singleton,HD.out]
  rw[<-lG]at cg;refine' Xz;refine(H7 _ net d _ (fg.out.on l5)).mono ?_;rw[HOF.out];rintro e w6 ⟨rfl,rfl⟩
  refine' ZC;refine(ApO _ x.rules c _ (HU.out.on l5) jw).mono ?_;rw[ef.out];rintro e w6 ⟨rfl,b6⟩;replace iu:=aA (iu.out.below b6);replace l5:=Aa l5 b6;by_cases bc:N<0
  .have HE:Hid (Ht net c s=(p++[i],1)):=ZTb
   have he:zU S ⟨#[]⟩=true:=by{rw[AZ.out];exact aL bc};rw[AyY]at he;exact ZTi
  have he:zU S ⟨#[]⟩=false:=by rw[AZ.out];exact aP bc
  rw[AyY]at he;cases lQ:zU S L8
  case true=> refine' ZTd;exact ZTi
  obtain⟨j,hj,e1,e2,e3⟩:=dj.out ZA lQ;refine' ZTe;have HE3:=aA e3;obtain⟨f',CV⟩:=AgF xj.out;subst CV;go_wp2
  go_roundw
  case rel=>exact⟨p++[i],j,f',g5,tL,p.length+1,S,rfl,ZF,rfl,HE3.out,ZJ1,xj.out,l5,HE.out⟩
  case measure=>simp[E_,AT];omega
theorem Tryz.infoRul:(Tryz.prog.info? 181).map (fun i=>(i.zero,i.size,i.bytes))=some (some (.agg #[.string ⟨#[]⟩,.string ⟨#[]⟩]),2,32):=ZB
theorem Tryz.infoOfc:(Tryz.prog.info? 45).map (fun i=>(i.zero,i.size,i.bytes))=some (some (.agg #[.string ⟨#[]⟩,.slice none 0 0]),2,40):=ZB
def BcT:Y_:=⟨#[48,48,48,48,48,48,48]⟩
def Hu(p:Y_):Y_:=p++BcT.extract p.size 7
def Iz(p:Y_)(r:Fwd):Bool:=decide (p.size<r.src.size)&&pre r.src p
def Pi(p:Y_)(o:Ofc):Bool:=o.rules.any (Iz p)
def Nl(net:List Ofc)(p:Y_):Bool:=net.any (Pi p)
def xx(d:Nat):Y_:=⟨#[UInt8.ofNat (48+d)]⟩
def k_(p:Y_)(d:Nat):Y_:=p++xx d
theorem AhN(p d):(k_ p d).size=p.size+1:=by unfold k_;refine' zo;rfl
def Rl(p:Y_):List Y_->Bool
 |[q]=>zU q p
 |_=>false
theorem AkL{p l}(h:l.length≠1):Rl p l=false:=by
 match l,h with
 |[],_=>rfl
 |[_],h=>exact absurd rfl h
 |_::_::_,_=>rfl
theorem AvK{p:Y_}{l:List Y_}(h:l.length=1):Rl p l=zU (l[0]' ZA) p:=by
 match l,h with
 |[q],_=>rfl
mutual
def Dt(net:List Ofc)(i:Nat):Nat->Y_->List Y_
 |0,_=>[]
 |f+1,p=>if Nl net p=true then(if((List.range 10).all fun d=>Rl (k_ p d) (Dt net i f (k_ p d)))=true then [p]else((List.range 10).map fun d=>Dt net i f (k_ p d)).flatten)else if(Ht net (Hu p) i).2=0 then []else [p]
end
def jH(net:List Ofc)(i f:Nat)(p:Y_)(k:Nat):List Y_:=((List.range k).map fun d=>Dt net i f (k_ p d)).flatten
def Xb(net:List Ofc)(i f:Nat)(p:Y_)(k:Nat):Nat:=(List.range k).countP fun d=>Rl (k_ p d) (Dt net i f (k_ p d))
def jM(net:List Ofc)(i f:Nat)(p:Y_)(k:Nat):Bool:=(List.range k).all fun d=>Rl (k_ p d) (Dt net i f (k_ p d))
theorem ZAY{net i f p}(h:Nl net p=true):Dt net i (f+1) p=if jM net i f p 10=true then [p]else jH net i f p 10:=by rw[Dt,aQ h];rfl
theorem Qh{net i f p}(h:Nl net p=false)(h2:(Ht net (Hu p) i).2=0):Dt net i (f+1) p=[]:=by rw[Dt,aM (by rw[h];simp),aQ h2]
theorem ZAo{net i f p}(h:Nl net p=false)(h2:(Ht net (Hu p) i).2≠0):Dt net i (f+1) p=[p]:=by rw[Dt,aM (by rw[h];simp),aM h2]
theorem ZBE(net i f p k):jH net i f p (k+1)=jH net i f p k++Dt net i f (k_ p k):=by unfold jH;rw[fN,cG,bX];simp
theorem AjV(net i f p k):Xb net i f p (k+1)=Xb net i f p k+(if Rl (k_ p k) (Dt net i f (k_ p k))=true then 1 else 0):=by unfold Xb;rw[fN,List.countP_append];simp[List.countP_cons]
theorem AkU(net i f p k):jM net i f p (k+1)=(jM net i f p k&&Rl (k_ p k) (Dt net i f (k_ p k))):=by unfold jM;rw[fN,eH];simp
theorem Af4(net i f p):∀k,Xb net i f p k<=k/\(jM net i f p k=true↔Xb net i f p k=k)
 |0=>by simp[Xb,jM]
 |k+1=>by
  have ih:=Af4 net i f p k;rw[AjV,AkU,aO];by_cases h:Rl (k_ p k) (Dt net i f (k_ p k))=true
  .rw[aQ h]
   refine⟨ZA,⟨fun⟨h1,_⟩=>by have:=ih.2.1 h1;omega,fun h1=>⟨ih.2.2 ZA,h⟩⟩⟩
  .rw[aM h]
   refine⟨ZA,⟨fun⟨_,h2⟩=>absurd h2 h,fun h1=>ZA⟩⟩
theorem BcY(f):10^(f+1)=10*10^f:=by rw[Nat.pow_succ];omega
theorem O0(net i):∀(f:Nat) (p:Y_),(Dt net i f p).length<=10^f
 |0,p=>by simp[Dt]
 |f+1,p=>by
  have ih:=O0 net i f;have hp:1<=10^f:=Nat.one_le_pow _ _ ZA;have hc:∀k,(jH net i f p k).length<=k*10^f:=fun k=>by
   induction k with
   |zero=>simp[jH]
   |succ k ihk=> rw[ZBE,aT,eW,iT];have:=ih (k_ p k);omega
  have h10:=hc 10;rw[BcY];cases hl:Nl net p
  .by_cases h2:(Ht net (Hu p) i).2=0
   .rw[Qh hl h2];simp
   .rw[ZAo hl h2];exact ZH
  .rw[ZAY hl]
   split
   .exact ZH
   .exact h10
theorem AgY(net i f p):∀k,(jH net i f p k).length<=k*10^f
 |0=>by simp[jH]
 |k+1=>by have:=AgY net i f p k;have h2:=O0 net i f (k_ p k);rw[ZBE,aT,eW,iT];omega
theorem AaQ(net i):∀(f:Nat) (p q:Y_),q∈Dt net i f p->q.size<=p.size+f
 |0,p,q,h=>by simp[Dt]at h
 |f+1,p,q,h=>by
  have ih:=AaQ net i f;cases hl:Nl net p
  .by_cases h2:(Ht net (Hu p) i).2=0
   .rw[Qh hl h2]at h;simp at h
   .rw[ZAo hl h2]at h;simp at h;subst h;omega
  .rw[ZAY hl]at h
   split at h
   .simp at h;subst h;omega
   .unfold jH at h
    obtain⟨l,hl,hq⟩:=List.mem_flatten.1 h;obtain⟨d,_,rfl⟩:=List.mem_map.1 hl;have:=ih _ _ hq;rw[AhN]at this;omega
theorem Ak2{net}(hk:Di net=true){p}(h:Nl net p=true):p.size<=6:=by unfold Nl at h;obtain⟨o,ho,h⟩:=List.any_eq_true.1 h;obtain⟨k,gq,rfl⟩:=bP ho;unfold Pi at h;obtain⟨r,hr,h⟩:=List.any_eq_true.1 h;obtain⟨m,ru,rfl⟩:=bP hr;have h1:=((D1.1 hk).2 k gq).2.2.2.1;have h2:=(AbX.1 ((Ev.1 h1).2 m ru).1).2;unfold Iz at h;rw[aO,bD]at h;omega
theorem AoA(p):∃z,(Hu p).data.toList=p.data.toList++z:=⟨_,by unfold Hu;rw[ByteArray.data_append,Array.toList_append]⟩
theorem AvT{p s}(h:(decide (p.size<s.size)&&pre s p)=false):pre (Hu p) s=pre p s:=by
 obtain⟨z,hz⟩:=AoA p;rw[jE,AlZ,AlZ,hz];refine' ZSf;constructor
 .intro h1
  by_cases ab:p.size<s.size
  .have h2:p.data.toList<+:s.data.toList:=List.prefix_of_prefix_length_le (List.prefix_append _ z) h1 (by rw[hl,hl];omega)
   rw[aL ab,AlZ.2 h2]at h;cases h
  .exact List.prefix_of_prefix_length_le h1 (List.prefix_append _ z) (by rw[hl,hl];omega)
 .intro h1
  exact h1.trans (List.prefix_append _ z)
theorem AhD{rs p}(h:rs.any (Iz p)=false):∀k,Ie rs (Hu p) k=Ie rs p k
 |0=>rfl
 |k+1=>by
  show J0 _ _ _ _=J0 _ _ _ _;rw[AhD h k];unfold J0;cases hx:rs[k]? with
  |none=>rfl
  |some x=>
   have hm:=List.mem_of_getElem? hx;have h1:Iz p x=false:=by{simpa using List.any_eq_false.1 h x hm};dsimp only
   rw[AvT h1]
theorem ArS{rs p}(h:rs.any (Iz p)=false):Iv rs (Hu p)=Iv rs p/\Gw rs (Hu p)=Gw rs p:=by have h1:Iv rs (Hu p)=Iv rs p:=AhD h _;refine⟨h1,?_⟩;unfold Gw;rw[h1]
theorem AvB{net p}(h:Nl net p=false)(i):q_ net (Hu p) i=q_ net p i:=by
 unfold q_;cases hx:net[i]? with
 |none=>rfl
 |some o=>
  have hm:=List.mem_of_getElem? hx;have h1:o.rules.any (Iz p)=false:=by have:=List.any_eq_false.1 h o hm;simpa [Pi]using this
  obtain⟨e1,e2⟩:=ArS h1
  dsimp only
  rw[e1,e2]
theorem AaJ{net p}(h:Nl net p=false):∀(f:Nat) (q:List Nat) (i:Nat),Fc net (Hu p) f q i=Fc net p f q i
 |0,_,_=>rfl
 |f+1,q,i=>by rw[Fc,Fc,AvB h,AaJ h f]
theorem AnM{net p}(h:Nl net p=false)(i):Ht net (Hu p) i=Ht net p i:=AaJ h _ _ _
def n_(net:List Ofc)(s:Y_):List Y_:=if(Di net&&decide (0<=Gq net s))=true then Dt net (Gq net s).toNat 8 ⟨#[]⟩else []
theorem AsS(net s):(n_ net s).length<=100000000:=by
 unfold n_
 split
 .exact O0 net _ 8 _
 .simp
theorem Tryz.infoByte:(Tryz.prog.info? 5).map (fun i=>(i.zero,i.size,i.bytes))=some (some (.int .u8 0),1,1):=ZB
theorem Ba3(d)(h:d<10):Cl d=xx d:=by
 apply Cv;show Pg d=[UInt8.ofNat (48+d)];unfold Pg;by_cases h0:d=0
 .subst h0;rfl
 .rw[aM h0,Nr ZA ZA]
  unfold b8;rw[show(48+(d:Int)).toNat=48+d by omega]
theorem An8(W g n)(h:W.cell? ⟨g,0,none⟩=some (.int .u8 n)):(convert 24 9 (.slice (P_ g) 1 1)).run Tryz.prog W=.ok (.string ⟨#[b8 n]⟩) W:=by
 refine' ZPE;rw[run_bytesToString _ _ _ _ [n] (by
  refine run_loadCells_list _ _ [aH .u8 n] fun j v hj=>?_
  match j,hj with
  |0,hj=> simp at hj;subst hj;rw[Ii];exact h
  |j+1,hj=>simp at hj)]
 rfl
theorem AmE(d:Nat)(w)(hd:d<10):
 C_ 294 #[.int .i64 d,.int .i64 1] w (.string (xx d)):=by
 refine' ZIl;have fo:=Ed (P:=Tryz.prog) 24 5 i0 _ dG hi ah 1 zi ZA;rw[show((1:Nat):Int)=1 from rfl]at fo;have qq:bF #[aH .u8 0] 1=#[.int .u8 0]:=by apply Array.ext<;>simp[bF]
 have hdm:(d:Int)%10=d:=ZA
 refine' ZFM;go_enter func294,ntmps294;go_wp2;obtain⟨wz,mh⟩:∃u,u=w.alloc (aB #[.int .u8 0] 5):=⟨_,rfl⟩;have hg:wz.heap[w.heap.size]? =some (.cells #[.int .u8 0] 5 (0,0)):=by subst mh;exact X1
 refine' ZIm;clear mh fo;have hc:=Dv hg 0 _ rfl;have hf:=Nx hg 0
 go_loopw[0,6] (fun t i wr=>i=.int .i64 0/\t=.int .i64 d/\wr=wz\/i=.int .i64 (-1)/\t=.int .i64 (d/10:Nat)/\wr=wz.setCell ⟨w.heap.size,0,none⟩ (.int .u8 (48+d))) (fun _ i _=>(intOf i+1).toNat)
 case atStart=>exact .inl ⟨rfl,rfl,rfl⟩
 case round=>
  rcases hrel with⟨rfl,rfl,rfl⟩|⟨rfl,rfl,rfl⟩
  .go_wp2
   go_roundw
   case rel=>exact .inr ⟨ZJ,ZJ,trivial⟩
   case measure=>simp[intOf]
  .have jl:=Mu hg 0 (.int .u8 (48+(d:Int)))
   have l2:=Ai lz (p:=⟨w.heap.size,0,none⟩) (aC _) (.int .u8 (48+(d:Int)));generalize wz.setCell ⟨w.heap.size,0,none⟩ (.int .u8 (48+(d:Int)))=w2 at *;have kG:=Dv jl 0 _ rfl;have yA:=An8 w2 w.heap.size _ kG;refine' ZO;refine⟨B8 ?_,l2⟩;unfold xx b8;rw[show(48+(d:Int)).toNat=48+d by omega]
def E8(w:World)(g:Nat)(l:List UInt8):Prop:=w.heap[g]? =some (.cells (l.map fun b=>aH .u8 b.toNat).toArray 5 (0,0))
theorem E8.cell{w g l}(h:E8 w g l)(i)(hi:i<l.length):w.cell? ⟨g,i,none⟩=some (.int .u8 (l[i].toNat:Int)):=
 Dv h i _ (by simp[hi])
theorem E8.free{w g l}(h:E8 w g l)(i):w.frozen? ⟨g,i,none⟩=false:=Nx h i
theorem E8.set{w g l}(h:E8 w g l)(i b):E8 (w.setCell ⟨g,i,none⟩ (.int .u8 (b.toNat:Int))) g (l.set i b):=by have h1:=Mu h i (.int .u8 (b.toNat:Int));unfold E8;rw[h1,List.map_set];simp
theorem E8.str{w g c m l}(h:E8 w g l)(hm:m<=l.length):(convert 24 9 (.slice (P_ g) m c)).run Tryz.prog w=.ok (.string ⟨(l.take m).toArray⟩) w:=by
 have h1:=run_convert_bytes_back (P:=Tryz.prog) w 24 9 5 ⟨g,0,none⟩ c (l.take m) dG ZAq ZBl (fun j hj=>by
  have ul:j<l.length:=by rw[bJ]at hj;omega
  rw[ZBs];have:=h.cell j ul;rw[Ii];exact zV)
 have hl:(l.take m).length=m:=zF
 rw[hl]at h1;exact h1
theorem AbE(k):bF #[aH .u8 0] k=((List.replicate k (0:UInt8)).map fun b=>aH .u8 (b.toNat:Int)).toArray:=by
 apply Array.ext
 .simp[bF]
 .intro i h1 h2
  simp[bF];rw[Nat.mod_one];rfl
theorem ZAx{n}(h0:0<=n)(h1:n<=255):((b8 n).toNat:Int)=n:=by unfold b8;rw[iC];omega
theorem ZCW(n k:Nat)(w)(hn:n<=9223372036854775807)(hk:k<=20):
 C_ 294 #[.int .i64 n,.int .i64 k] w (.string (Iy n k)):=by
 refine' ZIl;have fo:=Ed (P:=Tryz.prog) 24 5 i0 _ dG hi ah k zi ZA;go_enter func294,ntmps294
 refine' ZC;obtain⟨wz,mh⟩:∃u,u=w.alloc (aB (bF #[.int .u8 0] k) 5):=⟨_,rfl⟩;have hg:E8 wz w.heap.size (List.replicate k 0):=ZQC
 refine' ZIm;have HG:=aA hg;clear mh fo hg
 go_loopw[0,6] (fun t i wr=>∃(m j:Nat) (z:Int) (u:List UInt8),m<=n/\j<=k/\z+1=(j:Int)/\t=.int .i64 m/\i=.int .i64 z/\Hid (Gm n k=Gm m j++u)/\Hid (E8 wr w.heap.size (List.replicate j 0++u))/\Hid (u.length+j=k)/\B_ w wr) (fun _ i _=>(intOf i+1).toNat)
 case atStart=>exact⟨n,k,(k:Int) - 1,[],aC _,aC _,ZA,rfl,rfl,Rm,by show E8 _ _ _;rw[eI];exact HG.out,Rm,lz⟩
 case round=>
  obtain⟨m,j,z,u,hm,hj,hz,rfl,rfl,HD,HR,HU,av⟩:=hrel;refine' YB;by_cases SV:j=0
  .obtain rfl:z= -1:=ZA
   have HJ:=aA SV;clear hz SV;have tc:k<=(List.replicate j (0:UInt8)++u).length:=by{rw[aT,ZBa];have:=HU.out;omega};have HS:Hid ((List.replicate j (0:UInt8)++u).take k=Gm n k):=by{show _=_;have h1:=HD.out;have h2:=HU.out;have h3:=HJ.out;subst h3;rw[h1,List.replicate_zero,bT,Gm,bT,bB ZA]};have yA:=HR.out.str (c:=k) tc;rw[HS.out]at yA
   refine' ZI;exact⟨rfl,av⟩
  .obtain⟨j',rfl⟩:∃j',j=j'+1:=⟨j - 1,ZA⟩
   obtain rfl:z=(j':Int):=ZA
   clear hz SV;have EK:IntKind.wrap .u8 (48+(m:Int)%10)=48+(m:Int)%10:=Uo
   have bp:j'<(List.replicate (j'+1) (0:UInt8)++u).length:=by{rw[aT,ZBa];omega};have hc:=HR.out.cell j' bp;have hf:=HR.out.free j';have pM:Hid (E8 (w1.setCell ⟨w.heap.size,j',none⟩ (.int .u8 (48+(m:Int)%10))) w.heap.size (List.replicate j' 0++(b8 (48+(m:Int)%10)::u))):=by
    show E8 _ _ _;have h1:=HR.out.set j' (b8 (48+(m:Int)%10));refine' ZFH;have h2:(List.replicate (j'+1) (0:UInt8)++u).set j' (b8 (48+(m:Int)%10))=List.replicate j' 0++(b8 (48+(m:Int)%10)::u):=by{rw[List.replicate_succ',cZ,List.set_append_right _ _ (by rw[ZBa];exact iE),ZBa,Nat.sub_self];rfl};rwa [h2]at h1
   have kC:Hid (Gm n k=Gm (m/10) j'++(b8 (48+(m:Int)%10)::u)):=by{show _=_;rw[HD.out,Gm];simp};have yy:Hid ((b8 (48+(m:Int)%10)::u).length+j'=k):=by{show _=_;have:=HU.out;exact ZH};have dx:(j':Int)<(k:Int):=ZA
   have SV:(0:Int)<=(j':Int):=ZA
   generalize(List.replicate (j'+1) (0:UInt8)++u)[j']=WE at *;clear HD HU
   refine' ZC;go_roundw
   case rel=>exact⟨m/10,j',(j':Int) - 1,_,ZA,ZA,ZA,ZJ,rfl,kC.out,pM.out,yy.out,Ai av (p:=⟨w.heap.size,j',none⟩) (aC _) _⟩
   case measure=>simp[intOf]
structure Plc where
 area:Int
 walk:Int
 point:Int
def Jk(p:Plc):Bool:=(decide (0<=p.area)&&decide (p.area<=999))&&((decide (0<=p.walk)&&decide (p.walk<=99))&&(decide (0<=p.point)&&decide (p.point<=99)))
theorem Ap1{p}:Jk p=true↔(0<=p.area/\p.area<=999)/\(0<=p.walk/\p.walk<=99)/\(0<=p.point/\p.point<=99):=by unfold Jk;exact ZNs
theorem ZAa{p}(h:¬((0<=p.area/\p.area<=999)/\(0<=p.walk/\p.walk<=99)/\(0<=p.point/\p.point<=99))):Jk p=false:=by
 cases hq:Jk p
 .rfl
 .exact absurd (Ap1.1 hq) h
def Hf(p:Plc):Y_:=Iy p.area.toNat 3++Iy p.walk.toNat 2++Iy p.point.toNat 2
def Pm(p:Plc):Y_:=Iy p.area.toNat 3++⟨#[45]⟩++Iy p.walk.toNat 2++⟨#[45]⟩++Iy p.point.toNat 2
theorem Ae8(p w):
 C_ 293 #[.agg #[.int .i64 p.area,.int .i64 p.walk,.int .i64 p.point]] w (.bool (Jk p)):=by
 refine' ZQD;go_enter func293,ntmps293;by_cases h1:0<=p.area
 case neg=> exact Ul
 by_cases h2:p.area<=999
 case neg=> exact Ul
 by_cases h3:0<=p.walk
 case neg=> exact Ul
 by_cases h4:p.walk<=99
 case neg=> exact Ul
 by_cases h5:0<=p.point
 case neg=> exact Ul
 by_cases h6:p.point<=99
 case neg=> exact Ul
 have HT:Hid (Jk p=true):=by show _=_;rw[Ap1];exact⟨⟨h1,h2⟩,⟨h3,h4⟩,⟨h5,h6⟩⟩
 refine' ZI;exact⟨Al HT.out.symm,HB.out⟩
theorem AdQ(p w)(hp:Jk p=true):
 C_ 237 #[.agg #[.int .i64 p.area,.int .i64 p.walk,.int .i64 p.point]] w (.tuple #[.string (Hf p),.bool true]):=by
 refine' ZQE;have HA:Hid (∀W:World,C_ 294 #[.int .i64 (a:Int),.int .i64 3] W (.string (Iy a 3))):=fun W=>ZCW a 3 W ZA ZA
 have HB:Hid (∀W:World,C_ 294 #[.int .i64 (b:Int),.int .i64 2] W (.string (Iy b 2))):=fun W=>ZCW b 2 W ZA ZA
 have HC:Hid (∀W:World,C_ 294 #[.int .i64 (c:Int),.int .i64 2] W (.string (Iy c 2))):=fun W=>ZCW c 2 W ZA ZA
 refine' ZQF;have mS:=aA (Ae8 ⟨a,b,c⟩ w0);rw[HP.out]at mS;refine' Uh;go_enter func237,ntmps237
 refine' Ql;refine' ZU;have ld:=Ag b1
 refine' ZC;go_region_held3 (fun W=>B_ w0 W) (first|exact ld|exact k3|exact k2|exact k1|fail) (first|(go_at_call 294;refine' ZQG)|fail)
 all_goals exact ZQH
theorem BdH{α:Type}{p:α->Bool}(xs:List α)(m)(h:m<xs.length):(xs.take (m+1)).any p=((xs.take m).any p||p xs[m]):=by rw[aJ h,List.any_append];simp
theorem ArF{α:Type}{p:α->Bool}(xs:List α)(m)(h:m<xs.length)(hp:p xs[m]=true):xs.any p=true:=List.any_eq_true.2 ⟨_,aS h,hp⟩
theorem Ae2(v rs p w)(hv:R_ w v rs)(hp:p.size<=maxLen):
 C_ 339 #[v,.string p] w (.bool (rs.any (Iz p))):=by
 refine' ZSg;go_enter func339,ntmps339;go_wp2
 go_loopw[9] (fun i wr=>∃k:Nat,k<=rs.length/\i=.int .i64 k/\B_ w wr/\Hid ((rs.take k).any (Iz p)=false)) (fun i _=>rs.length - (intOf i).toNat)
 case atStart=>exact⟨0,aN _,rfl,l0,rfl⟩
 case round=>
  refine' Ya;clear l0;by_cases ab:k<rs.length
  .refine' ZSh;refine' ZJq;refine' Sn;have na:=aA ja;clear ja;by_cases bp:p.size<x.src.size
   .have vZ:(p.size:Int)<(x.src.size:Int):=ZA
    refine' ZC;rw[<-na.out];refine(ZCY x.src p _ ry hp).mono ?_;refine' zq;cases yz:pre x.src p
    .refine' ZSi;exact ZSj
    .refine' ZSk;exact⟨Al (HA.out HP.out).symm,lo⟩
   .refine' ZSl;rw[<-na.out]
    exact ZSj
  exact ZSm
theorem Ai0(v rs p w)(hv:R_ w v rs)(hp:p.size<=maxLen):
 C_ 309 #[v,.string p] w (.bool (rs.any (Iz p))):=by
 refine' ZSg;go_enter func309,ntmps309;go_wp2
 go_loopw[5] (fun i wr=>∃k:Nat,k<=rs.length/\i=.int .i64 k/\B_ w wr/\Hid ((rs.take k).any (Iz p)=false)) (fun i _=>rs.length - (intOf i).toNat)
 case atStart=>exact⟨0,aN _,rfl,l0,rfl⟩
 case round=>
  refine' Ya;clear l0;by_cases ab:k<rs.length
  .refine' ZSh;by_cases bp:p.size<x.src.size
   .have vZ:(p.size:Int)<(x.src.size:Int):=ZA
    refine' ZC;refine(ZCo x.src p _ ry hp).mono ?_;refine' zq;cases yz:pre x.src p
    .refine' ZSi;exact ZSn
    .refine' ZSk;exact⟨Al (HA.out HP.out).symm,lr⟩
   .refine' ZSl;exact ZSn
  exact ZSm
theorem AgC(p w)(hp:p.size<=7):
 ya 340 #[.string p] w (.string (Hu p)):=by
 have BV:(p.size:Int)<=7:=ZA
 have hs:(ByteArray.mk #[48,48,48,48,48,48,48]).size=7:=rfl;go_enter func340,ntmps340;refine' ZO;exact⟨B8 rfl,rfl⟩
def Ay6(T:TypeId)(L:List Y_)(w:World)(e:Ending)(w':World):Prop:=∃v',e=.returned v'/\own T w.heap.size w' v' L/\B_ w w'
theorem AsT{f}(h:f<=7):10^f<=10000000:=by have:=gH (n:=10) ZA h;exact this
theorem AbD(net s)(hk:Di net=true)(hs:s<net.length):∀(f:Nat) (p:Y_) (v:Value) (w:World),p.size+f=8->1<=f->R_ w v net->
 Calls Tryz.prog 291 #[v,.int .i64 s,.string p] w (Ay6 9 (Dt net s f p) w):=by
 intro f
 induction f with
 |zero=>intro p v w _ h;omega
 |succ f ih=>
  intro p v w hpf _ hv;have UH:=aA ih;clear ih;refine' Sm;refine' YA;have LS:=(D1.1 hk).1;refine' gV;clear hk;refine' ZSo;go_enter func291,ntmps291;go_wp2
  go_loopw[7,19] (fun t i wr=>∃k:Nat,k<=net.length/\i=.int .i64 k/\t=.bool ((net.take k).any (Pi p))/\B_ w wr) (fun _ i _=>net.length - (intOf i).toNat)
  case atStart=>exact Pr
  case round=>
   refine' Ph;refine' Yg;by_cases ab:k<net.length
   .refine' Sl;have HS:=aA (BdH (p:=Pi p) net k ab);refine' ZSp;refine' Sn;have HU:=aA (hu.on lo);have na:=aA ja;clear ja hu;have sx:Hid (Pi p x=x.rules.any (Iz p)):=rfl;cases hq:(net.take k).any (Pi p)
    .have HQ:=aA hq;clear hq
     refine' ZC;rw[<-na.out];refine(Ae2 _ x.rules p _ (HU.out.on lb) BH).mono ?_;rw[<-sx.out];refine' zK;have l2:=Aa lo b2;obtain⟨r,hr⟩:∃r,Pi p x=r:=⟨_,rfl⟩;rw[hr];have ak:=aA hr;clear hr
     refine' ZC;go_roundw
     case rel=>exact⟨k+1,ZA,ZJ,by rw[HS.out,HQ.out,ak.out]<;>rfl,l2⟩
     case measure=>exact ZK
    .have HQ:=aA hq;clear hq
     refine' ZC;rw[<-na.out]
     go_roundw
     case rel=>exact⟨k+1,ZA,ZJ,by rw[HS.out,HQ.out]<;>rfl,lo⟩
     case measure=>exact ZK
   .have HE:Hid ((net.take k).any (Pi p)=Nl net p):=by{show _=_;rw[bB ZA];rfl};rw[HE.out];cases jV:Nl net p
    .have cn:=aA jV;clear jV
     refine' ZC;refine(AgC p _ hp7).mono ?_;refine' zq;have HFZ:Hid ((Hu p).size<=maxLen):=by{show _<=_;unfold Hu maxLen;exact ZJr};refine' ZC;refine(ZCd _ net s (Hu p) _ (fg.out.on lr) HK.out hs HFZ.out).mono ?_;obtain⟨r,hr⟩:∃r,(Ht net (Hu p) s).2=r:=⟨_,rfl⟩;rw[hr];have ak:=aA hr;clear hr;refine' fM;have l3:=Aa lr b3;clear o3 b3;by_cases fi:r=0
     .have HF:Hid (Dt net s (f+1) p=[]):=Qh cn.out ZGF
      have ti:(r==0)=true:=ZGG
      clear fi
      refine' ZI;exact⟨_,rfl,ZJs,l3⟩
     .have HF:Hid (Dt net s (f+1) p=[p]):=ZAo cn.out ZGF
      have ti:(r==0)=false:=ZGG
      have HO:Hid (own (α:=Y_) 9 w.heap.size (w3.alloc (aB #[.string p] 9)) (.slice (P_ w3.heap.size) 1 1) [p]):=own.made1 (α:=Y_) w3 9 [.string p] p ⟨BH,rfl⟩ l3.size;clear fi
      refine' ZI;exact⟨_,rfl,Si,Ae l3 _⟩
    .have hp6:=Ak2 HK.out jV
     have cn:=aA jV;clear jV;refine' ZSq;have j5:=own.nil_ (α:=Y_) w1 9 w.heap.size;have kO:=aA j5;clear j5
     refine' ZC;go_loopw[12,13,45] (fun t u i wr=>∃(k m:Nat),k<=10/\i=.int .i64 k/\u=.int .i64 m/\m<=10/\Hid (m=Xb net s (g+1) p k)/\B_ w wr/\own 9 w.heap.size wr t (jH net s (g+1) p k)) (fun _ _ i _=>10 - (intOf i).toNat)
     case atStart=>exact⟨0,0,aN _,rfl,rfl,aN _,rfl,lr,kO.out⟩
     case round=>
      obtain⟨k,m,hk,rfl,rfl,LU,HM,lq,ho⟩:=hrel;refine' Sh;clear lr;refine' ZSr;clear gu;refine' zY;by_cases ab:k<10
      .have fx:=aA (ZBE net s (g+1) p k)
       have mZ:=aA (AjV net s (g+1) p k);have HCB:=aA (Af4 net s (g+1) p (k+1)).1;have bd:(k:Int)<10:=ZA
       refine' ZSs;clear hd;refine' ZSt;clear kL;rw[HZ.out]at fx;refine' ZJt;clear ho
       refine' ZC;refine(AmE k _ ab).mono ?_;refine' Y0;have l5:=Aa lq b5;have iu:=aA (HO.out.below b5);clear b5 lq
       refine' ZSu;clear o6 b6 l5;refine' ZSv;by_cases mf:ys.length=1
       .have ou:=aA (AvK (p:=d) mf)
        obtain⟨b',o',rfl,qJ,UI,d1⟩:=uW.strU 0 ZA;clear UI;simp only[dF]at d1;obtain⟨y,hy⟩:∃y,ys[0]' ZA=y:=⟨_,rfl⟩;rw[hy]at d1 ou;have KD:((ys.length:Int)==1)=true:=by{rw[mf];rfl};have lw6:=aF w6.heap.size w6;clear uW hy;have qZ:(0:Int)<(ys.length:Int):=ZA
        clear mf;cases sy:zU y d
        .have IV:Hid (Rl d ys=false):=by{show _=_;rw[ou.out,sy]};refine' ZSw;exact ZSx
        .have IV:Hid (Rl d ys=true):=by{show _=_;rw[ou.out,sy]};refine' ZSw;go_roundw
         case rel=>exact⟨k+1,m+1,ZA,ZJ,ZJ,by have h1:=HCB.out;rw[mZ.out,IV.out,<-HM.out,aQ rfl]at h1;omega,ZSy,l7,ZJu⟩
         case measure=>exact ZK
       .have KD:((ys.length:Int)==1)=false:=ZH
        have IV:Hid (Rl d ys=false):=AkL mf;clear uW mf
        go_wp2_with (at_builtin;refine Cu (α:=Y_) rfl (.tmp 68) (.tmp 69) 28 rfl w.heap.size 9 i0 _ 16 aW hi ah ar ap rfl ZE (.slice A3 zs.length c3) zs rfl ot.out (.slice A6 ys.length c6) ys rfl w6.heap.size BI.out ZN ZA tk ?_;intro v7 w7 lM ce _)
        refine' ZSz;exact ZSx
      .obtain rfl:k=10:=ZA
       have pE:=aA (Af4 net s (g+1) p 10).2;rw[<-HM.out]at pE;refine' ZS0;by_cases tV:m=10
       .have vr:((m:Int)==10)=true:=by{rw[tV];rfl};have HF:Hid (Dt net s (g+1+1) p=[p]):=by{show _=_;rw[lN.out,aQ (pE.out.2 tV)]};refine' ZS1;clear tV ho
        refine' ZI;exact⟨_,rfl,Si,Ae lq _⟩
       .have vr:((m:Int)==10)=false:=ZH
        have HF:Hid (Dt net s (g+1+1) p=zs):=by{show _=_;rw[lN.out,aM fun h=>tV (pE.out.1 h)]};clear tV ho
        refine' ZI;exact⟨_,rfl,Si,lq⟩
theorem AoK(v net p w)(hv:R_ w v net)(hp:p.size<=maxLen):
 C_ 262 #[v,.string p] w (.bool (Nl net p)):=by
 refine' h_;refine' fS;refine' zk;have UG:Hid (Nl net p=net.any (Pi p)):=rfl;go_enter func262,ntmps262;go_wp2
 go_loopw[5] (fun i wr=>∃k:Nat,k<=net.length/\i=.int .i64 k/\B_ w wr/\Hid ((net.take k).any (Pi p)=false)) (fun i _=>net.length - (intOf i).toNat)
 case atStart=>exact⟨0,aN _,rfl,l0,rfl⟩
 case round=>
  refine' Ya;by_cases ab:k<net.length
  .refine' Sl;have HS:=aA (BdH (p:=Pi p) net k ab);have HA:=aA (ArF (p:=Pi p) net k ab);generalize net[k]=x at *;have HU:=aA hu;refine' Tx;have sx:Hid (Pi p x=x.rules.any (Iz p)):=rfl
   refine' ZC;refine(Ai0 _ x.rules p _ (HU.out.on lr) hp).mono ?_;rw[<-sx.out];refine' zK;have l2:=Aa lr b2;cases hq:Pi p x
   .have HQ:=aA hq;refine' ZC;go_roundw
    case rel=>exact⟨k+1,ZA,ZJ,l2,by show _=_;rw[HS.out,HG.out,HQ.out];rfl⟩
    case measure=>exact ZK
   .have HQ:=aA hq;refine' ZI;exact⟨Al (by rw[UG.out,HA.out HQ.out]),l2⟩
  .have HE:Hid (Nl net p=false):=ZS2
   refine' ZO;exact⟨Al HE.out.symm,lr⟩
theorem Vv{d:Nat}(h:d<10){w}:C_ 28 #[.int .i64 d] w (.string (xx d)):=by rw[<-Ba3 d h];exact Hy d w ZA
theorem Aj2(net s nm)(hk:Di net=true)(hs:s<net.length)(pF:Bw net s=nm):∀(f:Nat) (p:Y_) (v:Value) (w:World),p.size+f=8->1<=f->R_ w v net->
 Calls Tryz.prog 189 #[v,.string nm,.string p] w (Ay6 9 (Dt net s f p) w):=by
 intro f
 induction f with
 |zero=>intro p v w _ h;omega
 |succ f ih=>
  intro p v w hpf _ hv;have UH:=aA ih;have xn:=aA pF;refine' Sm;refine' Zj;refine' gV;refine' ZSo;refine' ZJv;obtain⟨w0,ac⟩:∃u,u=w.alloc (aB #[] 9):=⟨_,rfl⟩;have l0:B_ w w0:=(Aw ac).1;rw[<-ac]at j6;have lL:=aA j6;refine' zT;go_enter func189,ntmps189
  refine' zG;refine(AoK _ net p _ (fg.out.on l0) BH).mono ?_;refine' zh;have mH:=aA (lL.out.below b1);cases jV:Nl net p
  .have cn:=aA jV;refine' ZC;refine(AcX _ net s nm p _ (fg.out.on l1) HK.out hs xn.out BH).mono ?_;obtain⟨r,hr⟩:∃r,(Ht net p s).2=r:=⟨_,rfl⟩;rw[hr];have ak:Hid ((Ht net (Hu p) s).2=r):=by show _=_;rw[AnM cn.out,hr]
   refine' fM;have l3:=Aa l1 b3;have ez:=aA (mH.out.below b3);have mQ:=l3.size;by_cases fi:r=0
   .have HF:Hid (Dt net s (f+1) p=[]):=Qh cn.out ZGF
    have ti:(r != 0)=false:=ZGG
    refine' ZI;exact⟨_,rfl,by rw[HF.out];exact ez.out,l3⟩
   .have HF:Hid (Dt net s (f+1) p=[p]):=ZAo cn.out ZGF
    have ti:(r != 0)=true:=ZGG
    go_wp2_with (at_builtin;refine An (α:=Y_) rfl (.tmp 27) (.tmp 29) 28 rfl w.heap.size 9 i0 _ 16 aW hi ah ar ap rfl ZE (.slice (P_ w.heap.size) 0 0) [] p rfl (ez.out.alloc _) ⟨w3.heap.size,0,none⟩ 1 [.string p] rfl ⟨BH,rfl⟩ (Bz w3 _ [.string p]) (by unfold maxLen;simp) ZF ZH ?_;refine' ZGH)
    have l5:B_ w w5:=(Ae l3 (aB #[aG p] 9)).grown aj ZH fun q hq=>(ez.out.blk q hq).1
    refine' Xz;go_ret;exact⟨_,rfl,by rw[HF.out];exact iu.out,l5⟩
  .have hp6:=Ak2 HK.out jV
   have cn:=aA jV;refine' ZSq;refine' ZC;go_loopw[7,10,11] (fun t u i wr=>∃k:Nat,k<=10/\i=.int .i64 k/\u=.bool (jM net s (g+1) p k)/\B_ w wr/\own 9 w.heap.size wr t (jH net s (g+1) p k)) (fun _ _ i _=>10 - (intOf i).toNat)
   case atStart=>exact⟨0,aN _,rfl,rfl,l1,mH.out⟩
   case round=>
    obtain⟨k,hk,rfl,rfl,lq,ho⟩:=hrel;refine' Sh;refine' ZSr;refine' zY;by_cases ab:k<10
    .have fx:=aA (ZBE net s (g+1) p k)
     have mZ:=aA (AkU net s (g+1) p k);have bd:(k:Int)<=9:=ZA
     refine' ZSs;refine' ZSt;rw[HZ.out]at fx;refine' ZJt;refine' ZC;refine(Vv ab).mono ?_;refine' Y0;have l5:=Aa lq b5;have iu:=aA (HO.out.below b5);refine' ZSu;refine' ZSv;obtain⟨al,xU⟩:∃al,jM net s (g+1) p k=al:=⟨_,rfl⟩;rw[xU]at mZ;have pE:=aA xU;rw[pE.out];cases al
     .have xo:Hid (jM net s (g+1) p (k+1)=false):=by{show _=_;rw[mZ.out];rfl};exact ZS3
     .by_cases mf:ys.length=1
      .obtain⟨y,rfl⟩:=List.length_eq_one_iff.1 mf
       have ou:Hid (Rl d [y]=zU y d):=rfl;obtain⟨b',o',rfl,qJ,UI,d1⟩:=uW.strU 0 ZF;simp only[dF,dE]at d1;have ld:=(aF w6.heap.size w6).drew;have HCD:Hid (∀W,B_ w6 W->C_ 28 #[.int .i64 k] W (.string (xx k))):=fun W _=>Vv ab
       have uX:∀W,(Op.stringOp .add p (xx k)).run Tryz.prog W=.ok (.string (p++xx k)) W:=fun W=>jQ (w:=W) p (xx k) ZA ZA
       cases sy:zU y d
       .have xo:Hid (jM net s (g+1) p (k+1)=false):=ZS4
        have UJ:(y.toList==(p++xx k).toList)=false:=by{rw[KB.out];exact sy};exact ZS5
       .have xo:Hid (jM net s (g+1) p (k+1)=true):=ZS4
        have UJ:(y.toList==(p++xx k).toList)=true:=by{rw[KB.out];exact sy};exact ZS5
      .have KD:((ys.length:Int)==1)=false:=ZH
       have xo:Hid (jM net s (g+1) p (k+1)=false):=by{show _=_;rw[mZ.out,AkL mf];rfl};exact ZS3
    .obtain rfl:k=10:=ZA
     refine' ZS0;refine' ZJt;cases xU:jM net s (g+1) p 10
     .have HF:Hid (Dt net s (g+1+1) p=zs):=by{show _=_;rw[lN.out,xU];rfl};refine' ZI;exact⟨_,rfl,Si,lq⟩
     .have HF:Hid (Dt net s (g+1+1) p=[p]):=by{show _=_;rw[lN.out,aQ xU]};refine' ZS1;refine' ZI;exact⟨_,rfl,Si,Ae lq _⟩
theorem AtB{net s}{q:Nat}(h:Di net=true)(hq:Gq net s=q):n_ net s=Dt net q 8 ⟨#[]⟩:=by unfold n_;rw[h,hq,aL ZA,bE];rfl
theorem Ax6{net s}(h:(Di net&&decide (0<=Gq net s))=false):n_ net s=[]:=by unfold n_;rw[h];rfl
theorem BdA(v net s w)(hv:R_ w v net):
 Calls Tryz.prog 235 #[v,.string s] w fun e w'=>∃v',e=.returned v'/\own 9 w.heap.size w' v' (n_ net s)/\B_ w w':=by
 refine' ZS6;go_enter func235,ntmps235
 refine' ZC;refine(Hx _ net s _ HV.out).mono ?_;rw[ak.out];refine' ZU;refine' ZC;refine(Js _ net _ (HV.out.on b1)).mono ?_;refine' zK;have l2:=Aa b1 b2;cases h1:Di net
 .have HF:Hid (n_ net s=[]):=ca.out (by rw[h1];rfl)
  refine' ZI;exact⟨_,rfl,ZJs,l2⟩
 refine' fE;by_cases fi:r<0
 .have HF:Hid (n_ net s=[]):=ca.out Q5
  refine' ZI;exact⟨_,rfl,ZJs,l2⟩
 refine' ZGD;have HF:=aA (AtB H1.out ak.out);refine' ZC;refine(AbD net q H1.out lS 8 ⟨#[]⟩ _ _ rfl ZA (HV.out.on l2)).mono ?_;rw[<-HF.out];refine' fM;have ez:=aA (o3.base_ l2.size);refine' YG;obtain⟨A3,n3,c3,rfl,qI,_,_,_⟩:=ez.out.rd;subst qI
 refine' ZI;exact⟨_,rfl,ez.out,l3⟩
theorem bld(v net s w)(hv:R_ w v net):
 Calls Tryz.prog 110 #[v,.string s] w fun e w'=>∃v',e=.returned v'/\own 9 w.heap.size w' v' (n_ net s)/\B_ w w':=by
 refine' ZS6;refine' ZJv;have lL:=aA j6;go_enter func110,ntmps110
 refine' ZJw;refine' zq;cases h1:Di net
 .have HF:Hid (n_ net s=[]):=ca.out (by rw[h1];rfl)
  refine' ZI;exact⟨_,rfl,ZJx,Ae l0 _⟩
 refine' fE;refine' ZC;refine(H7 _ net s _ HV.out).mono ?_;rw[ak.out];refine' ZZ;by_cases fi:r<0
 .have HF:Hid (n_ net s=[]):=ca.out Q5
  refine' ZI;exact⟨_,rfl,ZJx,Ae l0 _⟩
 refine' ZGD;have xV:Hid (Bw net q=s):=by show _=_;rw[Kl lS,pW]
 have HF:=aA (AtB H1.out ak.out);refine' ZC;refine(Aj2 net q s H1.out lS xV.out 8 ⟨#[]⟩ _ _ rfl ZA HV.out).mono ?_;rw[<-HF.out];refine' fM;have ez:=aA o3;obtain⟨A3,n3,c3,rfl,qI,_,_,_⟩:=ez.out.rd;subst qI
 refine' ZI;exact⟨_,rfl,ez.out,b3⟩
theorem Tryz.infoFwdI:(Tryz.prog.info? 128).map (fun i=>(i.zero,i.size,i.bytes))=some (some (.agg #[.string ⟨#[]⟩,.string ⟨#[]⟩]),2,32):=ZB
theorem kept2.allocO{g u w}(h:kept2 g u.heap.size u w)(o):kept2 g u.heap.size u (w.alloc o):=h.trans (kept2.below ((aF _ _).alloc h.size o))
theorem BdM{α:Type}[Flat α]{T g q:Nat}{w0 W w4 v}{ms:List α}{o}(hr:rdr W g q)(k:kept2 g w0.heap.size w0 W)(ho:own T w0.heap.size (W.alloc o) v ms)(hg:(W.alloc o).grownBy w4 v.ownBlock)(ab:g<w0.heap.size):
 rdr w4 g q/\kept2 g w0.heap.size w0 w4:=
 ⟨(hr.alloc o).append ho hg ab,k.trans (kept2.below (((aF _ _).alloc k.size _).trans (Ay ho hg (by simp;have:=k.size;omega))))⟩
theorem T7(g p w)(hr:rdr w g p)(hp:p<=1000000000000):
 Calls Tryz.prog 61 #[.pointer (P_ g)] w fun e w'=>∃s:Y_,e=.returned (.string s)/\s.size=7/\rdr w' g (p+1)/\w.grownBy w' (some g):=by
 have ab:=hr.lt;go_enter func61,ntmps61
 refine' ZC;refine(p_ g p 9 _ hr ZA ZS).mono ?_;rintro e w1 ⟨y,rfl,hy,ew,ey⟩;refine' ZJ3;clear hy
 refine' ZC;refine(T6 N 2 _ ZA ZA).mono ?_;refine' zK;have hs:=Jd N 2;generalize Iy N 2=s at *;have fh:=ew.below b2;have jl:=Vo ey b2;have HS:Hid (((⟨#[49,50,48,48,49]⟩:Y_)++s).size=7):=by show _=_;rw[aY,hs];rfl
 refine' ZI;exact⟨_,rfl,HS.out,fh,jl⟩
def A_(fs:List Fwd):Prop:=∀x∈fs,x.src.size=7/\x.dst.size=7
theorem BdU(g p w)(hr:rdr w g p)(hp:p<=100000000000):
 Calls Tryz.prog 64 #[.pointer (P_ g)] w fun e w'=>∃(v:Value) (fs:List Fwd) (p':Nat),e=.returned v/\own 128 w.heap.size w' v fs/\fs.length<=8/\A_ fs/\rdr w' g p'/\p'<=p+20/\w.grownBy w' (some g):=by
 have ab:=hr.lt;obtain⟨i0,hi,ah,sr,mN⟩:=dD Tryz.infoFwdI;go_enter func64,ntmps64
 refine' ZC;have oE:=own.made0 (α:=Fwd) w 128 (aC _);have DI:=hr.alloc (aB #[] 128);have kE:kept2 g w.heap.size w (w.alloc (aB #[] 128)):=kept2.below ((aF _ _).alloc (aC _) _);have j4:w.heap.size+1=(w.alloc (aB #[] 128)).heap.size:=ZF
 generalize w.alloc (aB #[] 128)=wA at *;rw[j4];clear j4;have nj:=DI.lt;refine(Zz 3 g p _ [4,3,6,2,8,0] _ (DI.alloc _) ZA (a_ 3 (g+1) wA [4,3,6,2,8,0] Zg ZE ZA) ZE).mono ?_;refine' ZH9;refine' ZTs;have lK:0<=n/\n<=8:=Rf
 refine' ZEw;clear hn oE DI kE ey
 refine' ZC;go_loopw[3,4] (fun t i wr=>∃(k:Nat) (fs:List Fwd) (q:Nat),k<=N/\i=.int .i64 k/\Hid (fs.length+k<=N)/\own 128 w.heap.size wr t fs/\Hid (A_ fs)/\rdr wr g q/\q+2*k<=p+1+2*N/\kept2 g w.heap.size w wr) (fun _ i _=>(intOf i).toNat)
 case atStart=>exact⟨N,[],p+1,aC _,rfl,by show _<=_;simp,o1,fun x hx=>Wt,ew,ZA,k1⟩
 case round=>
  obtain⟨k,fs,q,hk,rfl,su,ho,HX,ko,xl,kr⟩:=hrel;refine' zO;clear o1 ew k1;have kw:fs.length<=8:=Qz
  refine' ZIA;by_cases fp:0<k
  .refine' ZLs;rintro e w3 ⟨s,rfl,kq,fy,er⟩;have o3:=ho.grown er (l_ ho ab);have k3:=kr.step er (aC _);clear ho er kr ko
   refine' ZC;refine(T7 g (q+1) _ fy ZA).mono ?_;rintro e w4 ⟨t,rfl,UF,ik,a6⟩;have o4:=o3.grown a6 (l_ o3 ab);have k4:=k3.step a6 (aC _);have nQ:=aA kq;have HT7:=aA UF;have xm:s.size<=maxLen:=ZHJ
   have htl:t.size<=maxLen:=by{rw[UF];decide};have d9:Hid (Fwd.ok ⟨s,t⟩):=⟨xm,htl⟩;clear o3 a6 k3 fy kq UF;obtain⟨wb,kD⟩:∃u,u=w4.alloc (aB #[.string s,.string t] 128):=⟨_,rfl⟩;have hBb:B_ w4 wb:=by{rw[kD];exact Vj};have o5:=o4.below hBb;have r5:rdr wb g (q+1+1):=by{rw[kD];exact ik.alloc _};have k5:kept2 g w.heap.size w wb:=by{rw[kD];exact k4.allocO _};have DJ:wb.heap[w4.heap.size]? =some (.cells #[.string s,.string t] 128 (0,0)):=by{rw[kD];exact bC w4 _};have e0:wb.cell? ⟨w4.heap.size,0,none⟩=some (.string s):=ZZH
   have e1:wb.cell? ⟨w4.heap.size,1,none⟩=some (.string t):=ZZH
   have e0':=e0;rw[kD]at e0';have bt:=aA kD;clear kD DJ hBb o4 ik k4
   refine' ZC;rw[<-bt.out];clear e0';refine(Om _ fs s _ o5.rd).mono ?_;obtain⟨r,ak⟩:∃r,Hid (Gg fs s=r):=⟨_,rfl⟩;rw[ak.out];refine' ZP;have hz5:=k5.size;by_cases fi:r<0
   .go_wp2_with (at_builtin;refine Vk (α:=Fwd) rfl (.tmp 24) (.tmp 26) _ rfl w.heap.size 128 i0 _ 32 dY hi ah sr mN rfl ZE (.slice A fs.length c) fs ⟨s,t⟩ rfl (o5.alloc _) ⟨wb.heap.size,0,none⟩ 1 (Fwd.cells ⟨s,t⟩) rfl ⟨d9.out,rfl⟩ (Bz wb _ (Fwd.cells ⟨s,t⟩)) ZN ZA ZH ?_;intro v' w6 o6 kI _)
    obtain⟨ks,k6⟩:=BdM r5 k5 (o5.alloc _) kI ab;clear kI
    go_roundw
    case rel=>
     refine⟨k - 1,_,q+1+1,ZA,ZJ,by show _<=_;exact ZEx,o6,fun x hx=>?_,ks,ZA,k6⟩;refine' ZIB
     .rw[List.mem_singleton.1 h];exact⟨nQ.out,HT7.out⟩
    case measure=>exact ZK
   .refine' ZC;go_roundw
    case rel=>exact⟨k - 1,fs,q+1+1,ZA,ZJ,by show _<=_;exact Qz,o5,HX.out,r5,ZA,k5⟩
    case measure=>exact ZK
  .refine' ZI;exact⟨_,fs,q,rfl,ho,kw,HX.out,ko,ZA,kept2.back (bK w (some g)) kr (aC _)⟩
theorem BeI(g p w)(hr:rdr w g p)(hp:p<=10000000000):
 Calls Tryz.prog 62 #[.pointer (P_ g)] w fun e w'=>∃(v':Value) (xs:List Ltr) (p':Nat),e=.returned v'/\own 119 w.heap.size w' v' xs/\xs.length<=14/\(∀y∈xs,y.code.size=7)/\rdr w' g p'/\p'<=p+300/\w.grownBy w' (some g):=by
 have ab:=hr.lt;go_enter func62,ntmps62
 refine' ZC;refine(p_ g p 4 _ hr ZA ZS).mono ?_;rintro e w1 ⟨y,rfl,hy,ew,ey⟩;refine' ZJ3;have ar:=ey.size;clear hy
 refine' ZC;refine(BeG g (p+1) (1+N) _ ew ZA ZA ZA).mono ?_;rintro e w2 ⟨v2,xF,q0,rfl,kn,MV,RQ,fh,sF,jl⟩;have MW:=vU ey jl;have k2:kept2 g w.heap.size w w2:=kept2.grown MW (aC _);have im:=aA (kn.base_ (base':=w.heap.size) ar);have HX7:=aA RQ;clear ey jl ew RQ kn MW;rcases im.out.form with⟨rfl,rfl⟩|⟨gl,cl,rfl,WT,hgl2,uw,ru⟩
 .refine' ZC;go_loopw[4] (fun i wr=>i=.int .i64 0/\wr=w2) (fun _ _=>0)
  case atStart=>exact ZW
  case round=>
   obtain⟨rfl,rfl⟩:=hrel
   refine' ZI;exact⟨_,[],q0,rfl,own.nil_ _ _ _,ZF,fun y hy=>by simp at hy,fh,ZA,kept2.back (bK w (some g)) k2 (aC _)⟩
 unfold maxLen at ru;have WU:gl≠g:=ZA
 refine' ZC;go_loopw[4] (fun i wr=>∃(k:Nat) (xs:List Ltr) (q:Nat),k<=xF.length/\i=.int .i64 k/\Hid (xs.length=xF.length)/\Hid (own 119 w.heap.size wr (.slice (P_ gl) xF.length cl) xs)/\Hid (∀y∈xs,y.code.size=7)/\rdr wr g q/\q<=q0+k/\kept2 g w.heap.size w wr) (fun i _=>xF.length - (intOf i).toNat)
 case atStart=>exact⟨0,xF,q0,aN _,rfl,rfl,im.out,HX7.out,fh,ZA,k2⟩
 case round=>
  obtain⟨k,xs,q,hk,rfl,HL,HO,HX,ko,xl,kr⟩:=hrel;refine' zd;clear fh k2;by_cases gq:k<xF.length
  .have bd:(k:Int)<(xF.length:Int):=ZA
   have xq:k<xs.length:=zt
   refine' ZLs;rintro e w4 ⟨s,rfl,kq,ik,a6⟩;have k4:=kr.step a6 (aC _);have fd:own 119 w.heap.size w4 (.slice (P_ gl) xF.length cl) xs:=HO.out.grown a6 (.inr (fun e=>WU (by injection e)));have hid:=(AtM fd k xq).1.1;have iu:=aA (fd.setCell (k:=k) (j:=1) xq ZE (.string s) ⟨xs[k].id,s⟩ (fun ecs he=>by obtain⟨_,rfl⟩:=he;exact⟨⟨hid,ZHJ⟩,rfl⟩))
   obtain⟨u1,g1⟩:=fd.cellAt (j:=k*2+1) (by show _<_*2;omega);have f1:=fd.freeAt (k*2+1);have k5:=k4.set ⟨gl,k*2+1,none⟩ WT (.string s);have rF:=aA (ik.grown (g':=gl) (Gc (p:=⟨gl,k*2+1,none⟩) (bK w4 (some gl)) (.inl rfl) (.string s)) ZA);have nQ:=aA kq;clear fd hid a6 HO kr ko kq
   refine' ZC;go_roundw
   case rel=>
    refine⟨k+1,_,q+1,ZA,ZJ,?_,iu,?_,rF.out,ZA,k5⟩
    .show _=_
     have:=HL.out;exact zV
    exact ZZI
   case measure=>exact ZK
  .refine' ZI;exact⟨_,xs,q,rfl,HO.out,zt,HX.out,ko,ZA,kept2.back (bK w (some g)) kr (aC _)⟩
def Bf0(T1 T2 base:Nat)(w:World)(v:Value)(d:Dy):Prop:=
 ∃vo vf vh,v=.agg #[.int .i64 d.plan.bins,.int .i64 d.plan.passes,vo,vf,vh,.int .i64 d.size]/\Bj d.plan.bins/\Bj d.plan.passes/\Bj d.size/\own T1 base w vo d.plan.order/\own T2 base w vf d.fwds/\own T1 base w vh d.held/\apart vo vf/\apart vo vh/\apart vf vh
def BdP(T1 T2 g p:Nat)(w:World)(e:Ending)(w':World):Prop:=
 ∃(v:Value) (d:Dy) (p':Nat),e=.returned v/\Bf0 T1 T2 w.heap.size w' v d/\Be8 d.plan/\d.fwds.length<=8/\A_ d.fwds/\d.held.length<=2/\rdr w' g p'/\p'<=p+1300/\w.grownBy w' (some g)
theorem Vp{W:World}{h T:Nat}{a b c d e f}(hb:W.heap[h]? =some (.cells #[a,b,c,d,e,f] T (0,0))):
 W.cell? ⟨h,0,none⟩=some a/\W.cell? ⟨h,1,none⟩=some b/\W.cell? ⟨h,2,none⟩=some c/\W.cell? ⟨h,3,none⟩=some d/\W.cell? ⟨h,4,none⟩=some e/\W.cell? ⟨h,5,none⟩=some f:=
 ⟨Xy,Xy,Xy,Xy,Xy,Xy⟩
theorem BdG{W:World}{h T:Nat}{cs}(hb:W.heap[h]? =some (.cells cs T (0,0)))(j):W.frozen? ⟨h,j,none⟩=false:=ZJ4
theorem Tryz.sizeDay:(Tryz.prog.info? 33).map (·.size)=some 6:=ZB
theorem BeX{w:World}{g}{T:TypeId}{u0 u1 u2 u3 u4 u5 a b c d e f}(h:w.heap[g]? =some (.cells #[u0,u1,u2,u3,u4,u5] T (0,0))):
 ((((((w.setCell ⟨g,0,none⟩ a).setCell ⟨g,1,none⟩ b).setCell ⟨g,2,none⟩ c).setCell ⟨g,3,none⟩ d).setCell ⟨g,4,none⟩ e).setCell ⟨g,5,none⟩ f).heap[g]? =some (.cells #[a,b,c,d,e,f] T (0,0)):=
 bO _ _ _ _ _ _ (bO _ _ _ _ _ _ (bO _ _ _ _ _ _ (bO _ _ _ _ _ _ (bO _ _ _ _ _ _ (bO _ _ _ _ _ _ h)))))
theorem BeK(W:World)(h a b c d e f):
 W.grownBy ((((((W.setCell ⟨h,0,none⟩ a).setCell ⟨h,1,none⟩ b).setCell ⟨h,2,none⟩ c).setCell ⟨h,3,none⟩ d).setCell ⟨h,4,none⟩ e).setCell ⟨h,5,none⟩ f) (some h):=
 Gc (p:=⟨h,5,none⟩) (Gc (p:=⟨h,4,none⟩) (Gc (p:=⟨h,3,none⟩) (Gc (p:=⟨h,2,none⟩) (Gc (p:=⟨h,1,none⟩) (Gc (p:=⟨h,0,none⟩) (bK W (some h)) (.inl rfl) a) (.inl rfl) b) (.inl rfl) c) (.inl rfl) d) (.inl rfl) e) (.inl rfl) f
theorem T8{u v}(h:∀k,u.ownBlock=some k->v.ownBlock=some k->False):apart u v:=by
 unfold apart;cases hu:u.ownBlock with
 |none=>exact .inl rfl
 |some k=>exact .inr fun e=>h k hu e.symm
theorem BdZ{T1 T2 g p q B1 B2 B3:Nat}{w W vo vf vh}{d:Dy}(ab:g<w.heap.size)(mF:w.heap.size<B1)(vz:B1<=B2)(xz:B2<=B3)(i1:Bj d.plan.bins)(i2:Bj d.plan.passes)(i3:Bj d.size)
 (ho:own T1 B1 W vo d.plan.order) (hf:own T2 B2 W vf d.fwds) (hh:own T1 B3 W vh d.held) (CG:∀k,vo.ownBlock=some k->k<B2) (hfb:∀k,vf.ownBlock=some k->k<B3) (hd:Be8 d.plan) (j7:d.fwds.length<=8) (ML:A_ d.fwds) (hhl:d.held.length<=2)
 (hr:rdr W g q) (hq:q<=p+1300) (J:keptS (fun k=>k=g) w W):
 BdP T1 T2 g p w (.returned (.agg #[.int .i64 d.plan.bins,.int .i64 d.plan.passes,vo,vf,vh,.int .i64 d.size])) ((((((W.setCell ⟨w.heap.size,0,none⟩ (.int .i64 d.plan.bins)).setCell ⟨w.heap.size,1,none⟩ (.int .i64 d.plan.passes)).setCell ⟨w.heap.size,2,none⟩ vo).setCell ⟨w.heap.size,3,none⟩ vf).setCell ⟨w.heap.size,4,none⟩ vh).setCell ⟨w.heap.size,5,none⟩ (.int .i64 d.size)):=by
 have HG:=BeK W w.heap.size (.int .i64 d.plan.bins) (.int .i64 d.plan.passes) vo vf vh (.int .i64 d.size);have J2:=J.next HG fun r e=>.inr (by refine' YC;omega)
 refine⟨_,d,q,rfl,⟨vo,vf,vh,rfl,i1,i2,i3,(ho.grown HG (l_ ho mF)).base_ ZA,(hf.grown HG (l_ hf ZA)).base_ ZA,(hh.grown HG (l_ hh ZA)).base_ ZA,?_,?_,?_⟩,hd,j7,ML,hhl,hr.grown HG ZA,hq,⟨J2.os,J2.tape,J2.output,J2.size,fun i hi ay=>J2.block i hi (fun e=>ay (by rw[e]))⟩⟩
 .exact T8 fun k h1 h2=>by have:=CG k h1;have:=(hf.blk k h2).1;omega
 .exact T8 fun k h1 h2=>by have:=CG k h1;have:=(hh.blk k h2).1;omega
 .exact T8 fun k h1 h2=>by have:=hfb k h1;have:=(hh.blk k h2).1;omega
theorem BeS(g p w)(hr:rdr w g p)(hp:p<=1000000000):
 Calls Tryz.prog 63 #[.pointer (P_ g)] w (BdP 9 128 g p w):=by
 have ab:=hr.lt;obtain⟨wA,ae⟩:∃u,u=w.alloc (aB #[.int .i64 0,.int .i64 0,.slice none 0 0,.slice none 0 0,.slice none 0 0,.int .i64 0] 33):=⟨_,rfl⟩;have MM:rdr wA g p:=by rw[ae];exact hr.alloc _
 refine' O_;have ml:wA.heap[w.heap.size]? =some (.cells #[.int .i64 0,.int .i64 0,.slice none 0 0,.slice none 0 0,.slice none 0 0,.int .i64 0] 33 (0,0)):=by rw[ae];exact X1
 have xD:w.grownBy wA (some g):=by rw[ae];exact cQ w _ _
 refine' d_;go_enter func63,ntmps63
 refine' Zx;refine(BeH g p _ MM ZA).mono ?_;rintro e w1 ⟨v,x,p1,rfl,ov,hd,ew,mG,ey⟩;obtain⟨tM,hd2,MN,VN,hd5,hd6,RK⟩:=hd;have HD7:=aA RK;obtain⟨vo,rfl,i1,i2,RL⟩:=ov;rcases RL.form with⟨_,h0⟩|⟨go,co,rfl,hgo1,hgo2,tx,rz⟩
 .rw[h0]at hd5;simp at hd5
 have wg:=ew.lt;have ar:=ey.size;unfold maxLen at rz
 refine' ZC;refine(BdU g p1 _ ew ZA).mono ?_;rintro e w2 ⟨vf,fs,p2,rfl,RM,j7,ML,fh,nP,jl⟩;have o2:=RL.grown jl (l_ RL ZA);have MO:=vU ey jl;have lO:=aA ML;have ap:=jl.size;obtain⟨Af,nf,cf,hvf,hnf,_,_,_⟩:=RM.rd;subst hnf hvf;refine' ZC;refine(p_ g p2 6 _ fh ZA ZS).mono ?_;rintro e w3 ⟨y,rfl,hy,fy,er⟩;refine' So;have o3:=o2.grown er (l_ o2 ZA);have f3:=RM.grown er (l_ RM ZA);have MP:=vU MO er;have fu:=er.size;have hwy:aD.wrap (1+y)=1+y:=bG _ ZA;obtain⟨wB,ai⟩:∃u,u=w3.alloc (aB #[.int .i64 x.bins,.int .i64 x.passes,.slice (P_ go) x.order.length co,.slice Af fs.length cf,.slice none 0 0,.int .i64 (1+y)] 33):=⟨_,rfl⟩;have qc:B_ w3 wB:=by rw[ai];exact Vj
 have hrB:rdr wB g (p2+1):=by rw[ai];exact fy.alloc _
 have vu:wB.heap.size=w3.heap.size+1:=by rw[ai];simp
 have qO:wB.heap[w3.heap.size]? =some (.cells #[.int .i64 x.bins,.int .i64 x.passes,.slice (P_ go) x.order.length co,.slice Af fs.length cf,.slice none 0 0,.int .i64 (1+y)] 33 (0,0)):=by rw[ai];exact bC w3 _
 have oB:=o3.below qc;have fB:=aA (f3.below qc);have tG:Hid (∀j,(Value.slice Af fs.length cf).ownBlock=some j->j≠w3.heap.size):=fun j hj=>by have:=(f3.blk j hj).2;omega
 have WI:wA.grownBy wB (some g):=Vo MP qc;have jq:=o3.blk go rfl;have bt:=aA ai;have WJ:=aA ((WI.block w.heap.size ZA (fun e=>ZY)).trans ml);have j8:=aA qO;refine' ZC;try rw[<-bt.out]
 have RD:keptS (fun k=>k=g\/k=go) wB wB:=keptS.refl _ _
 go_loopw[4] (fun i wr=>∃(k:Nat) (xs:List Y_) (q:Nat),k<=x.order.length/\i=.int .i64 k/\Hid (xs.length=x.order.length)/\Hid (Sw xs)/\Hid (own 9 wA.heap.size wr (.slice (P_ go) x.order.length co) xs)/\rdr wr g q/\q<=p2+1+k/\keptS (fun k=>k=g\/k=go) wB wr) (fun i _=>x.order.length - (intOf i).toNat)
 case atStart=>exact⟨0,x.order,p2+1,aN _,rfl,rfl,HD7.out,oB,hrB,ZA,RD⟩
 case round=>
  obtain⟨k,xs,q,hk,rfl,HL,HX,HO,ko,xl,kr⟩:=hrel;refine' Sh;have ju:=(kr.block w3.heap.size ZA ZA).trans j8.out;obtain⟨c0,c1,c2,c3,c4,c5⟩:=Vp ju;have bu:=aA ju;by_cases hlt4:k<x.order.length
  .have bd:(k:Int)<(x.order.length:Int):=ZA
   refine' ZLs;rintro e w5 ⟨s,rfl,kq,ex,aj⟩;refine' ZZJ;have nQ:=aA kq;refine' ZZK;obtain⟨c0,c1,c2,c3,c4,c5⟩:=Vp MQ;obtain⟨r,ak⟩:∃r,Hid (y6 xs s=r):=⟨_,rfl⟩;have MR:R_ w5 (.slice (P_ go) x.order.length co) xs:=iu.out.rd;have WK:=aA MR;refine' ZC;refine(AfK WK.out ak.out).mono ?_;refine' ZP;by_cases fi:r<0
   .have xq:k<xs.length:=zt
    have f0:=iu.out.freeAt k;obtain⟨u1,g1⟩:=iu.out.cellAt (j:=k) (by show k<xs.length*1;omega);have ot:=aA (Ad6 iu.out xq s (by rw[nQ.out];decide));have EN:=aA (ex.grown (g':=go) (Gc (p:=⟨go,k,none⟩) (bK w5 (some go)) (.inl rfl) (.string s)) ZA);have k6:=k5.set ⟨go,k,none⟩ (.inl (.inr rfl)) (.string s);refine' ZC;go_roundw
    case rel=>
     refine⟨k+1,_,q+1,ZA,ZJ,?_,?_,ot,EN.out,ZA,k6⟩
     .show _=_
      have:=HL.out;exact zV
     exact ZZI
    case measure=>exact ZK
   .refine' ZC;go_roundw
    case rel=>exact⟨k+1,xs,q+1,ZA,ZJ,HL,HX,iu,ex,ZA,k5⟩
    case measure=>exact ZK
  .refine' ZC;refine(p_ g q 3 _ ko ZA ZS).mono ?_;rintro e w5 ⟨z,rfl,hz,ex,aj⟩;refine' ZHK;obtain⟨N2,rfl⟩:=aK z0;refine' ZZJ;refine' ZZK;have hA5:=(k5.block w.heap.size ZA ZA).trans WJ.out;have F5:=aA (fB.out.keepBlk (w':=w5) fun j hj=>k5.block j (fB.out.blk j hj).2 (by have:=(fB.out.blk j hj).1;intro h;rcases h with h|h<;>omega));have J5:keptS (fun k=>k=g) w w5:=by have h1:w.grownBy wB (some g):=vU xD WI;exact⟨k5.os.trans h1.os,k5.tape.trans h1.tape,k5.output.trans h1.output,aI h1.size k5.size,fun j hj hn=>(k5.block j (bR hj h1.size) (by intro h;rcases h with h|h<;>omega)).trans (h1.block j hj (fun e=>ZY))⟩
   have hz5:=k5.size;have ai:=k5.size;obtain⟨i0,hi,ah,sr,mN⟩:=dD Tryz.infoStr
   refine' ZC;go_loopw[6] (fun i wr=>∃(k:Nat) (hs:List Y_) (vh:Value) (q:Nat),k<=N2/\i=.int .i64 k/\hs.length+k<=N2/\wr.heap[w3.heap.size]? =some (.cells #[.int .i64 x.bins,.int .i64 x.passes,.slice (P_ go) x.order.length co,.slice Af fs.length cf,vh,.int .i64 (1+y)] 33 (0,0))/\wr.heap[w.heap.size]? =some (.cells #[.int .i64 0,.int .i64 0,.slice none 0 0,.slice none 0 0,.slice none 0 0,.int .i64 0] 33 (0,0))/\Hid (own 9 wB.heap.size wr vh hs)/\Hid (own 9 wA.heap.size wr (.slice (P_ go) x.order.length co) xs)/\Hid (own 128 w1.heap.size wr (.slice Af fs.length cf) fs)/\rdr wr g q/\q+k<=p2+200+N2/\keptS (fun k=>k=g) w wr/\wB.heap.size<=wr.heap.size) (fun i _=>(intOf i).toNat)
   case atStart=>exact⟨N2,[],.slice none 0 0,q+1,aC _,rfl,ZF,MQ,hA5,own.nil_ _ _ _,iu.out,F5.out,ex,ZA,J5,ai⟩
   case round=>
    obtain⟨k2,hs,vh,q2,jp,rfl,RN,mM,RP,HH,ot,F6,MS,sF,J6,BX⟩:=hrel;obtain⟨w6,rfl⟩:∃w6:World,w6=wr:=⟨_,rfl⟩;by_cases fp:0<k2
    .obtain⟨c0,c1,c2,c3,c4,c5⟩:=Vp mM
     have f4:=BdG mM 4;have vM:=aA mM;have sk:Hid (Calls Tryz.prog 61 #[.pointer (P_ g)] w6.drew fun e w'=>∃s:Y_,e=.returned (.string s)/\s.size=7/\rdr w' g (q2+1)/\w6.grownBy w' (some g)):=by{refine(T7 g q2 _ (MS.below ((aF _ _).drew)) ZA).mono ?_;rintro e w' ⟨t,h1,h2,h3,h4⟩;exact⟨t,h1,h2,h3,⟨h4.os,h4.tape,h4.output,h4.size,h4.block⟩⟩};have MT:w3.heap.size<w6.heap.size:=ZA
     have IY:Hid (some w3.heap.size≠some g):=fun e=>ZY
     have hh20:hs.length<=20:=ZA
     refine' ZZL;have rT:Hid (some w3.heap.size≠(Value.slice Ah hs.length ch).ownBlock):=fun e=>ZHL
     go_region_law (first|(go_simp;go_at_call 61;(with_reducible refine sk.out.mono ?_);rintro e w7 ⟨s,rfl,kq,rZ,ce⟩;have c47:w7.cell? ⟨w3.heap.size,4,none⟩=some (.slice Ah hs.length ch):=(ce.cell_far ⟨w3.heap.size,4,none⟩ MT IY.out).trans c4;have o7:=HH.out.grown ce (l_ HH.out ZA);have gm:=ce.size;have WM:(w7.alloc (aB #[aG s] 9)).cell? ⟨w3.heap.size,4,none⟩=some (.slice Ah hs.length ch):=(World.cell?_alloc_lt w7 _ ⟨w3.heap.size,4,none⟩ (by show w3.heap.size<w7.heap.size;omega)).trans c47)|(refine Ce (α:=Y_) ZG (.tmp 44) (.tmp 47) 28 ZG wB.heap.size 9 i0 _ 16 aW hi ah sr mN rfl ZE (.slice Ah hs.length ch) hs s ZG (o7.alloc _) ⟨w7.heap.size,0,none⟩ 1 [.string s] ZG ⟨ZHJ,rfl⟩ (Bz w7 _ [.string s]) ZN ZA ZH ?_;intro g' cap w9 o9 gw yJ WN;have yK:=(gw.block w3.heap.size ZH rT.out).trans ((heap_alloc_old w7 _ ZA).trans ((ce.block w3.heap.size MT IY.out).trans vM.out));have c49:=(Vp yK).2.2.2.2.1;have f49:=BdG yK 4))
     all_goals
      have WO:(w9.setCell ⟨w3.heap.size,4,none⟩ (.slice (P_ g') (hs.length+1) cap)).heap[w3.heap.size]? =some (.cells #[.int .i64 x.bins,.int .i64 x.passes,.slice (P_ go) x.order.length co,.slice Af fs.length cf,.slice (P_ g') (hs.length+1) cap,.int .i64 (1+y)] 33 (0,0)):=bO _ _ _ _ _ _ yK;have g7:=Gc (p:=⟨w3.heap.size,4,none⟩) (bK w9 (some w3.heap.size)) (.inl rfl) (.slice (P_ g') (hs.length+1) cap);have JT:=gw.size;have hzal:(w7.alloc (aB #[aG s] 9)).heap.size=w7.heap.size+1:=ZF
      have xr:∀j,j<w6.heap.size->j≠g->some j≠(Value.slice Ah hs.length ch).ownBlock->j≠w3.heap.size->(w9.setCell ⟨w3.heap.size,4,none⟩ (.slice (P_ g') (hs.length+1) cap)).heap[j]? =w6.heap[j]? :=fun j h1 h2 h3 h4=>
       (g7.block j ZA (fun e=>ZY)).trans ((gw.block j ZA h3).trans ((heap_alloc_old w7 _ ZA).trans (ce.block j h1 (fun e=>ZY))))
      have WP:=aA (ot.out.keepBlk (w':=w9.setCell ⟨w3.heap.size,4,none⟩ (.slice (P_ g') (hs.length+1) cap)) fun j hj=>by have e':some go=some j:=hj;injection e' with e';subst e';exact xr go (ot.out.blk go rfl).2 ZA (fun e=>ZHL) ZA)
      have F10:=aA (F6.out.keepBlk (w':=w9.setCell ⟨w3.heap.size,4,none⟩ (.slice (P_ g') (hs.length+1) cap)) fun j hj=>by have h1:=(F6.out.blk j hj).1;have h2:=(fB.out.blk j hj).2;exact xr j (F6.out.blk j hj).2 ZA (fun e=>ZHL) (tG.out j hj))
      have WQ:=(xr w.heap.size ZA ZA (fun e=>ZHL) ZA).trans RP;have O10:=aA (o9.grown g7 (.inr (fun e=>by have e':some g'=some w3.heap.size:=e;injection e';have:=(o9.blk g' rfl).1;omega)));have R10:=((rZ.alloc (aB #[aG s] 9)).append (o7.alloc _) gw ZA).grown (g':=w3.heap.size) g7 ZA;have J10:=(((J6.next ce fun r e=>.inl (by refine' YC;exact e.symm)).alloc (aB #[aG s] 9)).next gw fun r e=>.inr (by have:=(HH.out.blk r e).1;omega)).set ⟨w3.heap.size,4,none⟩ (.inr (by show w.heap.size<=w3.heap.size;omega)) (.slice (P_ g') (hs.length+1) cap);have JU:=g7.size;refine' ZC;go_roundw
      case rel=>exact⟨k2 - 1,_,_,q2+1,ZA,ZJ,ZH,WO,WQ,O10.out,WP.out,F10.out,R10,ZA,J10,ZA⟩
      case measure=>exact ZK
    .obtain⟨c0,c1,c2,c3,c4,c5⟩:=Vp mM
     obtain⟨a0,a1,a2,a3,a4,a5⟩:=Vp RP;have u0:=BdG RP;refine' ZZL;refine AzM rfl rfl (BeX RP) underlying33 rfl Tryz.sizeDay rfl ?_;have hLN:xs.length=x.order.length:=HL.out;exact BdZ (d:=⟨⟨x.bins,x.passes,xs⟩,fs,hs,1+y⟩) (B1:=wA.heap.size) (B2:=w1.heap.size) (B3:=wB.heap.size) ab ZA ZA ZA i1 i2 (by show Bj (1+y);exact ZS) ot.out F6.out HH.out (fun j hj=>by have e':some go=some j:=hj;injection e';omega) (fun j hj=>(fB.out.blk j hj).2) ⟨tM,hd2,MN,VN,by show 1<=xs.length;omega,by show xs.length<=100;omega,HX.out⟩ j7 lO.out (by show hs.length<=2;omega) MS ZA J6
theorem Vn(T g p:Nat)(v xs w)(hr:rdr w g p)(hp:p<=1099511627776)(hv:own T (g+1) w v xs)(h0:0<xs.length):
 Calls Tryz.prog 22 #[.pointer (P_ g),v] w fun e w'=>∃x∈xs,e=.returned (.string x)/\x.size<=maxLen/\rdr w' g (p+1)/\w.grownBy w' (some g):=by
 refine' ZN2;go_enter func22,ntmps22
 refine' ZN3;obtain⟨b,o,rfl,hb,hi,c1⟩:=nU.str q ZA;have qu:xs[q]' ZA ∈xs:=aS _;have HI:=aA hi;refine' ZN4;exact⟨y,HM.out,rfl,HI.out,ew,hg⟩
theorem X_(T base:Nat)(w:World)(xs)(hx:∀x∈xs,x.size<=maxLen)(hm:xs.length<=maxLen)(hb:base<=w.heap.size):
 own T base (w.alloc (aB (xs.map aG).toArray T)) (.slice (P_ w.heap.size) xs.length xs.length) xs:=by
 have h1:(xs.map fun x=>[aG x]).flatten=xs.map aG:=ZNy
 refine⟨xs.map fun x=>[aG x],⟨?_,.inr ⟨w.heap.size,xs.length,_,rfl,hb,bC w _,aC _,hm,by simp[El.size],?_⟩⟩,ZF,fun k hk gj=>?_⟩
 .rw[h1]
  simp[El.size]
 exact ZNz
 exact ZN0
def BdN(s:Y_):Prop:=s.size=7/\Ea s.data.toList=true
theorem Vw{a b}:Ea (a++b)=(Ea a&&Ea b):=by unfold Ea;exact eH
theorem Be3{d}(h:d<10):Ea (xx d).data.toList=true:=by
 have:∀d,d<10->Ea (xx d).data.toList=true:=ZE
 exact this d h
theorem BeO{x N M}(hx:x∈([⟨#[49]⟩,⟨#[48]⟩,⟨#[50]⟩]:List Y_))(hN:N<10)(hM:M<10):
 BdN (((⟨#[49,50,48,48]⟩:Y_)++x)++xx N++xx M):=by
 have h1:x.size=1/\Ea x.data.toList=true:=by simp at hx;rcases hx with rfl|rfl|rfl<;>exact⟨rfl,ZE⟩
 refine⟨by rw[aY,aY,aY,h1.1];rfl,?_⟩;have e:(((⟨#[49,50,48,48]⟩:Y_)++x)++xx N++xx M).data.toList=[49,50,48,48]++x.data.toList++(xx N).data.toList++(xx M).data.toList:=by simp[ByteArray.data_append]
 rw[e,Vw,Vw,Vw,h1.2,Be3 hN,Be3 hM];decide
theorem BdN.pfx{s}(h:BdN s)(m):Jr (s.extract 0 m)=true:=by
 refine AbX.2 ⟨?_,?_⟩
 .have e:(s.extract 0 m).data.toList=s.data.toList.take m:=ZJ7
  rw[e];unfold Ea;refine List.all_eq_true.2 fun b hb=>?_
  have:=h.2;unfold Ea at this;exact List.all_eq_true.1 this b (eA hb)
 .rw[dB];have:=h.1;omega
def Bd2(ns:List Y_)(rs:List Fwd):Prop:=(∀x∈rs,Jr x.src=true/\x.dst∈ns)/\rs.Pairwise fun x y=>x.src≠y.src
theorem Bd2.nil(ns):Bd2 ns []:=⟨fun _ h=>by simp at h,ZAb⟩
theorem Bd2.snoc{ns rs s t}(h:Bd2 ns rs)(hs:Jr s=true)(ht:t∈ns)(hn:Gg rs s<0):Bd2 ns (rs++[⟨s,t⟩]):=by
 refine⟨fun x hx=>?_,List.pairwise_append.2 ⟨h.2,List.pairwise_singleton _ _,fun x hx y hy=>?_⟩⟩
 .rcases List.mem_append.1 hx with hx|hx
  .exact h.1 x hx
  .simp at hx;subst hx;exact⟨hs,ht⟩
 .simp at hy;subst hy;exact F6.1 (BaW hn x hx)
def St:List Y_:=[⟨#[97]⟩,⟨#[98]⟩,⟨#[99]⟩,⟨#[100]⟩]
def Su(n:Nat):List Y_:=([L8,L8]:List Y_)++St.take n
def Bd6(n:Nat)(net:List Ofc):Prop:=∀j (h:j<net.length),net[j].name=St[j]?.getD ⟨#[]⟩/\Bd2 (Su n) net[j].rules/\net[j].rules.length<=6
theorem Bd6.nil(n):Bd6 n []:=fun j h=>absurd h (aX j)
theorem Bd6.snoc{n net nm rs}(h:Bd6 n net)(pF:nm=St[net.length]?.getD ⟨#[]⟩)(hr:Bd2 (Su n) rs)(hl:rs.length<=6):Bd6 n (net++[⟨nm,rs⟩]):=fun j hj=>by
 by_cases ul:j<net.length
 .rw[bZ ul];exact h j ul
 .refine' Wy;have e:j - net.length=0:=Wx
  have e2:j=net.length:=Wx
  simp only[e,dE];rw[e2];exact⟨pF,hr,hl⟩
theorem BdV(g p w)(hr:rdr w g p)(hp:p<=1000000000000):
 Calls Tryz.prog 68 #[.pointer (P_ g)] w fun e w'=>∃s:Y_,e=.returned (.string s)/\BdN s/\rdr w' g (p+3)/\w.grownBy w' (some g):=by
 have ab:=hr.lt;go_enter func68,ntmps68
 refine' ZC;refine(Vn 9 g p _ [⟨#[49]⟩,⟨#[48]⟩,⟨#[50]⟩] _ (hr.alloc _) ZA (X_ 9 (g+1) w [⟨#[49]⟩,⟨#[48]⟩,⟨#[50]⟩] ZTq ZE ZA) ZE).mono ?_;rintro e w1 ⟨x,hx,rfl,pI,ew,ey⟩;have ke:x.size=1:=by simp at hx;rcases hx with rfl|rfl|rfl<;>rfl
 have HX:=aA hx;replace ey:=vU (cQ w _ _) ey;clear hx pI
 refine' ZC;refine(p_ g (p+1) 3 _ ew ZA ZS).mono ?_;rintro e w2 ⟨y,rfl,hy,fh,jl⟩;refine' ZJ3;replace jl:=vU ey jl;clear hy ew ey
 refine' ZC;refine(Vv (d:=N) ZA).mono ?_;refine' zB;have mQ:(xx N).size=1:=rfl;have ij:Hid (∀M,M<10->BdN (((⟨#[49,50,48,48]⟩:Y_)++x)++xx N++xx M)):=fun M hM=>BeO HX.out ZA hM
 generalize xx N=s at *;have fy:=fh.below b3;have er:=Vo jl b3;clear fh jl b3
 refine' ZC;refine(p_ g (p+1+1) 3 _ fy ZA ZS).mono ?_;rintro e w4 ⟨y,rfl,hy,ik,a6⟩;obtain⟨z0,z1⟩:=hy.2 ZA;obtain⟨M,rfl⟩:=aK z0;replace a6:=vU er a6;clear hy fy er
 refine' ZC;refine(Vv (d:=M) ZA).mono ?_;refine' Y0;have DF:(xx M).size=1:=rfl;have HS:=aA (ij.out M ZA);generalize xx M=t at *;have ex:=ik.below b5;have aj:=Vo a6 b5;clear ik a6 b5
 refine' ZI;exact⟨_,rfl,HS.out,ex,aj⟩
theorem BdX{W:World}{h T:Nat}{a b}(hb:W.heap[h]? =some (.cells #[a,b] T (0,0))):
 W.cell? ⟨h,0,none⟩=some a/\W.cell? ⟨h,1,none⟩=some b/\W.frozen? ⟨h,0,none⟩=false/\W.frozen? ⟨h,1,none⟩=false:=
 ⟨Xy,Xy,ZJ4,ZJ4⟩
theorem dS{F w':World}{g B o}(hg:F.grownBy w' (some g))(h:F.heap[B]? =some o)(ay:g<B):w'.heap[B]? =some o:=
 (hg.block B (Array.getElem?_eq_some_iff.1 h).1 (fun e=>ZY)).trans h
theorem BdO(w:World)(o o'):((w.alloc o).alloc o').heap[w.heap.size]? =some o:=
 (((aF (w.alloc o).heap.size (w.alloc o)).alloc (aC _) o').block w.heap.size ZF).trans (bC w o)
theorem World.heap_past(w:World)(o){B:Nat}{q}(h:w.heap[B]? =some q):(w.alloc o).heap[B]? =some q:=
 (((aF w.heap.size w).alloc (aC _) o).block B (Array.getElem?_eq_some_iff.1 h).1).trans h
structure midR (T g q:Nat) (w0:World) (s t:ByteArray) (B:Nat) (W:World):Prop where
 hB:w0.heap.size<=B
 hrow:W.heap[B]? =some (.cells #[.string s,.string t] T (0,0))
 hr:rdr W g q
 hk:kept2 g w0.heap.size w0 W
theorem BeQ{T g q w0 w6 s t}(hr:rdr w6 g q)(hk:kept2 g w0.heap.size w0 w6):
 midR T g q w0 s t w6.heap.size (w6.alloc (aB #[.string s,.string t] T)):=
 ⟨hk.size,bC _ _,hr.alloc _,hk.allocO _⟩
theorem BeU{w:World}{g}{T:TypeId}{u0 u1 a b}(h:w.heap[g]? =some (.cells #[u0,u1] T (0,0))):
 ((w.setCell ⟨g,0,none⟩ a).setCell ⟨g,1,none⟩ b).heap[g]? =some (.cells #[a,b] T (0,0)):=
 bO _ _ _ _ _ _ (bO _ _ _ _ _ _ h)
theorem Sz{T g q B:Nat}{w0 w6 s t u0 u1}(hr:rdr w6 g q)(hg:g<w0.heap.size)(hk:kept2 g w0.heap.size w0 w6)(hB:w0.heap.size<=B)(h6:w6.heap[B]? =some (.cells #[u0,u1] T (0,0))):
 midR T g q w0 s t B ((w6.setCell ⟨B,0,none⟩ (.string s)).setCell ⟨B,1,none⟩ (.string t)):=by have HG:=Gc (p:=⟨B,1,none⟩) (Gc (p:=⟨B,0,none⟩) (bK w6 (some B)) (.inl rfl) (.string s)) (.inl rfl) (.string t);exact⟨hB,BeU h6,hr.grown HG ZA,(hk.set ⟨B,0,none⟩ hB _).set ⟨B,1,none⟩ hB _⟩
theorem BeB(g p v ns w)(hr:rdr w g p)(hp:p<=100000000000)(hv:own 9 (g+1) w v ns)(hn:0<ns.length):
 Calls Tryz.prog 163 #[.pointer (P_ g),v] w fun e w'=>∃(v':Value) (rs:List Fwd) (p':Nat),e=.returned v'/\own 181 w.heap.size w' v' rs/\rs.length<=5/\Bd2 ns rs/\rdr w' g p'/\p'<=p+40/\w.grownBy w' (some g):=by
 refine' ZSW;have SJ:=aA (fun k hk=>hv.blk k hk);have HVW:=aA hv;obtain⟨A0,n0,c0,rfl,gx,_,_,_⟩:=hv.rd;subst gx;clear hv;go_enter func163,ntmps163
 refine' ZC;have oE:=own.made0 (α:=Fwd) w 181 (aC _);have DI:=hr.alloc (aB #[] 181);have kE:kept2 g w.heap.size w (w.alloc (aB #[] 181)):=kept2.below ((aF _ _).alloc (aC _) _);have j4:w.heap.size+1=(w.alloc (aB #[] 181)).heap.size:=ZF
 generalize w.alloc (aB #[] 181)=wA at *;rw[j4];clear j4;have nj:=DI.lt;refine(Zz 3 g p _ [3,4,2,5,1,0] _ (DI.alloc _) ZA (a_ 3 (g+1) wA [3,4,2,5,1,0] Zg ZE ZA) ZE).mono ?_;rintro e w1 ⟨n,qL,rfl,ew,ey⟩;refine' ZTr;refine' ZTs;have lK:0<=n/\n<=5:=by simp at qL;omega
 refine' ZEw;clear qL oE DI kE ey
 refine' ZC;go_loopw[5,6] (fun t i wr=>∃(k:Nat) (rs:List Fwd) (q:Nat),k<=N/\i=.int .i64 k/\Hid (rs.length+k<=N)/\Hid (Bd2 ns rs)/\own 181 w.heap.size wr t rs/\rdr wr g q/\q+5*k<=p+1+5*N/\kept2 g w.heap.size w wr) (fun _ i _=>(intOf i).toNat)
 case atStart=>exact⟨N,[],p+1,aC _,rfl,by show _<=_;simp,Bd2.nil _,o1,ew,ZA,k1⟩
 case round=>
  obtain⟨k,rs,q,hk,rfl,su,qp,ho,ko,xl,kr⟩:=hrel;refine' zO;clear o1 ew k1;have kw:rs.length<=5:=Qz
  refine' ZIA;by_cases fp:0<k
  .refine' ZC;have gd:=ko.lt;have K0:Hid (kept2 g w2.heap.size w2 w2.drew):=⟨rfl,rfl,rfl,aC _,fun _ _ _=>rfl⟩;have HR0:Hid (rdr w2.drew g q):=ko.below ((aF _ _).drew);have lm:Hid (∀W,rdr W g q->kept2 g w2.heap.size w2 W->Calls Tryz.prog 68 #[.pointer (P_ g)] W fun e W'=>∃s:Y_,e=.returned (.string s)/\BdN s/\rdr W' g (q+3)/\kept2 g w2.heap.size w2 W'/\W.grownBy W' (some g)):=fun W hr hk=>by refine(BdV g q _ hr ZA).mono ?_;rintro e w5 ⟨s,rfl,kq,ex,aj⟩;exact⟨s,rfl,kq,ex,hk.step aj (aC _),aj⟩
   have i6:Hid (∀o:Obj,rdr (w2.alloc o).drew g q):=fun o=>(ko.alloc o).below ((aF _ _).drew)
   have K1:Hid (∀o:Obj,kept2 g w2.heap.size w2 (w2.alloc o).drew):=fun o=>by{have h:=(kept2.refl g w2.heap.size w2).allocO o;exact ZGL};have GC:Hid (∀o o':Obj,rdr ((w2.alloc o).alloc o').drew g q):=fun o o'=>((ko.alloc o).alloc o').below ((aF _ _).drew)
   have K2:Hid (∀o o':Obj,kept2 g w2.heap.size w2 ((w2.alloc o).alloc o').drew):=fun o o'=>by{have h:=((kept2.refl g w2.heap.size w2).allocO o).allocO o';exact ZGL};have KA:Hid (∀W (o:Obj),kept2 g w2.heap.size w2 W->kept2 g w2.heap.size w2 (W.alloc o)):=fun W o h=>h.allocO o
   have sh:Hid (∀W v,rdr W g (q+3)->kept2 g w2.heap.size w2 W->own 3 (g+1) W v ([0,4,5,6,7,2]:List Int)->Calls Tryz.prog 19 #[.pointer (P_ g),v] W fun e W'=>∃m:Nat,e=.returned (.int .i64 (m:Int))/\m<=7/\rdr W' g (q+4)/\kept2 g w2.heap.size w2 W'/\W.grownBy W' (some g)):=fun W v hr hk hv=>by
    refine(Zz 3 g (q+3) v [0,4,5,6,7,2] W hr ZA hv ZE).mono ?_;rintro e w5 ⟨z,hz,rfl,ex,aj⟩;have ap:0<=z/\z<=7:=by{simp at hz;omega};obtain⟨m,rfl⟩:=aK ap.1;exact⟨m,rfl,ZA,ex,hk.step aj (aC _),aj⟩
   have HP3:Hid (∀W,rdr W g (q+4)->kept2 g w2.heap.size w2 W->Calls Tryz.prog 22 #[.pointer (P_ g),.slice A0 ns.length c0] W fun e W'=>∃t:Y_,e=.returned (.string t)/\(t.size<=maxLen/\t∈ns)/\rdr W' g (q+5)/\kept2 g w2.heap.size w2 W'/\W.grownBy W' (some g)):=fun W hr hk=>by
    have hv:own 9 (g+1) W (.slice A0 ns.length c0) ns:=HVW.out.keepBlk fun j hj=>(hk.block j (by have:=(SJ.out j hj).2;have:=kr.size;omega) ZTt).trans (kr.block j (SJ.out j hj).2 ZTt)
    refine(Vn 9 g (q+4) _ ns W hr ZA hv hn).mono ?_;rintro e w5 ⟨t,GA,rfl,ht,ex,aj⟩;exact⟨t,rfl,⟨ht,GA⟩,ex,hk.step aj (aC _),aj⟩
   have sx:Hid (∀W:World,g<W.heap.size->own 3 (g+1) (W.alloc (aB #[aH aD 0,aH aD 4,aH aD 5,aH aD 6,aH aD 7,aH aD 2] 3)) (.slice (P_ W.heap.size) 6 6) ([0,4,5,6,7,2]:List Int)):=fun W h=>a_ 3 (g+1) W [0,4,5,6,7,2] Zg ZE ZA
   have GD:Hid (∀(W:World) (o:Obj),g<W.heap.size->own 3 (g+1) ((W.alloc o).alloc (aB #[aH aD 0,aH aD 4,aH aD 5,aH aD 6,aH aD 7,aH aD 2] 3)) (.slice (some ⟨W.heap.size+1,0,none⟩) 6 6) ([0,4,5,6,7,2]:List Int)):=fun W o h=>by
    have:=sx.out (W.alloc o) ZH
    rwa [show(W.alloc o).heap.size=W.heap.size+1 by simp]at this
   go_region_held3 (fun W=>kept2 g w2.heap.size w2 W) (first|exact K0.out|exact(K1.out _)|exact(K2.out _ _)|exact KA.out _ _ (KA.out _ _ k5)|exact k5|exact KA.out _ _ k5|exact k6|exact KA.out _ _ k6|exact k7|exact KA.out _ _ k7|exact(k7.set ⟨_,0,none⟩ (aC _) _).set ⟨_,1,none⟩ (aC _) _|exact(k7.set ⟨_,0,none⟩ (eL _) _).set ⟨_,1,none⟩ (eL _) _|exact(k7.set ⟨_,0,none⟩ (k5.size) _).set ⟨_,1,none⟩ (k5.size) _|exact(k7.set ⟨_,0,none⟩ (fK k5.size) _).set ⟨_,1,none⟩ (fK k5.size) _|exact(k7.set ⟨_,0,none⟩ (k6.size) _).set ⟨_,1,none⟩ (k6.size) _|fail) (first|(go_at_call 68;(with_reducible refine(lm.out _ HR0.out K0.out).mono ?_);refine' Sf)|(go_at_call 68;(with_reducible refine(lm.out _ (i6.out (aB #[aG ⟨#[]⟩,aG ⟨#[]⟩] 181)) (K1.out (aB #[aG ⟨#[]⟩,aG ⟨#[]⟩] 181))).mono ?_);refine' Sf;have KS:=dS aj (bC w2 (aB #[aG ⟨#[]⟩,aG ⟨#[]⟩] 181)) gd)|(go_at_call 68;(with_reducible refine(lm.out _ (i6.out (aB #[aH aD 0,aH aD 4,aH aD 5,aH aD 6,aH aD 7,aH aD 2] 3)) (K1.out (aB #[aH aD 0,aH aD 4,aH aD 5,aH aD 6,aH aD 7,aH aD 2] 3))).mono ?_);refine' Sf;have jn:own 3 (g+1) w5 (.slice (P_ w2.heap.size) 6 6) ([0,4,5,6,7,2]:List Int):=((sx.out w2 gd)).drew.grown aj (l_ ((sx.out w2 gd)) (dW g)))|(go_at_call 68;(with_reducible refine(lm.out _ (GC.out (aB #[aG ⟨#[]⟩,aG ⟨#[]⟩] 181) (aB #[aH aD 0,aH aD 4,aH aD 5,aH aD 6,aH aD 7,aH aD 2] 3)) (K2.out (aB #[aG ⟨#[]⟩,aG ⟨#[]⟩] 181) (aB #[aH aD 0,aH aD 4,aH aD 5,aH aD 6,aH aD 7,aH aD 2] 3))).mono ?_);refine' Sf;have KS:=dS aj (BdO w2 (aB #[aG ⟨#[]⟩,aG ⟨#[]⟩] 181) (aB #[aH aD 0,aH aD 4,aH aD 5,aH aD 6,aH aD 7,aH aD 2] 3)) gd;have jn:own 3 (g+1) w5 (.slice (some ⟨w2.heap.size+1,0,none⟩) 6 6) ([0,4,5,6,7,2]:List Int):=((GD.out w2 (aB #[aG ⟨#[]⟩,aG ⟨#[]⟩] 181) gd)).drew.grown aj (l_ ((GD.out w2 (aB #[aG ⟨#[]⟩,aG ⟨#[]⟩] 181) gd)) (dW g)))|(go_at_call 68;(with_reducible refine(lm.out _ (GC.out (aB #[aH aD 0,aH aD 4,aH aD 5,aH aD 6,aH aD 7,aH aD 2] 3) (aB #[aG ⟨#[]⟩,aG ⟨#[]⟩] 181)) (K2.out (aB #[aH aD 0,aH aD 4,aH aD 5,aH aD 6,aH aD 7,aH aD 2] 3) (aB #[aG ⟨#[]⟩,aG ⟨#[]⟩] 181))).mono ?_);refine' Sf;have KS:=dS aj (heap_alloc2_new w2 (aB #[aH aD 0,aH aD 4,aH aD 5,aH aD 6,aH aD 7,aH aD 2] 3) (aB #[aG ⟨#[]⟩,aG ⟨#[]⟩] 181)) ZA;have jn:own 3 (g+1) w5 (.slice (P_ w2.heap.size) 6 6) ([0,4,5,6,7,2]:List Int):=(((sx.out w2 gd).alloc (aB #[aG ⟨#[]⟩,aG ⟨#[]⟩] 181))).drew.grown aj (l_ (((sx.out w2 gd).alloc (aB #[aG ⟨#[]⟩,aG ⟨#[]⟩] 181))) (dW g)))|(refine' ZTu;have IR:=dS kI KS ZTv)|(refine' ZTw;have IR:=dS kI ((World.heap_past w5 (aB #[aH aD 0,aH aD 4,aH aD 5,aH aD 6,aH aD 7,aH aD 2] 3) KS)) ZTv)|(go_at_call 19;(with_reducible refine(sh.out _ _ (ex.alloc (aB #[aG ⟨#[]⟩,aG ⟨#[]⟩] 181)) (KA.out _ (aB #[aG ⟨#[]⟩,aG ⟨#[]⟩] 181) k5) (jn.alloc _)).mono ?_);refine' Pf;have IR:=dS kI (bC w5 (aB #[aG ⟨#[]⟩,aG ⟨#[]⟩] 181)) ex.lt)|(go_at_call 19;(with_reducible refine(sh.out _ _ ((ex.alloc (aB #[aG ⟨#[]⟩,aG ⟨#[]⟩] 181)).alloc (aB #[aH aD 0,aH aD 4,aH aD 5,aH aD 6,aH aD 7,aH aD 2] 3)) (KA.out _ (aB #[aH aD 0,aH aD 4,aH aD 5,aH aD 6,aH aD 7,aH aD 2] 3) (KA.out _ (aB #[aG ⟨#[]⟩,aG ⟨#[]⟩] 181) k5)) (GD.out w5 (aB #[aG ⟨#[]⟩,aG ⟨#[]⟩] 181) ex.lt)).mono ?_);refine' Pf;have IR:=dS kI (BdO w5 (aB #[aG ⟨#[]⟩,aG ⟨#[]⟩] 181) (aB #[aH aD 0,aH aD 4,aH aD 5,aH aD 6,aH aD 7,aH aD 2] 3)) ex.lt)|(go_at_call 19;(with_reducible refine(sh.out _ _ ((ex.alloc (aB #[aH aD 0,aH aD 4,aH aD 5,aH aD 6,aH aD 7,aH aD 2] 3)).alloc (aB #[aG ⟨#[]⟩,aG ⟨#[]⟩] 181)) (KA.out _ (aB #[aG ⟨#[]⟩,aG ⟨#[]⟩] 181) (KA.out _ (aB #[aH aD 0,aH aD 4,aH aD 5,aH aD 6,aH aD 7,aH aD 2] 3) k5)) ((sx.out w5 ex.lt).alloc _)).mono ?_);refine' Pf;have IR:=dS kI (heap_alloc2_new w5 (aB #[aH aD 0,aH aD 4,aH aD 5,aH aD 6,aH aD 7,aH aD 2] 3) (aB #[aG ⟨#[]⟩,aG ⟨#[]⟩] 181)) (by have:=ex.lt;omega))|(refine' ZTu)|(refine' ZTw)|(refine' ZTx;have CN:=dS ce IR (by first|exact gd|exact Nat.lt_succ_of_lt gd|exact ex.lt|exact Nat.lt_succ_of_lt ex.lt);obtain⟨c70,c71,f70,f71⟩:=BdX CN)|(go_at_call 22;(with_reducible refine(HP3.out _ (ks.alloc (aB #[aG ⟨#[]⟩,aG ⟨#[]⟩] 181)) (KA.out _ (aB #[aG ⟨#[]⟩,aG ⟨#[]⟩] 181) k6)).mono ?_);rintro e w7 ⟨t,rfl,ht,rZ,k7,ce⟩;have CN:=dS ce (bC w6 (aB #[aG ⟨#[]⟩,aG ⟨#[]⟩] 181)) ks.lt;obtain⟨c70,c71,f70,f71⟩:=BdX CN)|(refine' ZTx)|fail)
   all_goals
    first
    |(
     obtain⟨B,W,hB,hW,HM⟩:∃B W,B=_/\W=_/\midR 181 g (q+5) w2 (s.extract 0 m) t B W:=⟨_,_,rfl,rfl,BeQ rZ k7⟩
     rw[<-hW,<-hB])
    |(
     obtain⟨B,W,hB,hW,HM⟩:∃B W,B=_/\W=_/\midR 181 g (q+5) w2 (s.extract 0 m) t B W:=⟨_,_,rfl,rfl,Sz rZ gd k7 (aC _) CN⟩
     rw[<-hW,<-hB])
    |(
     obtain⟨B,W,hB,hW,HM⟩:∃B W,B=_/\W=_/\midR 181 g (q+5) w2 (s.extract 0 m) t B W:=⟨_,_,rfl,rfl,Sz (B:=w2.heap.size+1) rZ gd k7 (eL _) CN⟩
     rw[<-hW,<-hB])
    |(
     obtain⟨B,W,hB,hW,HM⟩:∃B W,B=_/\W=_/\midR 181 g (q+5) w2 (s.extract 0 m) t B W:=⟨_,_,rfl,rfl,Sz rZ gd k7 (k5.size) CN⟩
     rw[<-hW,<-hB])
    |(
     obtain⟨B,W,hB,hW,HM⟩:∃B W,B=_/\W=_/\midR 181 g (q+5) w2 (s.extract 0 m) t B W:=⟨_,_,rfl,rfl,Sz (B:=w5.heap.size+1) rZ gd k7 (fK k5.size) CN⟩
     rw[<-hW,<-hB])
    |(
     obtain⟨B,W,hB,hW,HM⟩:∃B W,B=_/\W=_/\midR 181 g (q+5) w2 (s.extract 0 m) t B W:=⟨_,_,rfl,rfl,Sz rZ gd k7 (k6.size) CN⟩
     rw[<-hW,<-hB])
   all_goals
    clear hW hB;obtain⟨hB,hrow,SL,k8⟩:=HM;obtain⟨e0,e1,_,_⟩:=BdX hrow;have cm:(s.extract 0 m).size<=maxLen:=by{rw[dB];have:=nQ.out.1;exact ZN};have d9:Hid (Fwd.ok ⟨s.extract 0 m,t⟩):=⟨cm,ht.1⟩;have se:own 181 w.heap.size W (.slice A rs.length c) rs:=ho.keepBlk fun j hj=>k8.block j (ho.blk j hj).2 (by have:=(ho.blk j hj).1;omega)
    have kW:kept2 g w.heap.size w W:=kr.trans ⟨k8.os,k8.tape,k8.output,k8.size,fun i hi ay=>k8.block i (by have:=kr.size;omega) ay⟩;have hsw:=kW.size;have HPX:=aA (nQ.out.pfx m);have HTM:=aA ht.2;generalize s.extract 0 m=sp at *
    refine' ZC;refine(AmP _ rs sp _ se.rd).mono ?_;refine' ZP;have qR:=aA (Bd2.snoc qp.out HPX.out HTM.out);generalize Gg rs sp=r at *;by_cases fi:r<0
    .replace qR:=aA (qR.out fi)
     go_wp2_with (at_builtin;refine Vk (α:=Fwd) rfl (.tmp 31) (.tmp 33) _ rfl w.heap.size 181 i0 _ 32 iO hi ah sr mN rfl ZE (.slice A rs.length c) rs ⟨sp,t⟩ rfl (se.alloc _) ⟨W.heap.size,0,none⟩ 1 (Fwd.cells ⟨sp,t⟩) rfl ⟨d9.out,rfl⟩ (Bz W _ (Fwd.cells ⟨sp,t⟩)) ZN ZA ZH ?_;intro v' w9 o9 gw _)
     obtain⟨yQ,k9⟩:=BdM SL kW (se.alloc _) gw ab;clear gw
     go_roundw
     case rel=>exact⟨k - 1,_,q+5,ZA,ZJ,by show _<=_;exact ZEx,qR.out,o9,yQ,ZA,k9⟩
     case measure=>exact ZK
    .refine' ZC;go_roundw
     case rel=>exact⟨k - 1,rs,q+5,ZA,ZJ,by show _<=_;exact Qz,qp.out,se,SL,ZA,kW⟩
     case measure=>exact ZK
  .refine' ZI;exact⟨_,rs,q,rfl,ho,kw,qp.out,ko,ZA,kept2.back (bK w (some g)) kr (aC _)⟩
section
variable{T1 T2 base G n c:Nat}{w w1:World}{net:List Ofc}{os:List OfV}
theorem isN.snoc{v u g m cap nm ys}(h:isN T1 T2 base w v net os)(ho:own T2 base w u ys)(hf:apart u v)(hfs:∀k (hk:k<os.length),apart u os[k].val)
 (hn:own T1 base w1 (.slice (P_ g) m cap) (os++[⟨nm,u⟩])) (hg:w.grownBy w1 v.ownBlock) (ha:some g=v.ownBlock\/g=w.heap.size):
 isN T1 T2 base w1 (.slice (P_ g) m cap) (net++[⟨nm,ys⟩]) (os++[⟨nm,u⟩]):=by
 refine' fQ;have TD:∀k (hk:k<(os++[(⟨nm,u⟩:OfV)]).length),apart (os++[(⟨nm,u⟩:OfV)])[k].val v:=fun k hk=>by
  by_cases lH:k<os.length
  .refine' ZEf;exact h5 k lH
  .refine' Wy;have:k - os.length=0:=zZ
   refine' ZEg;exact hf
 have ab:∀k (hk:k<(os++[(⟨nm,u⟩:OfV)]).length) j,(os++[(⟨nm,u⟩:OfV)])[k].val.ownBlock=some j->j<w.heap.size:=fun k hk j=>by
  by_cases lH:k<os.length
  .refine' ZEf;exact fun e=>((h3 k lH ZA).2.blk j e).2
  .refine' Wy;have:k - os.length=0:=zZ
   refine' ZEg;exact fun e=>(ho.blk j e).2
 refine⟨hn,by simp[h2],fun k hk gj=>?_,fun j k hj hk ay=>?_,fun k hk=>?_⟩
 .by_cases lH:k<os.length
  .refine' ZMa;exact⟨(h3 k lH ZA).1,(h3 k lH ZA).2.grown hg (h5 k lH)⟩
  .have e1:k - os.length=0:=zZ
   have e2:k - net.length=0:=ZA
   refine' ZHa;simp only[e1,e2,dE];exact⟨trivial,ho.grown hg hf⟩
 .by_cases xM:j<os.length
  .by_cases lH:k<os.length
   exact ZMb
   .have e1:k - os.length=0:=zZ
    refine' ZMc;exact Br (hfs j xM)
  .have e1:j - os.length=0:=Wx
   by_cases lH:k<os.length
   .refine' ZMd;exact hfs k lH
   .exfalso;simp at hj hk;omega
 .exact Br (Dg (Br (TD k hk)) ha fun j hj=>ab k hk j hj)
end
theorem kept2.mono{g b b' u w}(h:kept2 g b' u w)(hb:b<=b'):kept2 g b u w:=⟨h.os,h.tape,h.output,h.size,fun k hk ay=>h.block k ZA ay⟩
theorem BeW{α:Type}[El α]{w B b o c k}{xs:List α}(h:rd w B (.slice (some ⟨b,o,none⟩) xs.length c) xs)(hk:k<=xs.length):rd w B (.slice (some ⟨b,o,none⟩) k c) (xs.take k):=by obtain⟨A,n,c',hv,hn,hc,hm,hr⟩:=h;injection hv with e1 e2 e3;subst e1 e3;exact⟨_,_,_,rfl,zF,ZA,hm,hr.take k⟩
theorem isN.keepBlk{T1 T2 base:Nat}{w w' v net os}(h:isN T1 T2 base w v net os)(hk:∀k,base<=k->k<w.heap.size->w'.heap[k]? =w.heap[k]?):isN T1 T2 base w' v net os:=
 ⟨h.1.keepBlk fun k e=>hk k (h.1.blk k e).1 (h.1.blk k e).2,h.2.1,fun k a b=>⟨(h.2.2.1 k a b).1,(h.2.2.1 k a b).2.keepBlk fun j e=>hk j ((h.2.2.1 k a b).2.blk j e).1 ((h.2.2.1 k a b).2.blk j e).2⟩,h.2.2.2.1,h.2.2.2.2⟩
theorem isN.none_{T1 T2 base:Nat}{w v}(h:own (α:=OfV) T1 base w v []):isN T1 T2 base w v [] []:=
 ⟨h,rfl,fun k h=>absurd h (aX k),fun j _ h=>absurd h (aX j),fun k h=>absurd h (aX k)⟩
def BeE(T1 T2 g p:Nat)(w:World)(e:Ending)(w':World):Prop:=
 ∃(v:Value) (net:List Ofc) (os:List OfV) (p':Nat),e=.returned v/\isN T1 T2 w.heap.size w' v net os/\2<=net.length/\net.length<=4/\(∀k (h:k<net.length),net[k].rules.length<=6)/\Bd6 net.length net/\rdr w' g p'/\p'<=p+400/\w.grownBy w' (some g)
theorem BeR(g p w)(hr:rdr w g p)(hp:p<=10000000000):
 Calls Tryz.prog 65 #[.pointer (P_ g)] w (BeE 45 181 g p w):=by
 refine' ZSW;obtain⟨j0,ji,dr,du,dw⟩:=dD Tryz.infoOfc;obtain⟨s0,si,sz0,sz1,sz2⟩:=dD Tryz.infoStr;obtain⟨wN,JI⟩:∃u,u=w.alloc (aB #[.string ⟨#[97]⟩,.string ⟨#[98]⟩,.string ⟨#[99]⟩,.string ⟨#[100]⟩] 9):=⟨_,rfl⟩;have oN:own 9 w.heap.size wN (.slice (P_ w.heap.size) 4 4) ([⟨#[97]⟩,⟨#[98]⟩,⟨#[99]⟩,⟨#[100]⟩]:List Y_):=by rw[JI];exact X_ 9 w.heap.size w ([⟨#[97]⟩,⟨#[98]⟩,⟨#[99]⟩,⟨#[100]⟩]:List Y_) ZSX ZE (aC _)
 have rN:rdr wN g p:=by rw[JI];exact hr.alloc _
 have gN:w.grownBy wN (some g):=by rw[JI];exact cQ w _ _
 have hzN:wN.heap.size=w.heap.size+1:=by rw[JI];simp
 have HWN:=aA JI;clear JI;go_enter func65,ntmps65
 refine' ZC;rw[<-HWN.out];refine(p_ g p 3 _ rN ZA ZS).mono ?_;rintro e w1 ⟨y,rfl,hy,ew,ey⟩;refine' So;obtain⟨m,rfl⟩:=aK y0;have oN1:=oN.grown ey (l_ oN ab);have gw1:=vU gN ey;have ar:=ey.size;obtain⟨n,hn⟩:∃n:Nat,n=2+m:=⟨_,rfl⟩;have lK:2<=n/\n<=4:=ZA
 obtain⟨lK,wG⟩:=lK;have hws:aD.wrap ((2:Int)+(m:Int))=(n:Int):=Z8
 have hws2:(2:Int)+(m:Int)=(n:Int):=ZA
 have ou:=aA oN1;have HNC:Hid (∀W,kept2 g w1.heap.size w1 W->∀j (h:j<4),W.cell? ⟨w.heap.size,j,none⟩=some (.string (([⟨#[97]⟩,⟨#[98]⟩,⟨#[99]⟩,⟨#[100]⟩]:List Y_)[j]'h))):=fun W hW j h=>by obtain⟨A,n',c',hv,_,_,_,nU⟩:=oN1.rd;obtain⟨b,o,hA,hb,_,c1⟩:=nU.str j h;refine' V0;rw[bV]at c1;exact(hW.cell ⟨w.heap.size,j,none⟩ hb (by show w.heap.size≠g;omega)).trans c1
 have HNS:Hid (∀j (h:j<4),(([⟨#[97]⟩,⟨#[98]⟩,⟨#[99]⟩,⟨#[100]⟩]:List Y_)[j]'h).size<=maxLen):=fun j h=>by
  have hh:∀x∈([⟨#[97]⟩,⟨#[98]⟩,⟨#[99]⟩,⟨#[100]⟩]:List Y_),x.size<=maxLen:=ZSX
  exact hh _ (aS h)
 have wg:=ew.lt;have oE:=own.made0 (α:=OfV) w1 45 (aC _);have rE:=ew.alloc (aB #[] 45);have kE:kept2 g w1.heap.size w1 (w1.alloc (aB #[] 45)):=kept2.below ((aF _ _).alloc (aC _) _);have HE:=aA oE;have HGW:=aA gw1;clear oN oN1 rN gN hy ey oE gw1 hn
 refine' ZC;go_loopw[4,5] (fun t i wr=>∃(k:Nat) (net:List Ofc) (os:List OfV) (q:Nat),k<=n/\i=.int .i64 k/\Hid (net.length=k)/\Hid (isN 45 181 w1.heap.size wr t net os)/\Hid (Bd6 n net)/\rdr wr g q/\q<=p+1+50*k/\kept2 g w1.heap.size w1 wr) (fun _ i _=>n - (intOf i).toNat)
 case atStart=>exact⟨0,[],[],p+1,ZA,rfl,rfl,isN.none_ HE.out,Bd6.nil _,rE,ZA,kE⟩
 case round=>
  obtain⟨k,net,os,q,hk,rfl,HL,HN,EN,ko,xl,kr⟩:=hrel;clear rE kE;obtain⟨A,mm,c,CL,qK,_,_,_⟩:=HN.out.1.rd;subst qK CL;have JJ:os.length<=4:=by have:=HN.out.2.1.trans HL.out;omega
  have RS:=kr.size;have qA:=ko.lt;by_cases dz:k<n
  .have bd:(k:Int)<(n:Int):=ZA
   refine' zQ;have pF:=HNS.out k ZA;have FY:Hid (∀W,kept2 g w1.heap.size w1 W->W.cell? ⟨w.heap.size,k,none⟩=some (.string (([⟨#[97]⟩,⟨#[98]⟩,⟨#[99]⟩,⟨#[100]⟩]:List Y_)[k]' ZGC))):=fun W h=>HNC.out W h k ZA
   have rT:Hid ((([⟨#[97]⟩,⟨#[98]⟩,⟨#[99]⟩,⟨#[100]⟩]:List Y_)[k]' ZGC)=St[k]?.getD ⟨#[]⟩):=by{show _=_;rw[aR (show k<St.length from ZGC)];rfl};generalize(([⟨#[97]⟩,⟨#[98]⟩,⟨#[99]⟩,⟨#[100]⟩]:List Y_)[k]' ZGC)=nm at *;have xn:=aA pF;clear pF;have o2:own 9 wr.heap.size (wr.alloc (aB #[.string ⟨#[104,101,114,101]⟩,.string ⟨#[104,101,114,101]⟩] 9)) (.slice (P_ wr.heap.size) 2 2) ([⟨#[104,101,114,101]⟩,⟨#[104,101,114,101]⟩]:List Y_):=X_ 9 wr.heap.size wr ([⟨#[104,101,114,101]⟩,⟨#[104,101,114,101]⟩]:List Y_) (by intro x hx;simp at hx;subst hx;decide) ZE (aC _);have im:=aA o2;clear o2;have HNRr:Hid (rd (wr.alloc (aB #[.string ⟨#[104,101,114,101]⟩,.string ⟨#[104,101,114,101]⟩] 9)) (wr.alloc (aB #[.string ⟨#[104,101,114,101]⟩,.string ⟨#[104,101,114,101]⟩] 9)).heap.size (.slice (P_ w.heap.size) n 4) (([⟨#[97]⟩,⟨#[98]⟩,⟨#[99]⟩,⟨#[100]⟩]:List Y_).take n)):=BeW ((ou.out.keepBlk fun j hj=>kr.block j (ou.out.blk j hj).2 (by have:=(ou.out.blk j hj).1;omega)).alloc _).rd wG
   go_wp2_with (at_builtin;refine Cu (α:=Y_) rfl (.tmp 20) (.tmp 21) _ rfl wr.heap.size 9 s0 _ 16 aW si sz0 sz1 sz2 rfl ZE (.slice (P_ wr.heap.size) 2 2) ([⟨#[104,101,114,101]⟩,⟨#[104,101,114,101]⟩]:List Y_) rfl im.out (.slice (P_ w.heap.size) n 4) (([⟨#[97]⟩,⟨#[98]⟩,⟨#[99]⟩,⟨#[100]⟩]:List Y_).take n) rfl _ HNRr.out V5 ZH ZF ?_;intro v3 w3 o3 g3 _)
   have c3:kept2 g wr.heap.size wr w3:=kept2.below (((aF _ _).alloc (aC _) _).trans (Ay im.out g3 ZF));have fy:rdr w3 g q:=(ko.alloc _).append im.out g3 qA;have mQ:=c3.size;have xo:Hid (0<(([⟨#[104,101,114,101]⟩,⟨#[104,101,114,101]⟩]:List Y_)++([⟨#[97]⟩,⟨#[98]⟩,⟨#[99]⟩,⟨#[100]⟩]:List Y_).take n).length):=by{show 0<_;simp};have ez:=aA (o3.base_ (show g+1<=wr.heap.size by omega));clear g3 o3;have FZ:Hid (([⟨#[104,101,114,101]⟩,⟨#[104,101,114,101]⟩]:List Y_)++([⟨#[97]⟩,⟨#[98]⟩,⟨#[99]⟩,⟨#[100]⟩]:List Y_).take n=Su n):=rfl;generalize([⟨#[104,101,114,101]⟩,⟨#[104,101,114,101]⟩]:List Y_)++([⟨#[97]⟩,⟨#[98]⟩,⟨#[99]⟩,⟨#[100]⟩]:List Y_).take n=nx at *
   refine(BeB g q _ nx _ fy ZA ez.out xo.out).mono ?_;rintro e w4 ⟨v4,rs,q4,rfl,o4,sD,hdr,ik,hq4,a6⟩;have qp:=aA hdr;clear hdr;have c4:=c3.step a6 (aC _);have hz34:=a6.size;have jx:=aA (ez.out.grown a6 (l_ ez.out (dW g)));obtain⟨A4,n4,wT,t8,wG,_,_,_⟩:=o4.rd;subst wG t8;clear c3 fy a6
   refine' ZC;refine(p_ g q4 3 _ ik ZA ZS).mono ?_;rintro e w5 ⟨y,rfl,hy,ex,aj⟩;refine' So;have c5:=c4.step aj (aC _);have hz45:=aj.size;have o5:=o4.grown aj (l_ o4 ZA);have iu:=aA (jx.out.grown aj (l_ jx.out (dW g)));clear hy c4 o4 ik aj;by_cases te:0<y
   .refine' ZC;refine(AmP _ rs ⟨#[]⟩ _ o5.rd).mono ?_;refine' ZP;have qR:=aA (fun t=>Bd2.snoc (s:=⟨#[]⟩) (t:=t) qp.out ZE);generalize Gg rs ⟨#[]⟩=r at *;by_cases fi:r<0
    .replace qR:=aA (fun t ht=>qR.out t ht fi)
     refine' ZC;refine(Vn 9 g (q4+1) _ nx _ ex ZA iu.out xo.out).mono ?_;rintro e w6 ⟨t,GA,rfl,ht,ks,kI⟩;have wU:Hid (Bd2 (Su n) (rs++[(⟨⟨#[]⟩,t⟩:Fwd)])):=by{have:=qR.out t GA;rw[FZ.out]at this;exact this};clear GA;have c6:=c5.step kI (aC _);have o6:=o5.grown kI (l_ o5 ZA);have tk:=c6.size;have hz56:=kI.size;have d9:Hid (Fwd.ok ⟨⟨#[]⟩,t⟩):=⟨by show 0<=maxLen;decide,ht⟩;clear c5 o5 ex kI
     go_wp2_with (first|(at_builtin;refine Vk (α:=Fwd) rfl (.tmp 34) (.tmp 39) _ rfl w3.heap.size 181 i0 _ 32 iO hi ah sr mN rfl ZE (.slice A4 rs.length wT) rs ⟨⟨#[]⟩,t⟩ rfl (o6.alloc _) ⟨w6.heap.size,0,none⟩ 1 (Fwd.cells ⟨⟨#[]⟩,t⟩) rfl ⟨d9.out,rfl⟩ (Bz w6 _ (Fwd.cells ⟨⟨#[]⟩,t⟩)) ZN ZA ZH ?_;refine' Z_;have rZ:rdr w7 g (q4+1+1):=(ks.alloc _).append (o6.alloc _) ce ZA;have c7:kept2 g wr.heap.size wr w7:=(c6.trans (kept2.below ((aF _ _).alloc tk _))).trans ((kept2.below (Ay (o6.alloc _) ce ZH)).mono mQ);have kW:=kr.trans (c7.mono RS);have SI:=FY.out w7 kW;obtain⟨A8,m8,c8,rfl,XL,_,_,_⟩:=o7.rd;clear XL;have HU:=aA o7;have tA:=aA (HN.out.keepBlk (w':=w7) fun j h1 h2=>c7.block j h2 ZA);have pF:=xn.out;have wV:=kW.size;have CM:Hid (∀j,(Value.slice A8 m8 c8).ownBlock=some j->wr.heap.size<=j):=(fun j hj=>ZSY))|(at_builtin;go_loud (refine An (α:=OfV) rfl (.tmp 41) (.tmp 48) 34 rfl w1.heap.size 45 j0 _ 40 iN ji dr du dw rfl ZE (.slice A os.length c) os ⟨nm,.slice A8 m8 c8⟩ rfl (tA.out.1.alloc _) ⟨w7.heap.size,0,none⟩ 1 [.string nm,.slice A8 m8 c8] rfl ⟨rfl,pF,rfl⟩ (Bz w7 _ [.string nm,.slice A8 m8 c8]) ZN ZA ZH ?_;intro gO cap w9 o9 gw yJ WN)))
     have qg:Hid ((rs++[(⟨⟨#[]⟩,t⟩:Fwd)]).length<=6):=by{show _<=_;first|omega|(exact ZH)};have OI:B_ w7 (w7.alloc (aB #[.string nm,.slice A8 m8 c8] 45)):=(aF _ _).alloc (aC _) _;refine' ZSZ;have r9:rdr w9 g (q4+1+1):=(rZ.alloc _).append (tA.out.1.alloc _) gw ZA;refine' ZSa;go_roundw
     case rel=> exact⟨k+1,_,_,(q4+1+1),ZA,ZJ,ZSb,OL.out,Bd6.snoc EN.out (by rw[HL.out];exact rT.out) wU.out qg.out,r9,ZA,k9⟩
     case measure=>exact ZK
    .exact ZSc
   .exact ZSc
  .have HKN:=aA (show k=n by omega)
   refine' ZI;refine⟨_,net,os,q,rfl,HN.out.base_ ZA,by rw[HL.out];have:=HKN.out;omega,by rw[HL.out];omega,fun j hj=>(EN.out j hj).2.2,by rw[HL.out,HKN.out];exact EN.out,ko,ZA,kept2.back HGW.out kr ZA⟩
def AgH(s:Y_):List UInt8:=s.data.toList
theorem AkQ{net}(h:Di net=true){c}:∀(f:Nat) (p:List Nat) (i:Nat),Uj net f p i->0<=(Fc net c f p i).2/\(Fc net c f p i).2<=2
 |0,p,i,ho=>ZSd
 |f+1,p,i,ho=>by
  unfold Fc;by_cases hm:i∈p
  .rw[aQ hm];exact⟨ZF,ZF⟩
  rw[aM hm]
  split
  .exact⟨ZF,ZF⟩
  .split
   .exact⟨ZF,ZF⟩
   .rename_i h1 h2
    obtain⟨j,hj,e,_⟩:=AsP h ho.2.2.1 h1 h2;rw[e,bE];exact AkQ h (c:=c) f (p++[i]) j (ZDE ho hm hj)
def Na(net:List Ofc)(s c:Y_):Bool:=Di net&&decide (0<=Gq net s)&&Ap c
def Cs(net:List Ofc)(s c:Y_):List Nat×Int:=if Na net s c=true then Ht net c (Gq net s).toNat else([],3)
theorem AaH{net s c}(h:Na net s c=false):Cs net s c=([],3):=by unfold Cs;rw[h];rfl
theorem Ab0{net s c}{q:Nat}(h:Di net=true)(hq:Gq net s=q)(hc:Ap c=true):Cs net s c=Ht net c q:=by unfold Cs Na;rw[h,hq,hc,aL ZA,bE];rfl
theorem ZCe(v net s c w)(hv:R_ w v net)(jw:c.size<=maxLen):
 Calls Tryz.prog 242 #[v,.string s,.string c] w fun e w'=>∃v',e=.returned (.tuple #[v',.int .i64 (Cs net s c).2])/\own 9 w.heap.size w' v' ((Cs net s c).1.map (Bw net))/\B_ w w':=by
 refine' zR;obtain⟨A,n0,c0,rfl,gx,wI,tV,fi⟩:=hv;subst gx;unfold maxLen at tV;have HR:=aA fi;clear fi;refine' zk;refine' zc;have ca:Hid (Na net s c=false->Cs net s c=([],3)):=fun h=>AaH h
 have HQ:Hid (Na net s c=(Di net&&decide (0<=Gq net s)&&Ap c)):=rfl;refine' ZJo;rw[hr]at HQ;have ak:=aA hr;clear hr;go_enter func242,ntmps242
 refine' ZC;refine(Hx _ net s _ (HV.out.on l0)).mono ?_;rw[ak.out];rintro e w1 ⟨rfl,b⟩;have l1:=Aa l0 b;clear b
 refine' ZC;refine(Js _ net _ (HV.out.on l1)).mono ?_;rintro e w2 ⟨rfl,b⟩;have l2:=Aa l1 b;clear b;cases h1:Di net
 .have HF:=aA (ca.out (by rw[HQ.out,h1];rfl))
  clear h1
  exact ZJp
 refine' zS;by_cases fi:r<0
 .have HF:=aA (ca.out (by rw[HQ.out,aP ZA];simp))
  exact ZJp
 refine' ZGD;clear pW fi
 refine' ZC;refine(Cw c _ jw).mono ?_;refine' Zb;cases h2:Ap c
 .have HF:=aA (ca.out (by rw[HQ.out,h2];simp))
  clear h2
  exact ZJp
 have HF:=aA (Ab0 H1.out ak.out h2);clear h2
 refine' ZC;refine(ZCd _ net q c _ (HV.out.on l2) H1.out lS jw).mono ?_;have bp:=AbM H1.out (c:=c) (net.length+1) [] q (Ml lS);have LS:=(D1.1 H1.out).1;have cj:Ht net c q=Fc net c (net.length+1) [] q:=rfl;rw[<-cj]at bp;clear cj;obtain⟨tE,PX,CX⟩:=bp;have rj:=aA CX;clear CX;generalize Ht net c q=R at *;simp only[cT]at tE;rintro e w5 ⟨v5,rfl,o5,b5⟩;have l5:=Aa l2 b5;clear b5 l2;rcases o5.form with⟨_,h0⟩|⟨g5,c5,rfl,aj,vV,QG,BE⟩
 .have:=aU List.length h0
  rw[Jm]at this;simp at this;rw[this]at tE;simp at tE
 rw[Jm]at *;have IZ:=aA (AnT o5);clear o5;unfold maxLen at BE;have hlR:R.1.length<=9:=ZA
 obtain⟨z,hz⟩:∃z,R.1.length=z:=⟨_,rfl⟩;have fo:=Ed (P:=Tryz.prog) 28 9 i0 _ aW hi ah z zi ZA;have HZ:=aA hz;rw[hz]at tE PX hlR QG⊢;clear hz
 refine' ZC;have lk:Ck 9 (w5.alloc (aB (bF #[.string ⟨#[]⟩] z) 9)) w5.heap.size z 0 (R.1.map (Bw net)):=Ck.made w5 _ _ _ iG _;have br:B_ w5 (w5.alloc (aB (bF #[.string ⟨#[]⟩] z) 9)):=(aF _ _).alloc (aC _) _;generalize w5.alloc (aB (bF #[.string ⟨#[]⟩] z) 9)=w0 at *;clear fo;have DF:=l5.size
 go_loopw[41] (fun i wr=>∃k:Nat,k<=z/\i=.int .i64 k/\B_ w5 wr/\Ck 9 wr w5.heap.size z k (R.1.map (Bw net))) (fun i _=>z - (intOf i).toNat)
 case atStart=>exact Y7
 case round=>
  obtain⟨k,hk,rfl,av,hf⟩:=hrel;obtain⟨w6,rfl⟩:∃w6:World,w6=wr:=⟨_,rfl⟩;clear lk br;by_cases ab:k<z
  .have Ty:k<R.1.length:=by rw[HZ.out];exact ab
   have JM:=rj.out R.1[k] (aS Ty);have cP:=IZ.out k (by rw[Jm];exact Ty) w6 av;rw[show(S8 R.1)[k]'(by rw[Jm];exact Ty)=((R.1[k]:Nat):Int) by simp[S8]]at cP;have mY:(R.1.map (Bw net))[k]'(by simpa using Ty)=Bw net R.1[k]:=ZF
   refine' ZSe;obtain⟨bo,oo,A',c',rfl,CT,pF,_,c1,_⟩:=HR.out.ofcU R.1[k] JM;have c1:=c1 w6 (Aa l5 av);have fx:=aA (fun(W:World) (hF:Ck 9 W w5.heap.size z k (R.1.map (Bw net)))=>hF.step za Za (ecs:=[.string net[R.1[k]].name]) (by rw[mY,Kl JM];exact⟨pF,rfl⟩));clear mY;generalize net[R.1[k]].name=x at *;generalize R.1[k]=j at *;obtain⟨u0,g0⟩:=hf.cell (j:=k) (by show _<_*1;omega);have f0:=hf.free k;have oq:=aA hf;clear hf;have ly:(j:Int)<(net.length:Int):=ZA
   refine' ZGE;go_wp2
   go_roundw
   case rel=> have:=fx.out w6 oq.out;rw[show k*El.size Y_=k from eF k]at this;exact⟨k+1,ZA,ZJ,av.trans (I6 [.string x] w6 k _ (aC _)),this⟩
   case measure=>exact ZK
  .have HE:=aA (show k=z by omega)
   have oq:=aA hf;clear hf;refine' ZSe;go_wp2;go_ret2;rw[HF.out];exact⟨_,rfl,((HE.out▸oq.out:Ck _ _ _ _ z _).own cn.out.symm (aC _) ZN).base_ DF,Aa l5 av⟩
def Qn(n:Int)(x:Ltr):Int:=(31*n+x.id)%9973
def Yx(n:Int)(x:Ltr):Int:=(n+x.id*x.id)%9973
def m_(xs:List Ltr):Int:=xs.foldl Qn 0
def sL(xs:List Ltr):Int:=xs.foldl Yx 0
theorem ZBy{α β:Type}(f:β->α->β)(b:β)(xs:List α)(k)(h:k<xs.length):(xs.take (k+1)).foldl f b=f ((xs.take k).foldl f b) xs[k]:=ZEt
theorem AlN{xs}(h:z_ xs=true)(k)(hk:k<xs.length):1<=xs[k].id/\xs[k].id<=9999:=by have:=(Ep.1 h).2 k hk;exact⟨this.1,this.2.1⟩
theorem Aq9{a:Int}(h1:1<=a)(h2:a<=9999):0<=a*a/\a*a<=99980001:=
 ⟨Int.mul_nonneg ZA ZA,by have:=Int.mul_le_mul h2 h2 ZA ZA;omega⟩
def Gy(b:Bool)(n:Int):Int:=if b then n else -1
theorem AgW(v xs w)(hv:R_ w v xs):
 C_ 122 #[v] w (.int .i64 (Gy (z_ xs) (m_ xs))):=by
 refine' ZF4;go_enter func122,ntmps122
 refine' ZC;refine(Cn _ _ _ fg).mono ?_;refine' ZF5
 .refine' gL;go_wp2
  go_loopw[3,11] (fun t i wr=>∃(k:Nat) (m:Int),k<=xs.length/\i=.int .i64 k/\t=.int .i64 m/\0<=m/\m<9973/\Hid (m=(xs.take k).foldl Qn 0)/\B_ w wr) (fun _ i _=>xs.length - (intOf i).toNat)
  case atStart=>exact ZF6
  case round=>
   refine' ZF7;by_cases ab:k<xs.length
   .refine' ZJi;have HS:=aA (ZBy Qn 0 xs k ab);refine' zu;refine' ZEa;go_wp2
    go_roundw
    case rel=>exact⟨k+1,(31*m+x.id)%9973,ZA,ZJ,rfl,ZA,ZA,ZJj,av.alloc tZ _⟩
    case measure=>exact ZK
   exact ZF8
theorem AqE(v xs w)(hv:R_ w v xs):
 C_ 121 #[v] w (.int .i64 (Gy (z_ xs) (sL xs))):=by
 refine' ZF4;go_enter func121,ntmps121
 refine' ZC;refine(Cn _ _ _ fg).mono ?_;refine' ZF5
 .refine' gL;go_wp2
  go_loopw[3,11] (fun t i wr=>∃(k:Nat) (m:Int),k<=xs.length/\i=.int .i64 k/\t=.int .i64 m/\0<=m/\m<9973/\Hid (m=(xs.take k).foldl Yx 0)/\B_ w wr) (fun _ i _=>xs.length - (intOf i).toNat)
  case atStart=>exact ZF6
  case round=>
   refine' ZF7;by_cases ab:k<xs.length
   .refine' ZSF;refine' ZEa;go_wp2
    go_roundw
    case rel=>exact⟨k+1,(m+x.id*x.id)%9973,ZA,ZJ,rfl,ZA,ZA,ZJj,av.alloc tZ _⟩
    case measure=>exact ZK
   exact ZF8
theorem AfJ(v xs w)(hv:R_ w v xs):
 C_ 40 #[v] w (.int .i64 (Gy (z_ xs) (m_ xs))):=by
 refine' ZF4;go_enter func40,ntmps40
 refine' ZC;refine(C6 _ _ _ fg).mono ?_;refine' ZF5
 .refine' gL;go_wp2
  go_loopw[3,4] (fun t i wr=>∃(k:Nat) (m:Int),k<=xs.length/\i=.int .i64 k/\t=.int .i64 m/\0<=m/\m<9973/\Hid (m=(xs.take k).foldl Qn 0)/\B_ w wr) (fun _ i _=>xs.length - (intOf i).toNat)
  case atStart=>exact ZF6
  case round=>
   refine' ZF7;by_cases ab:k<xs.length
   .refine' ZJi;have HS:=aA (ZBy Qn 0 xs k ab);refine' zu;refine' ZF9;go_wp2
    go_roundw
    case rel=>exact⟨k+1,(m*31+x.id)%9973,ZA,ZJ,rfl,ZA,ZA,by show _=_;rw[HS.out,<-HM.out];unfold Qn;omega,av⟩
    case measure=>exact ZK
   exact ZF8
theorem ApI(v xs w)(hv:R_ w v xs):
 C_ 39 #[v] w (.int .i64 (Gy (z_ xs) (sL xs))):=by
 refine' ZF4;go_enter func39,ntmps39
 refine' ZC;refine(C6 _ _ _ fg).mono ?_;refine' ZF5
 .refine' gL;go_wp2
  go_loopw[3,4] (fun t i wr=>∃(k:Nat) (m:Int),k<=xs.length/\i=.int .i64 k/\t=.int .i64 m/\0<=m/\m<9973/\Hid (m=(xs.take k).foldl Yx 0)/\B_ w wr) (fun _ i _=>xs.length - (intOf i).toNat)
  case atStart=>exact ZF6
  case round=>
   refine' ZF7;by_cases ab:k<xs.length
   .refine' ZSF;refine' ZF9;have FQ:(k:Int)<(xs.length:Int):=ZA
    have GP:aD.wrap (x.id*x.id)=x.id*x.id:=bG _ ZA;have sq:aD.wrap (m+x.id*x.id)=m+x.id*x.id:=bG _ ZA;have hw3:(m+x.id*x.id).tmod 9973=(m+x.id*x.id)%9973:=ZBh ZA;have hw4:aD.wrap ((m+x.id*x.id)%9973)=(m+x.id*x.id)%9973:=bG _ ZA;refine' z6;go_wp2
    go_roundw
    case rel=>exact⟨k+1,(m+x.id*x.id)%9973,ZA,ZJ,rfl,ZA,ZA,ZJj,Ba av _⟩
    case measure=>exact ZK
   exact ZF8
def BbL(k:Nat):List Ltr->Nat->List Ltr
 |[],_=>[]
 |x::xs,0=>x::BbL k xs k
 |_::xs,n+1=>BbL k xs n
theorem Ar6{T base g n c:Nat}{w}{xs:List Ltr}(h:own T base w (.slice (P_ g) n c) xs){k}(hk:k<xs.length)(y)(hy:y.ok):
 own T base ((w.setCell ⟨g,k*2,none⟩ (.int .i64 y.id)).setCell ⟨g,k*2+1,none⟩ (.string y.code)) (.slice (P_ g) n c) (xs.set k y):=by
 have h1:=h.setCell (k:=k) (j:=0) hk ZE (.int .i64 y.id) ⟨y.id,xs[k].code⟩ (fun ecs he=>ZSR)
 have h2:=h1.setCell (k:=k) (j:=1) zP ZE (.string y.code) y (fun ecs he=>by obtain⟨_,rfl⟩:=he;refine⟨hy,?_⟩;simp[Ltr.cells])
 rw[List.set_set]at h2;exact h2
theorem AuS{net s c}(h:Di net=false\/Gq net s<0\/Ap c=false):Cs net s c=([],3):=by
 refine AaH ?_;unfold Na;rcases h with h|h|h
 .rw[h];rfl
 .exact Q5
 .rw[h];simp
theorem As5{v a b}(h:b=a):Ending.returned (.tuple #[v,.int .i64 a])=.returned (.tuple #[v,.int .i64 b]):=eO
theorem Ap3(v net s c w)(hv:R_ w v net)(jw:c.size<=maxLen):
 Calls Tryz.prog 188 #[v,.string s,.string c] w fun e w'=>∃v',e=.returned (.tuple #[v',.int .i64 (Cs net s c).2])/\own 9 w.heap.size w' v' ((Cs net s c).1.map (Bw net))/\B_ w w':=by
 refine' zR;clear hv;refine' zk;refine' ZJo;have ny:=aA (fun h=>AuS (net:=net) (s:=s) (c:=c) h);rw[hr]at ny;have ak:=aA hr;clear hr;refine' ZJv;have lL:=aA j6;clear j6;obtain⟨P,hP⟩:∃P,Cs net s c=P:=⟨_,rfl⟩;have HP:=aA hP;rw[hP];clear hP;go_enter func188,ntmps188
 refine' ZJw;refine' zq;cases h1:Di net
 .have HF:Hid (P=([],3)):=by show _=_;rw[<-HP.out];exact ny.out (.inl h1)
  clear h1
  exact ZLu
 refine' zp;refine(H7 _ net s _ HV.out).mono ?_;rw[ak.out];refine' ZZ;by_cases fi:r<0
 .have HF:Hid (P=([],3)):=by show _=_;rw[<-HP.out];exact ny.out (.inr (.inl fi))
  exact ZLu
 refine' ZC;refine(Cm c _ jw).mono ?_;refine' Zb;cases h2:Ap c
 .have HF:Hid (P=([],3)):=by show _=_;rw[<-HP.out];exact ny.out (.inr (.inr h2))
  clear h2
  exact ZLu
 refine' zN;refine' ZGD;have xV:Hid (Bw net q=s):=by show _=_;rw[Kl lS,pW]
 have HF:Hid (P=Ht net c q):=by show _=_;rw[<-HP.out];exact Ab0 H1.out ak.out H2.out
 clear pW fi
 refine' ZC;refine(AcX _ net q s c _ HV.out H1.out lS xV.out jw).mono ?_;rw[<-HF.out];refine' fM;have ez:=aA o3;clear o3;obtain⟨A3,n3,c3,rfl, -, -, -, -⟩:=ez.out.rd
 refine' ZQ;exact⟨_,rfl,ez.out,b3⟩
end Go.Proofs.YtfadhdacjpmmeaaGreatDoor
