/- Parts. -/
import Derived.Test.YtfadhdacjpmmeaaGreatDoorU7
set_option linter.unusedVariables false
set_option linter.unusedSimpArgs false
set_option maxRecDepth 100000
set_option maxHeartbeats 16000000
open Go.Proofs.Tryz
open Go renaming madeCells->bF
open Go.IntKind renaming i64->aD
open Go.Obj renaming cells->aB
open Go.Value renaming string->aG,int->aH
namespace Go.Proofs.YtfadhdacjpmmeaaGreatDoor
open Go.RowKit
def o_{α:Type}(p:α->Bool)(xs:List α):Int:=if xs.findIdx p<xs.length then(xs.findIdx p:Int)else -1
theorem Sk{α:Type}{p:α->Bool}{xs}{k:Nat}(h:k<xs.length)(h1:∀j (hj:j<xs.length),j<k->p xs[j]=false)(h2:p xs[k]=true):o_ p xs=k:=by have e:xs.findIdx p=k:=(List.findIdx_eq h).2 ⟨h2,fun j hj=>by simpa using h1 j ZA hj⟩;unfold o_;rw[e,aQ h]
theorem Pk{α:Type}{p:α->Bool}{xs}(h:∀j (hj:j<xs.length),p xs[j]=false):o_ p xs= -1:=by
 have e:xs.findIdx p=xs.length:=List.findIdx_eq_length.2 fun x hx=>ZIL
 unfold o_;rw[e,aM ZA]
theorem AbC{α:Type}(p:α->Bool)(xs): -1<=o_ p xs/\o_ p xs<xs.length:=by unfold o_;split<;>omega
theorem AeP{α:Type}{p:α->Bool}{xs}{k:Nat}(h:o_ p xs=k):∃hk:k<xs.length,p xs[k]=true/\∀j (hj:j<xs.length),j<k->p xs[j]=false:=by
 unfold o_ at h
 split at h
 .rename_i ab
  have e:xs.findIdx p=k:=ZA
  subst e;exact⟨ab,by simpa using List.findIdx_getElem (w:=ab),fun j hj dx=>by simpa using List.not_of_lt_findIdx dx⟩
 .omega
theorem BaW{α:Type}{p:α->Bool}{xs}(h:o_ p xs<0):∀x∈xs,p x=false:=by
 unfold o_ at h
 split at h
 .omega
 .rename_i ab
  intro x hx;cases hp:p x
  .rfl
  .exact absurd (List.findIdx_lt_length_of_exists ⟨x,hx,hp⟩) ab
theorem ArO{α:Type}(p:α->Bool)(xs):decide (0<=o_ p xs)= !xs.all (fun y=> !p y):=by
 by_cases h:o_ p xs<0
 .rw[aP ZA,List.all_eq_true.2 (fun x hx=>by rw[BaW h x hx];rfl)];rfl
 .replace h:0<=o_ p xs:=ZA
  obtain⟨k,hk⟩:=aK h;obtain⟨h1,h2,_⟩:=AeP hk;rw[aL h,List.all_eq_false.2 ⟨xs[k],aS _,by simp[h2]⟩];rfl
theorem An4{α:Type}{p:α->Bool}{xs}{k:Nat}(h:k<xs.length)(hp:p xs[k]=true):(o_ p xs==(k:Int))=(xs.take k).all (fun y=> !p y):=by
 by_cases ha:(xs.take k).all (fun y=> !p y)=true
 .rw[ha,dI]
  refine Sk h (fun j hj dx=>?_) hp;have:=List.all_eq_true.1 ha xs[j] V3;exact zV
 .rw[fC]at ha
  rw[ha,Bd3];intro e;obtain⟨_,_,h3⟩:=AeP e;obtain⟨x,hx,uU⟩:=List.all_eq_false.1 ha;rw[eB]at hx;obtain⟨j,hj,rfl⟩:=hx;rw[h3 j ZA ZA]at uU;simp at uU
def Gg(fs:List Fwd)(c:Y_):Int:=o_ (fun x=>zU x.src c) fs
def Vt(fs:List Fwd)(c:Y_):Y_:=((fs[(Gg fs c).toNat]?).map Fwd.dst).getD ⟨#[]⟩
def Gb(fs:List Fwd):Nat->Y_->Nat->Y_×Nat×Bool
 |0,_,_=>(⟨#[]⟩,0,false)
 |f+1,c,n=>if Gg fs c<0 then(c,n,true)else Gb fs f (Vt fs c) (n+1)
def Bc(fs:List Fwd)(c:Y_):Y_×Nat×Bool:=Gb fs (fs.length+1) c 0
theorem Ah6{fs c}{k:Nat}(h:Gg fs c=k)(hk:k<fs.length):Vt fs c=fs[k].dst:=by unfold Vt;rw[h,bE,aR hk];rfl
theorem ZCs{fs}(hf:∀x∈fs,x.dst.size<=maxLen):∀(f:Nat) (c:Y_) (n:Nat),c.size<=maxLen->(Gb fs f c n).1.size<=maxLen/\(Gb fs f c n).2.1<=n+f
 |0,c,n,_=>⟨aN _,aN _⟩
 |f+1,c,n,hc=>by
  unfold Gb
  split
  .exact⟨hc,ZF⟩
  .have h:=ZCs hf f (Vt fs c) (n+1) ZPF
   exact⟨h.1,ZA⟩
def Xk(fs:List Fwd)(k:Nat):Bool:=
 match fs[k]? with
 |none=>false
 |some x=>Ap x.src&&Ap x.dst&&(fs.take k).all (fun y=> !zU y.src x.src)
def Be(fs:List Fwd):Bool:=decide (fs.length<=30)&&(List.range fs.length).all (Xk fs)
theorem ZBq{fs k}(hk:k<fs.length):Xk fs k=(Ap fs[k].src&&Ap fs[k].dst&&(fs.take k).all (fun y=> !zU y.src fs[k].src)):=by unfold Xk;exact Uv
theorem AhG{fs k}(hk:k<fs.length)(h:Xk fs k=false):Be fs=false:=by unfold Be;exact Qx
theorem Ad0{fs}(qS:fs.length<=30)(h:∀j,j<fs.length->Xk fs j=true):Be fs=true:=by unfold Be;rw[aL qS];exact ZIM
theorem AhW{fs}(h:¬fs.length<=30):Be fs=false:=by unfold Be;rw[aP h];rfl
theorem Ch{fs:List Fwd}:Be fs=true↔fs.length<=30/\∀k (h:k<fs.length),Ap fs[k].src=true/\Ap fs[k].dst=true/\∀j (hj:j<k),fs[j].src≠fs[k].src:=by
 unfold Be;refine' ZIN;refine and_congr Iff.rfl ⟨fun h k hk=>?_,fun h k hk=>?_⟩
 .have:=h k zP
  rw[ZBq hk]at this;exact ZPG
 .have gj:k<fs.length:=zP
  obtain⟨h1,h2,h3⟩:=h k gj;rw[ZBq gj];exact ZPH
def Ee(hs:List Y_):Bool:=decide (hs.length<=30)&&hs.all Ap
def Fp(n:Int):Bool:=decide (1<=n)&&decide (n<=20)
structure Dy where
 plan:Pln
 fwds:List Fwd
 held:List ByteArray
 size:Int
def Mi(d:Dy):Bool:=Bq d.plan&&Be d.fwds&&Ee d.held&&Fp d.size
def Lv(n:Nat):Y_:=match n with
 |0=>⟨#[]⟩
 |1=>⟨#[115,116,117,99,107]⟩
 |2=>⟨#[104,101,108,100]⟩
 |3=>⟨#[114,111,117,110,100]⟩
 |_=>⟨#[115,116,114,97,110,103,101]⟩
def Nh(d:Dy)(c:Y_):Y_×Y_:=
 if Mi d&&Ap c then
  if(Bc d.fwds c).2.2=true then
   if 0<=y6 d.held (Bc d.fwds c).1 then((Bc d.fwds c).1,Lv 2)
   else if 0<=y6 d.plan.order (Bc d.fwds c).1 then((Bc d.fwds c).1,Lv 3)
   else((Bc d.fwds c).1,Lv 4)
  else(c,Lv 1)
 else(⟨#[]⟩,⟨#[]⟩)
def rdD(w:World)(B:Nat)(v:Value)(d:Dy):Prop:=
 ∃vo vf vh,v=.agg #[.int .i64 d.plan.bins,.int .i64 d.plan.passes,vo,vf,vh,.int .i64 d.size]/\Bj d.plan.bins/\Bj d.plan.passes/\Bj d.size/\rd w B vo d.plan.order/\rd w B vf d.fwds/\rd w B vh d.held
theorem rdD.below{w w' B v d}(h:rdD w B v d)(hb:Below B w w'):rdD w' B v d:=by refine' ZIO;exact⟨vo,vf,vh,h1,h2,h3,h4,h5.below hb,h6.below hb,h7.below hb⟩
theorem rdD.more{w B B' v d}(h:rdD w B v d)(hB:B<=B'):rdD w B' v d:=by refine' ZIO;exact⟨vo,vf,vh,h1,h2,h3,h4,h5.more hB,h6.more hB,h7.more hB⟩
theorem rdD.on{w w' v d}(h:rdD w w.heap.size v d)(hb:B_ w w'):rdD w' w'.heap.size v d:=(h.below hb).more hb.size
theorem Aa3{w B v d}(h:rdD w B v d):∃A0 c0 A1 c1 A2 c2,v=.agg #[.int .i64 d.plan.bins,.int .i64 d.plan.passes,.slice A0 d.plan.order.length c0,.slice A1 d.fwds.length c1,.slice A2 d.held.length c2,.int .i64 d.size]:=by obtain⟨vo,vf,vh,rfl,_,_,_,⟨A,n,c,rfl,rfl,_⟩,⟨A',n',c',rfl,rfl,_⟩,⟨A'',n'',c'',rfl,rfl,_⟩⟩:=h;exact⟨A,c,A',c',A'',c'',rfl⟩
theorem AbR{w B d A0 A1 A2 c0 c1 c2}(h:rdD w B (.agg #[.int .i64 d.plan.bins,.int .i64 d.plan.passes,.slice A0 d.plan.order.length c0,.slice A1 d.fwds.length c1,.slice A2 d.held.length c2,.int .i64 d.size]) d):
 rdP w B (.agg #[.int .i64 d.plan.bins,.int .i64 d.plan.passes,.slice A0 d.plan.order.length c0]) d.plan/\rd w B (.slice A0 d.plan.order.length c0) d.plan.order/\rd w B (.slice A1 d.fwds.length c1) d.fwds/\rd w B (.slice A2 d.held.length c2) d.held/\Bj d.size:=by refine' ZIO;refine' ZEq;obtain⟨rfl,rfl,rfl⟩:=h1;exact⟨⟨_,rfl,h2,h3,h5⟩,h5,h6,h7,h4⟩
def jR(ms:List Mis)(c:Int):Int:=if ms.findIdx (fun y=>y.id==c)<ms.length then(ms.findIdx (fun y=>y.id==c):Int)else -1
theorem AtF{ms:List Mis}{c:Int}{k:Nat}(hk:k<ms.length)(h1:∀j (hj:j<k),(ms[j].id==c)=false)(h2:(ms[k].id==c)=true):jR ms c=k:=by have e:ms.findIdx (fun y=>y.id==c)=k:=(List.findIdx_eq hk).2 ⟨h2,h1⟩;unfold jR;rw[e,aQ hk]
theorem AyE{ms c}(h:∀j (hj:j<ms.length),(ms[j].id==c)=false):jR ms c= -1:=by
 have e:ms.findIdx (fun y=>y.id==c)=ms.length:=List.findIdx_eq_length.2 fun x hx=>ZIL
 unfold jR;rw[e,aM ZA]
theorem BaD{ms}{k:Nat}(hk:k<ms.length):(jR ms ms[k].id==(k:Int))=(ms.take k).all (fun y=>y.id != ms[k].id):=by
 rw[jE,dU];constructor
 .intro h x hx
  refine' ZE4;rw[bJ]at hj;have dx:j<k:=ZA
  rw[ZBs];have h':jR ms ms[k].id=(k:Int):=zI
  unfold jR at h'
  split at h'
  .have e:ms.findIdx (fun y=>y.id==ms[k].id)=k:=ZA
   have:=((List.findIdx_eq hk).1 e).2 j dx;exact zV
  .omega
 .intro h
  rw[AtF hk (fun j hj=>by have:=h ms[j] V3;exact zV) ZF]
  simp
theorem Am8(v ms c w)(hv:R_ w v ms):
 ya 344 #[v,.int .i64 c] w (.int .i64 (jR ms c)):=by
 refine' h_;refine' fS;go_enter func344,ntmps344;go_wp2
 go_loop[5] (fun i=>∃k:Nat,k<=ms.length/\i=.int .i64 k/\Hid (∀j (h:j<ms.length),j<k->(ms[j].id==c)=false)) (fun i=>ms.length - (intOf i).toNat)
 case atStart=>exact Yc
 case round=>
  refine' YH;by_cases ab:k<ms.length
  .refine' ZI2;have HX:Hid (∀h:(ms[k].id==c)=false,∀j (h1:j<ms.length),j<k+1->(ms[j].id==c)=false):=fun h j h1 hj=>Yb
   have HY:Hid (∀h:(ms[k].id==c)=true,jR ms c=k):=fun h=>AtF ab (fun j hj=>HG.out j ZA hj) h
   generalize ms[k]=x at *;cases he:(x.id==c)
   .refine' zf;go_wp2
    exact Ws
   .refine' zf;exact Uf
  .have HE:Hid (jR ms c= -1):=AyE (fun j hj=>HG.out j hj ZA)
   exact ZFO
theorem L7{n a b r w}(h:(decide (a<=n)&&decide (n<=b))=r):ya 167 #[.int .i64 n,.int .i64 a,.int .i64 b] w (.bool r):=by rw[<-h];exact D0 n a b w
theorem ZEK{v ms c r w}(hv:R_ w v ms)(h:jR ms c=r):ya 344 #[v,.int .i64 c] w (.int .i64 r):=by rw[<-h];exact Am8 v ms c w hv
theorem AmG{p ms k}(hk:k<ms.length)(h:Bq p=true->Zh p.bins ms k=false):Jt p ms=false:=by
 cases hp:Bq p
 .exact ZC6 hp
 .exact AkG hk (h hp)
theorem AeL(v vm p ms w)(hv:rdP w w.heap.size v p)(SO:R_ w vm ms):
 C_ 306 #[v,vm] w (.bool (Jt p ms)):=by
 refine' Yf;have tV:=aA SO;refine' ZFP;obtain⟨A,n,cp,rfl,hn,hc,hm,hr⟩:=SO;refine' fS;obtain⟨M,HM⟩:∃M,aD.wrap (p.bins - 1)=M:=⟨_,rfl⟩;have HMB:Hid (Bq p=true->M=p.bins - 1):=fun h=>by have hb:=(De.1 h).1;rw[<-HM];exact bG _ ZA
 go_enter func306,ntmps306;go_wp2
 go_loopw[5] (fun i wr=>∃k:Nat,k<=ms.length/\i=.int .i64 k/\B_ w wr/\(wr.cell? ⟨w.heap.size,0,none⟩=some (.int .i64 p.bins)/\wr.cell? ⟨w.heap.size,1,none⟩=some (.int .i64 p.passes)/\wr.cell? ⟨w.heap.size,2,none⟩=some (.slice Ao p.order.length og))/\Hid (Bq p=true->∀j,j<k->Zh p.bins ms j=true)) (fun i _=>ms.length - (intOf i).toNat)
 case atStart=>exact⟨0,aN _,rfl,(aF _ _).alloc (aC _) _,⟨zD,zD,zD⟩,fun _ j hj=>absurd hj (aX j)⟩
 case round=>
  obtain⟨k,hk,rfl,av,⟨g0,g1,g2⟩,HG⟩:=hrel;refine' Sd;by_cases ab:k<ms.length
  .refine' ZI2;have hG:=aA (ZEH (bins:=p.bins) ab);have hO:=aA (BaD ab);have ao:=aA (fun h=>AmG (p:=p) ab h);generalize ms[k]=x at *;refine' ZQu;have gq:(k:Int)<(ms.length:Int):=ZA
   have QO:=aA (fun n=>(tV.out.on av).on (Ba (aF _ _) n));cases h1:(decide (0<=x.bin)&&decide (x.bin<=M))
   .refine' fE;have C1:=aA (fun w=>L7 (w:=w) H1.out);go_wp2
    go_quiet (first|(go_at_call 167;exact Y9))
    refine' ZO;exact⟨Al (ao.out fun hp=>by have e:=HMB.out hp;have:=H1.out;rw[e]at this;rw[hG.out,show decide (x.bin<p.bins)=decide (x.bin<=p.bins - 1)from Ud,this];simp).symm,Ba av _⟩
   refine' fE;have C1:=aA (fun w=>L7 (w:=w) H1.out);cases h2:(decide (1<=x.id)&&decide (x.id<=9999))
   .refine' g_;have C2:=aA (fun w=>L7 (w:=w) H2.out);go_wp2
    go_quiet (first|(go_at_call 167;exact ZIW))
    refine' ZO;exact⟨Al (ao.out fun hp=>by rw[hG.out,H2.out];rfl).symm,Ba av _⟩
   refine' g_;have C2:=aA (fun w=>L7 (w:=w) H2.out);obtain⟨q,HQ⟩:∃q,Hid (jR ms x.id=q):=⟨_,rfl⟩;have C3:=aA (fun n=>ZEK (QO.out n) HQ.out);cases h3:(q==(k:Int))
   .have H3:=aA h3
    have un:(q != (k:Int))=true:=ZFQ
    refine' ZQv;refine' ZO;exact⟨Al (ao.out fun hp=>by rw[hG.out,<-hO.out,HQ.out,H3.out];simp).symm,Ba av _⟩
   .have H3:=aA h3
    have un:(q != (k:Int))=false:=ZFQ
    refine' ZQv;go_wp2
    go_roundw
    case rel=>
     refine⟨k+1,ZA,ZJ,Ba av _,⟨zD,zD,zD⟩,fun hp j hj=>?_⟩;by_cases dx:j<k
     .exact HG.out hp j dx
     .refine' iS;have e:=HMB.out hp;have:=H1.out;rw[e]at this;rw[hG.out,show decide (x.bin<p.bins)=decide (x.bin<=p.bins - 1)from Ud,this,H2.out,<-hO.out,HQ.out,H3.out];rfl
    case measure=>exact ZK
  .have HE:=aA (show k=ms.length by omega)
   refine' ZC;refine(Fo _ p _ (fg.out.on av)).mono ?_;refine' zK;have B2:=av.trans (b2.mono av.size);cases hp:Bq p
   .refine' YS;refine' ZI;exact⟨Al (ZC6 HP.out).symm,B2⟩
   .refine' YS;by_cases lh:(ms.length:Int)<=60
    .have yG:=aA lh
     refine' ZI;exact⟨Al (by rw[AgI HP.out (by have:=yG.out;omega) (by rw[<-HE.out];exact HG.out HP.out)]),B2⟩
    .have yG:=aA (show¬ms.length<=60 by omega)
     have H61:=aA (aP lh)
     refine' ZI;exact⟨Al (by rw[AjG yG.out,H61.out]),B2⟩
theorem ZCr(v vm p ms w)(hv:rdP w w.heap.size v p)(SO:R_ w vm ms):
 C_ 302 #[v,vm] w (.bool (Jt p ms)):=by
 refine' Yf;refine' ZFP;obtain⟨A,n,cp,rfl,hn,hc,hm,hr⟩:=SO;refine' fS;have HW:=aA (fun o=>fg.out.on ((aF _ _).alloc (aC _) o));have br:B_ w (w.alloc (aB #[aH aD p.bins,aH aD p.passes,Value.slice Ao p.order.length og] 30)):=(aF _ _).alloc (aC _) _;have gb:(w.alloc (aB #[aH aD p.bins,aH aD p.passes,Value.slice Ao p.order.length og] 30)).cell? ⟨w.heap.size,0,none⟩=some (.int .i64 p.bins):=zD
 have GB:=aA gb;have ga:=aA br;refine' ZQw;have kA:=aA ah;go_enter func302,ntmps302
 refine' ZC;refine(Fq _ p _ (HW.out _)).mono ?_;refine' ZQx;have g0:w0.cell? ⟨w.heap.size,0,none⟩=some (.int .i64 p.bins):=(b0.cell (p:=⟨w.heap.size,0,none⟩) (by rw[kA.out];simp)).trans GB.out;have wZ:w.heap.size<w0.heap.size:=ZQy
 cases hp:Bq p
 .refine' YS;refine' ZI;exact⟨Al (ZC6 HP.out).symm,B0⟩
 refine' YS;by_cases lh:(60:Int)<(ms.length:Int)
 .have yG:=aA (show¬ms.length<=60 by omega)
  refine' ZI;exact⟨Al (AjG yG.out).symm,B0⟩
 have OT:ms.length<=60:=ZA
 have yG:=aA OT;refine' ZC;go_loopw[19] (fun i wr=>∃k:Nat,k<=ms.length/\i=.int .i64 k/\B_ w wr/\wr.cell? ⟨w.heap.size,0,none⟩=some (.int .i64 p.bins)/\w.heap.size<wr.heap.size/\Hid (∀j,j<k->Zh p.bins ms j=true)) (fun i _=>ms.length - (intOf i).toNat)
 case atStart=>exact⟨0,aN _,rfl,B0,g0,wZ,fun j hj=>absurd hj (aX j)⟩
 case round=>
  obtain⟨k,hk,rfl,av,g1,fm,HG⟩:=hrel;refine' Sd;by_cases ab:k<ms.length
  .refine' ZI2;have hG:=aA (ZEH (bins:=p.bins) ab);have ao:=aA (fun h=>AkG (p:=p) ab h);generalize hx:ms[k]=x at *;refine' ZQu;by_cases h1:x.id<1
   exact V8;by_cases h2:9999<x.id
   exact V8;by_cases h3:x.bin<0
   exact V8;by_cases h4:p.bins<=x.bin
   exact V8;have h1':1<=x.id:=ZA
   have h2':x.id<=9999:=ZA
   have un:0<=x.bin:=ZA
   have h4':x.bin<p.bins:=ZA
   have nW:((decide (1<=x.id)&&decide (x.id<=9999))&&(decide (0<=x.bin)&&decide (x.bin<p.bins)))=true:=by{rw[aL h1',aL h2',aL un,aL h4'];rfl};have pR:=aA nW;go_wp2;obtain⟨wo,ja⟩:∃wo:World,wo=w1.alloc (aB #[aH aD x.id,aH aD x.bin] 170):=⟨_,rfl⟩;have g2:wo.cell? ⟨w1.heap.size,0,none⟩=some (.int .i64 x.id):=by{subst ja;simp[go_sem]};have g3:wo.cell? ⟨w.heap.size,0,none⟩=some (.int .i64 p.bins):=by{subst ja;go_simp};refine' ZMP;go_loopw[48] (fun i wi=>∃m:Nat,m<=k/\i=.int .i64 m/\B_ wo wi/\Hid ((ms.take m).all (fun y=>y.id != x.id)=true)) (fun i _=>k - (intOf i).toNat)
   case atStart=>exact⟨0,aN _,rfl,aF _ _,rfl⟩
   case round=>
    refine' ZMQ;have g2':wr.cell? ⟨w1.heap.size,0,none⟩=some (.int .i64 x.id):=(tB.cell (p:=⟨w1.heap.size,0,none⟩) GM).trans g2;have g3':wr.cell? ⟨w.heap.size,0,none⟩=some (.int .i64 p.bins):=(tB.cell (p:=⟨w.heap.size,0,none⟩) ZH).trans g3;by_cases fo:m<k
    .obtain⟨b',o',hA,_,⟨p1,p2⟩,d1,d2⟩:=HR.out.mis m ZA
     have hT:=aA (Hv (p:=fun y:Mis=>y.id != x.id) ms m ZA);have hI:=aA (ZCO (p:=fun y:Mis=>y.id != x.id) ms m k ZA fo);generalize ms[m]=y at *;refine' ZQz;have d2':wr.cell? ⟨b,o+m*2+1,none⟩=some (.int .i64 y.bin):=(oW.cell (p:=⟨b,o+m*2+1,none⟩) hb).trans d2;exact ZMS
    .refine' ZEb;go_roundw
     case rel=>
      refine⟨k+1,ZA,ZJ,oW,g3',ZA,fun j hj=>?_⟩;refine' Ue
      .refine' iS;rw[hG.out,pR.out,<-HE.out,HA.out];rfl
     case measure=>exact ZK
  .have HE:=aA (show k=ms.length by omega)
   refine' ZO;exact⟨Al (AgI HP.out yG.out iQ).symm,av⟩
theorem Bf{a b}(h:a=b):Ending.returned a=.returned b:=eO
theorem Mn(v fs c w)(hv:R_ w v fs):
 C_ 228 #[v,.string c] w (.int .i64 (Gg fs c)):=by refine' Ze;go_enter func228,ntmps228;exact ZPI
theorem Om(v fs c w)(hv:R_ w v fs):
 ya 162 #[v,.string c] w (.int .i64 (Gg fs c)):=by refine' Ze;go_enter func162,ntmps162;exact ZPJ
theorem Hj(v fs c w)(hv:R_ w v fs)(ax:c.size<=maxLen)(hl:fs.length<=1048576):
 C_ 205 #[v,.string c] w (.tuple #[.string (Bc fs c).1,.int .i64 ((Bc fs c).2.1:Nat),.bool (Bc fs c).2.2]):=by
 refine' ZPK;go_enter func205,ntmps205;refine' ZPL
 .obtain⟨k,d,hk,rfl,rfl,lY,lr,HG⟩:=hrel;refine' Yg;by_cases ab:k<fs.length+1
  .refine' ZPM;refine(Mn _ fs d _ (fg.out.on lr)).mono ?_;rw[ak.out];refine' zK;have l2:=Aa lr b2;exact ZPN
  exact ZPO
theorem It(v fs c w)(hv:R_ w v fs)(ax:c.size<=maxLen)(hl:fs.length<=1048576):
 C_ 78 #[v,.string c] w (.tuple #[.string (Bc fs c).1,.int .i64 ((Bc fs c).2.1:Nat),.bool (Bc fs c).2.2]):=by
 refine' ZPK;go_enter func78,ntmps78;refine' ZPL
 .obtain⟨k,d,hk,rfl,rfl,lY,lr,HG⟩:=hrel;refine' Yg;by_cases ab:k<fs.length+1
  .refine' ZPM;refine(Om _ fs d _ (fg.out.on lr)).mono ?_;rw[ak.out];refine' zq;have l2:=lr;exact ZPN
  exact ZPO
theorem Me(n w):ya 232 #[.int .i64 n] w (.bool (Fp n)):=by
 go_enter func232,ntmps232;by_cases h1:1<=n
 .refine' ZO;exact⟨Al (by simp[Fp,h1]),rfl⟩
 .refine' ZO;exact⟨Al (by unfold Fp;rw[aP (p:=1<=n) ZA];rfl),rfl⟩
theorem Nm(n w):ya 92 #[.int .i64 n] w (.bool (Fp n)):=by
 go_enter func92,ntmps92
 refine' ZC;refine(D0 n 1 20 w).mono ?_;refine' ZZ;obtain⟨r,HR⟩:∃r,Hid ((decide (1<=n)&&decide (n<=20))=r):=⟨_,rfl⟩;rw[HR.out]
 exact ZIP
theorem ZBL(v xs w)(hv:R_ w v xs):
 ya 280 #[v] w (.bool (Ee xs)):=by
 refine' Ze;go_enter func280,ntmps280;by_cases qS:(30:Int)<(xs.length:Int)
 .have HF:Hid (Ee xs=false):=by show _=_;unfold Ee;refine' ZEc;rfl
  exact ZIQ
 have tF:=aA (show xs.length<=30 by omega);go_wp2
 go_loop[10] (fun i=>∃k:Nat,k<=xs.length/\i=.int .i64 k/\Hid (∀j (h:j<xs.length),j<k->Ap xs[j]=true)) (fun i=>xs.length - (intOf i).toNat)
 case atStart=>exact Yc
 case round=>
  refine' YH;by_cases ab:k<xs.length
  .obtain⟨b,o,rfl,hb,ag,c1⟩:=HR.out.strU k ab
   have HX:Hid (∀h:Ap xs[k]=true,∀j (h1:j<xs.length),j<k+1->Ap xs[j]=true):=fun h j h1 hj=>Yb
   have HY:Hid (∀h:Ap xs[k]=false,Ee xs=false):=fun h=>ZPP
   refine' zu;obtain⟨r,ak⟩:∃r,Hid (Ap x=r):=⟨_,rfl⟩
   refine' ZC;refine(Cw x _ ag).mono ?_;rw[ak.out];refine' ZZ;cases r
   .refine' ZI;exact⟨Al (HY.out ak.out).symm,rfl⟩
   exact ZPQ
  .have HE:Hid (Ee xs=true):=by show _=_;unfold Ee;rw[aL tF.out];exact List.all_eq_true.2 fun x hx=>by refine' ZE4;exact HG.out j hj ZA
   refine' ZO;exact⟨Al HE.out.symm,rfl⟩
theorem AnU(p):∀(n k:Nat) (xs:List Ltr),(Q3 p k n xs).length<=n*xs.length
 |0,_,_=>by simp[Q3]
 |n+1,k,xs=>by show(Bn _ xs++Q3 p (k+1) n (Kr p k xs)).length<=_;have h1:=AnU p n (k+1) (Kr p k xs);have h2:=AjY p k xs;have h3:n*(Kr p k xs).length<=n*xs.length:=Nat.mul_le_mul_left _ h2;have h4:(Bn (fun x=>Dm p x.code k) xs).length<=xs.length:=bL _ _;rw[aT,eW,iT];omega
theorem ZA5(v vb p xs)(k0 k1:Nat)(w)(hv:rdP w w.heap.size v p)(hb:R_ w vb xs)
 (h1:2<=p.bins) (h2:p.bins<=16) (lv:k1<=4) (hk01:k0<=k1) (pH:p.order.length<=1000) (hl:xs.length<=500):
 Calls Tryz.prog 244 #[v,vb,.int .i64 k0,.int .i64 k1] w fun e w'=>∃vL vO,e=.returned (.tuple #[vL,vO])/\own 119 w.heap.size w' vL (Cd p k0 (k1 - k0) xs)/\own 119 w.heap.size w' vO (Q3 p k0 (k1 - k0) xs)/\apart vL vO/\B_ w w':=by
 refine' Yk;subst e0;refine' zT;clear ac hv hb;refine' fL;refine' Zl;have bj:w.heap.size<=w0.heap.size:=HT.out.size;go_enter func244,ntmps244
 refine' zG;refine(ZDl _ xs _ HB.out ZA).mono ?_;refine' Ye;have l1:=Aa l0 b1;have O1:=aA o1;clear o1 b1 l0
 refine' ZC;go_loopw[10,11,12] (fun t u i wr=>∃j:Nat,j<=k1 - k0/\i=.int .i64 ((k0+j:Nat):Int)/\B_ w0 wr/\own 119 w0.heap.size wr t (Cd p k0 j xs)/\own 119 w0.heap.size wr u (Q3 p k0 j xs)/\Hid (apart t u)) (fun _ _ i _=>k1 - (intOf i).toNat)
 case atStart=>exact⟨0,aN _,rfl,l1,O1.out,own.nil_ _ _ _,Br (.inl rfl)⟩
 case round=>
  obtain⟨j,hj,rfl,lr,hL,hO,HA⟩:=hrel;refine' zO;have HL:=aA hL;refine' Zn;obtain⟨AO,mO,cO,rfl,qm,_,_,_⟩:=hO.rd;obtain⟨AL,mL,cL,rfl,hmL,_,_,_⟩:=hL.rd;subst qm hmL;clear hL hO l1 O1;have um:=aA (Lr p j k0 xs);have RE:=aA (AnU p j k0 xs);have ff:Hid (Cd p k0 (j+1) xs=(Bm (fun x=>Dm p x.code (k0+j)) p.bins.toNat (Cd p k0 j xs)).flatten):=Mc p j k0 xs;have f8:Hid (Q3 p k0 (j+1) xs=Q3 p k0 j xs++Bn (fun x=>Dm p x.code (k0+j)) (Cd p k0 j xs)):=Al0 p j k0 xs;generalize kL:Cd p k0 j xs=ys at *;generalize gu:Q3 p k0 j xs=zs at *;have HYZ:Hid (Cd p k0 j xs=ys/\Q3 p k0 j xs=zs):=⟨kL,gu⟩;clear kL gu;have MJ:ys.length<=500:=by have:=um.out;omega
  have pw:zs.length<=2000:=by have h:=RE.out;have h3:j*xs.length<=4*500:=bY ZA hl;omega
  clear um RE;by_cases ab:k0+j<k1
  .have mg:=aA (fun W (hW:B_ w0 W) (hr:R_ W (.slice AL ys.length cL) ys)=>ZA4 _ _ (.slice none 0 0) p ys (k0+j) [] W (HP.out.on hW) hr rd.nil_ h1 h2 ZA pH (fun m hm=>by simp at hm) ZA)
   refine' ZC;refine(mg.out _ lr HL.out.rd).mono ?_;refine' ZH0;have hB':Fi 27 119 w2.heap.size w3 vB (Bm (fun x=>Dm p x.code (k0+j)) p.bins.toNat ys) vs:=hB;have RG:own 119 w2.heap.size w3 vO (Bn (fun x=>Dm p x.code (k0+j)) ys):=hR;have j7:(Bm (fun x=>Dm p x.code (k0+j)) p.bins.toNat ys).flatten.length<=1048576:=aI (Ez ys) ZA;have yE:(Bn (fun x=>Dm p x.code (k0+j)) ys).length<=500:=aI (bL _ _) MJ;generalize(Bm (fun x=>Dm p x.code (k0+j)) p.bins.toNat ys)=bs at *;generalize(Bn (fun x=>Dm p x.code (k0+j)) ys)=rs at *;have l3:=Aa lr b3;have ep:=aA (show R_ w3 vB bs from Fu.rd ⟨vs,hB'⟩);have RH:=aA RG;have ez:=aA (HO.out.below b3);clear hB hB' hR RG hF HL HA b3
   refine' ZC;refine(ZDz _ bs _ ep.out j7).mono ?_;refine' Rs;have l4:=Aa l3 b4;have jm:=aA (Dd o4 ez.out (aC _));have O4:=aA (o4.base_ l3.size);have HR4:=aA (RH.out.below b4);have jx:=aA (ez.out.below b4);clear o4 b4 RH ez ep;refine' Rz;obtain⟨AR,mR,cR,hvr,hmR,_,_,_⟩:=HR4.out.rd;subst hvr hmR
   go_wp2_with (at_builtin;refine Cu (α:=Ltr) rfl (.tmp 32) (.tmp 33) 27 rfl w0.heap.size 119 i1 _ 24 aV ji dr du dw rfl ZE (.slice AO zs.length cO) zs rfl jx.out (.slice AR rs.length cR) rs rfl w4.heap.size HR4.out.rd ZN ZA nl ?_;intro v5 w5 cg aj cy)
   have l5:B_ w0 w5:=l4.trans (Ay jx.out aj nl);have O5:=aA (O4.out.grown aj jm.out);have pu:Hid (apart v4 v5):=by
    show apart _ _;have h:=jm.out;unfold apart at *;rcases cy with e5|e5
    .rw[e5];exact h
    .cases ju:v4.ownBlock with
     |none=>exact .inl rfl
     |some q=> refine' YQ;rw[e5]at e;refine' YC;have:=(O4.out.blk q ju).2;omega
   go_roundw
   case rel=>exact⟨j+1,ZA,ZJ,l5,by rw[ff.out];exact O5.out,by rw[f8.out];exact cg,pu⟩
   case measure=>exact ZK
  .have HE:=aA (show k1 - k0=j by omega)
   go_wp2;go_ret2;rw[HE.out];exact⟨_,_,rfl,by rw[HYZ.out.1];exact HL.out.base_ bj,by rw[HYZ.out.2];exact HO.out.base_ bj,HA.out,Aa HT.out lr⟩
def En(xss:List (List Ltr)):Bool:=decide (xss.length<=60)&&z_ xss.flatten
def collected(xss:List (List Ltr)):List Ltr:=if En xss then xss.flatten else []
theorem AmR{xss}(h:En xss=false):collected xss=[]:=by unfold collected;rw[h];rfl
theorem ZAt{xss}(h:En xss=true):collected xss=xss.flatten:=by unfold collected;rw[aQ h]
theorem ZC3{α:Type}(xss:List (List α))(k):(xss.take k).flatten.length<=xss.flatten.length:=by
 conv=>rhs;rw[<-dQ k xss,bX,aT]
 omega
theorem Ay2{xs}(h:60<xs.length):z_ xs=false:=by unfold z_;refine' ZEc;rfl
theorem AcP(v xss w)(hv:R_ w v xss):
 Calls Tryz.prog 212 #[v] w fun e w'=>∃vL,e=.returned (.tuple #[vL,.bool (En xss)])/\own 119 w.heap.size w' vL (collected xss)/\B_ w w':=by
 refine' zl;refine' YA;refine' V4;have HQ:Hid (En xss=(decide (xss.length<=60)&&z_ xss.flatten)):=rfl;have ca:Hid (∀h:En xss=false,∀W:World,own 119 w.heap.size W (.slice none 0 0) (collected xss)):=fun h W=>by rw[AmR h];exact zj
 go_enter func212,ntmps212;by_cases lh:(60:Int)<(xss.length:Int)
 .have HF:Hid (En xss=false):=by show _=_;rw[HQ.out,aP ZA];rfl
  go_wp2;go_ret2;exact⟨_,Bf ZX,ca.out HF.out _,l0⟩
 have yG:=aA (show xss.length<=60 by omega);go_wp2
 go_loopw[4,12] (fun t i wr=>∃k:Nat,k<=xss.length/\i=.int .i64 k/\B_ w wr/\own 119 w.heap.size wr t (xss.take k).flatten/\(xss.take k).flatten.length<=60) (fun _ i _=>xss.length - (intOf i).toNat)
 case atStart=>exact⟨0,aN _,rfl,l0,own.nil_ _ _ _,ZF⟩
 case round=>
  obtain⟨k,hk,rfl,lr,ho,WF⟩:=hrel;refine' Yg;by_cases ab:k<xss.length
  .refine' ZNm;have RI:=aA (ZC3 xss (k+1));refine' ZNn;subst nD;clear fh;unfold maxLen at kh;refine' ZNo;by_cases hbig:(60:Int) - (zs.length:Int)<(ys.length:Int)
   .have HF:Hid (En xss=false):=by{show _=_;rw[HQ.out,Ay2 (by have h1:=RI.out;have h2:=aU List.length HS.out;rw[aT]at h2;omega)];simp};go_wp2;go_ret2;exact⟨_,Bf ZX,ca.out HF.out _,lr⟩
   .go_wp2_with (at_builtin;refine Cu (α:=Ltr) rfl (.tmp 22) (.tmp 23) 27 rfl w.heap.size 119 i0 _ 24 aV hi ah ar ap rfl ZE (.slice A3 zs.length c3) zs rfl dm.out (.slice A2 ys.length c2) ys rfl w1.heap.size (HU.out.on lr) ZN ZA lr.size ?_;intro v' w2 kn jl _)
    have l2:B_ w w2:=lr.trans (Ay dm.out jl lr.size);have HLE:Hid ((zs++ys).length<=60):=by{show _<=_;refine' fH;omega};go_roundw
    case rel=>exact⟨k+1,ZA,ZJ,l2,by rw[HS.out];exact kn,by rw[HS.out];exact HLE.out⟩
    case measure=>exact ZK
  .refine' Rw;rw[HE.out,bA]at ho;clear WF;obtain⟨fl,j7⟩:∃fl,xss.flatten=fl:=⟨_,rfl⟩;rw[j7]at ho;have oq:=aA j7;clear j7;refine' zY;obtain⟨A3,m3,c3,rfl,vE,_,_,_⟩:=ho.rd;subst vE;clear ho
   refine' ZC;refine(Cn _ fl _ HO.out.rd).mono ?_;refine' zK;have l2:=Aa lr b2;have im:=aA (HO.out.below b2);cases hx:z_ fl
   .have HF:Hid (En xss=false):=by{show _=_;rw[HQ.out,oq.out,hx];simp};clear hx
    refine' ZQ;exact⟨_,Bf ZX,ca.out HF.out _,l2⟩
   .have HF:Hid (En xss=true):=by{show _=_;rw[HQ.out,oq.out,hx,aL yG.out];rfl};clear hx
    refine' ZQ;exact⟨_,Bf ZX,by rw[ZAt HF.out,oq.out];exact im.out,l2⟩
def Qm(p:Pln)(xs:List Ltr)(k:Int):Bool:=Ku p k&&z_ xs
def Fz(p:Pln)(xs:List Ltr)(k:Int):List (List Ltr):=if Qm p xs k then Bm (fun x=>Dm p x.code k.toNat) p.bins.toNat xs else []
def Li(p:Pln)(xs:List Ltr)(k:Int):List Ltr:=if Qm p xs k then Bn (fun x=>Dm p x.code k.toNat) xs else []
def M4(p:Pln)(xs:List Ltr):Bool:=Bq p&&z_ xs
def Dr(p:Pln)(xs:List Ltr):List Ltr:=if M4 p xs then Cd p 0 p.passes.toNat xs else []
def Ha(p:Pln)(xs:List Ltr):List Ltr:=if M4 p xs then Bn (fun x=>Dm p x.code 0) xs else []
def Hh(p:Pln)(xss:List (List Ltr))(k:Int):Bool:=Ku p k&&(xss.length==p.bins.toNat)&&z_ xss.flatten
def J9(p:Pln)(xss:List (List Ltr))(k:Int):List Ltr:=if Hh p xss k then Cd p (k.toNat+1) (p.passes.toNat - (k.toNat+1)) xss.flatten else []
theorem Md{α:Type}[El α](T1 T2 base:Nat)(w):Fi (α:=α) T1 T2 base w (.slice none 0 0) [] []:=
 ⟨own.nil_ _ _ _,rfl,fun k h=>absurd h (aX k),fun j k h=>absurd h (aX j),fun k h=>absurd h (aX k)⟩
theorem Cq{xs}(h:z_ xs=true):xs.length<=60:=(Ep.1 h).1
theorem Aj6(v vb p xs k w)(hv:rdP w w.heap.size v p)(hb:R_ w vb xs):
 Calls Tryz.prog 290 #[v,vb,.int .i64 k] w fun e w'=>∃vB vO vs,e=.returned (.tuple #[vB,vO,.bool (Qm p xs k)])/\Fi 27 119 w.heap.size w' vB (Fz p xs k) vs/\own 119 w.heap.size w' vO (Li p xs k)/\D7 vO vB vs/\B_ w w':=by
 refine' Sc;have ca:Hid (∀h:Qm p xs k=false,∀W:World,Fi 27 119 w.heap.size W (.slice none 0 0) (Fz p xs k) []/\own 119 w.heap.size W (.slice none 0 0) (Li p xs k)):=fun h W=>by unfold Fz Li;rw[h];exact⟨Md _ _ _ _,own.nil_ _ _ _⟩
 have HQ:Hid (Qm p xs k=(Ku p k&&z_ xs)):=rfl;go_enter func290,ntmps290
 refine' ZHb;cases h1:Ku p k
 .have HF:Hid (Qm p xs k=false):=z7
  exact ZMh
 obtain⟨mG,nP,pq⟩:=Jz.1 h1;refine' Sa;refine' fE;clear h1 mG
 refine' ZEi;cases h2:z_ xs
 .have HF:Hid (Qm p xs k=false):=ZEs
  clear h2
  refine' zX;exact⟨_,_,[],Bf ZX,(ca.out HF.out _).1,(ca.out HF.out _).2,⟨.inl rfl,fun k h=>absurd h (aX k)⟩,Aa HT.out l2⟩
 have kw:=Cq h2;have HF:Hid (Qm p xs k=true):=ZH1
 have HY:Hid (Fz p xs k=Bm (fun x=>Dm p x.code k.toNat) p.bins.toNat xs/\Li p xs k=Bn (fun x=>Dm p x.code k.toNat) xs):=ZNp
 clear h2;refine' S9;refine' ZC;refine(ZA4 _ _ (.slice none 0 0) p xs k [] _ (HP.out.on l2) (HB.out.on l2) rd.nil_ g1 g2 ZA ZA (fun m hm=>by simp at hm) ZA).mono ?_;refine' ZH0;refine' YG;have j8:=aA hB;have ak:=aA hR;have lN:=aA hF;clear hB hR hF
 refine' zX;have hh:=HY.out;rw[bE]at hh;exact⟨_,_,vs,Bf ZX,by rw[hh.1];exact j8.out.base_ (aI bj l2.size),by rw[hh.2];exact ak.out.base_ (aI bj l2.size),lN.out,Aa HT.out l3⟩
theorem ZAd(v vb p xs w)(hv:rdP w w.heap.size v p)(hb:R_ w vb xs):
 Calls Tryz.prog 201 #[v,vb] w fun e w'=>∃vL vO,e=.returned (.tuple #[vL,vO,.bool (M4 p xs)])/\own 119 w.heap.size w' vL (Dr p xs)/\own 119 w.heap.size w' vO (Ha p xs)/\apart vL vO/\B_ w w':=by
 refine' Sc;have ca:Hid (∀h:M4 p xs=false,∀W:World,own 119 w.heap.size W (.slice none 0 0) (Dr p xs)/\own 119 w.heap.size W (.slice none 0 0) (Ha p xs)):=fun h W=>by unfold Dr Ha;rw[h];exact⟨own.nil_ _ _ _,own.nil_ _ _ _⟩
 have HQ:Hid (M4 p xs=(Bq p&&z_ xs)):=rfl;go_enter func201,ntmps201
 refine' ZHr;cases h1:Bq p
 .have HF:Hid (M4 p xs=false):=z7
  clear h1
  refine' zX;exact⟨_,_,Bf ZX,(ca.out HF.out _).1,(ca.out HF.out _).2,.inl rfl,Aa HT.out l1⟩
 obtain⟨g1,g2,g3,g4,g5⟩:=Dz h1;refine' zS;refine' ZEi;cases h2:z_ xs
 .have HF:Hid (M4 p xs=false):=ZEs
  clear h2
  refine' zX;exact⟨_,_,Bf ZX,(ca.out HF.out _).1,(ca.out HF.out _).2,.inl rfl,Aa HT.out l2⟩
 have kw:=Cq h2;have HF:Hid (M4 p xs=true):=ZH1
 clear h2;refine' ZEe;have qq:1<=M/\M<=4:=Yl
 have HY:Hid (Dr p xs=Cd p 0 M xs/\Ha p xs=Q3 p 0 M xs):=by unfold Dr Ha;rw[HF.out,pZ.out,bE];refine⟨rfl,?_⟩;obtain⟨M',rfl⟩:∃M',M=M'+1:=⟨M - 1,ZA⟩;rw[AqU g1];rfl
 have HD:=aA (fun W (hW:B_ w0 W)=>ZA5 _ _ p xs 0 M W (HP.out.on hW) (HB.out.on hW) g1 g2 qq.2 (aN _) ZA ZA);have kC:Hid (∀W,B_ w0 W->Calls Tryz.prog 244 #[.agg #[.int .i64 p.bins,.int .i64 p.passes,.slice A0 p.order.length c0],vb,.int .i64 0,.int .i64 p.passes] W fun e w'=>∃vL vO,e=.returned (.tuple #[vL,vO])/\own 119 W.heap.size w' vL (Cd p 0 M xs)/\own 119 W.heap.size w' vO (Q3 p 0 M xs)/\apart vL vO/\B_ W w'):=fun W hW=>by have h:=HD.out W hW;rw[<-pZ.out]at h;exact h
 clear HD
 refine' ZC;refine(kC.out _ l2).mono ?_;rintro e w3 ⟨vL,vO,rfl,hL,hO,hA,b3⟩;refine' YG;have HL:=aA hL;refine' Zn;have HA:=aA hA;clear hL hO hA
 refine' zX;exact⟨_,_,Bf ZX,by rw[HY.out.1];exact HL.out.base_ (aI bj l2.size),by rw[HY.out.2];exact HO.out.base_ (aI bj l2.size),HA.out,Aa HT.out l3⟩
theorem AwD(v vb p xss k w)(hv:rdP w w.heap.size v p)(hb:R_ w vb xss):
 C_ 304 #[v,vb,.int .i64 k] w (.bool (Hh p xss k)):=by
 refine' Yk;obtain⟨A,n,c,rfl,hn,hc,hm,_⟩:=hb;refine' Zj;subst e0;refine' zT;clear ac hv;refine' Yj;have HQ:Hid (Hh p xss k=(Ku p k&&(xss.length==p.bins.toNat)&&z_ xss.flatten)):=rfl;go_enter func304,ntmps304
 refine' ZHb;cases h1:Ku p k
 .have HF:Hid (Hh p xss k=false):=z7
  clear h1
  exact ZEh
 obtain⟨g1,g2,g3,g4,g5⟩:=Dz (Jz.1 h1).1;refine' zS;by_cases jV:(xss.length:Int)=p.bins
 .have qF:((xss.length:Int) != p.bins)=false:=by simp[jV]
  have mP:Hid ((xss.length==p.bins.toNat)=true):=by show _=_;rw[dI];omega
  have VK:Hid (xss.length<=60):=Zi
  clear jV
  refine' ZC;refine(AcP _ xss _ (HB.out.on l1)).mono ?_;rintro e w2 ⟨vL,rfl,hL,b2⟩;have l2:=Aa l1 b2;clear hL;have HR:Hid (Hh p xss k=En xss):=by show _=_;unfold En;rw[HQ.out,H1.out,mP.out,aL VK.out];rfl
  generalize En xss=r at *
  refine' ZI;exact⟨Al HR.out.symm,Aa HT.out l2⟩
 .have qF:((xss.length:Int) != p.bins)=true:=by simp[jV]
  have mP:Hid ((xss.length==p.bins.toNat)=false):=by show _=_;exact ZH2
  clear jV
  refine' ZI;exact⟨Al (by rw[HQ.out,mP.out];simp),Aa HT.out l1⟩
theorem Lf{p xss k}:Hh p xss k=true↔Ku p k=true/\xss.length=p.bins.toNat/\z_ xss.flatten=true:=by unfold Hh;simp only[aO,dI,and_assoc]
theorem Aa5(v vb p xss k w)(hv:rdP w w.heap.size v p)(hb:R_ w vb xss):
 Calls Tryz.prog 247 #[v,vb,.int .i64 k] w fun e w'=>∃vL,e=.returned (.tuple #[vL,.bool (Hh p xss k)])/\own 119 w.heap.size w' vL (J9 p xss k)/\B_ w w':=by
 refine' Sc;have ca:Hid (∀h:Hh p xss k=false,∀W:World,own 119 w.heap.size W (.slice none 0 0) (J9 p xss k)):=fun h W=>by unfold J9;rw[h];exact zj
 go_enter func247,ntmps247
 refine' ZMg;cases h1:Hh p xss k
 exact ZNB;refine' ZHc;have HF:=aA h1;clear h1 lv mG;have j7:=Cq qP;clear qP jp;refine' S9;refine' ZEe;have hkM:k<M/\M<=4:=Yl
 obtain⟨fl,uu⟩:∃fl,xss.flatten=fl:=⟨_,rfl⟩;have uv:=aA uu;rw[uu]at j7;clear uu;have HY:Hid (J9 p xss (k:Int)=Cd p (k+1) (M - (k+1)) fl):=by show _=_;unfold J9;rw[HF.out,pZ.out,bE,bE,uv.out];rfl
 have CJ:Hid (∀W,B_ w0 W->Calls Tryz.prog 283 #[vb] W fun e w'=>∃v',e=.returned v'/\own 119 W.heap.size w' v' fl/\B_ W w'):=fun W hW=>by have h:=ZDz vb xss W (HB.out.on hW) (by rw[uv.out];omega);rw[uv.out]at h;exact h
 have CD:Hid (∀W,B_ w0 W->∀vf,R_ W vf fl->Calls Tryz.prog 244 #[.agg #[.int .i64 p.bins,.int .i64 p.passes,.slice A0 p.order.length c0],vf,.int .i64 ((k:Int)+1),.int .i64 p.passes] W fun e w'=>∃vL vO,e=.returned (.tuple #[vL,vO])/\own 119 W.heap.size w' vL (Cd p (k+1) (M - (k+1)) fl)/\own 119 W.heap.size w' vO (Q3 p (k+1) (M - (k+1)) fl)/\apart vL vO/\B_ W w'):=fun W hW vf hf=>by have h:=ZA5 _ vf p fl (k+1) M W (HP.out.on hW) hf g1 g2 hkM.2 ZA ZA ZA;rw[<-pZ.out]at h;exact h
 have ld:=Ag l1;have GP:aD.wrap ((k:Int)+1)=(k:Int)+1:=bG _ ZA;go_wp2
 go_region_held3 (fun W=>B_ w0 W) (first|exact ld|exact Aa ld b2|exact Aa (Aa ld b2) b3) (first|(go_at_call 283;refine(CJ.out _ ld).mono ?_;rintro e w2 ⟨vf,rfl,o2,b2⟩)|(go_at_call 244;refine(CD.out _ (Aa ld b2) _ o2.rd).mono ?_;rintro e w3 ⟨vL,vO,rfl,hL,hO,hA,b3⟩))
 have l3:=Aa (Aa ld b2) b3;have HL:=aA (hL.base_ (aI bj (Aa ld b2).size));clear hL hO hA o2;go_wp2;go_ret2;exact⟨_,Bf ZX,by rw[HY.out];exact HL.out,Aa HT.out l3⟩
def Gf(L:List (Nat×Nat))(n:Nat):Nat:=L.foldl (fun a x=>if x.1<=n then max a x.2 else a) 0
def Q8(L:List (Nat×Nat))(n:Nat):Nat:=L.foldl (fun a x=>if x.1=n then max a x.2 else a) 0
def Kg(L:List (Nat×Nat)):Nat:=L.foldl (fun a x=>max a x.2) 0
def Xi(L:List (Nat×Nat))(r:Int):List (Nat×Nat):=if r<0 then L else L++[(r.toNat,Gf L r.toNat+1)]
def Hd(rs:List Int):List (Nat×Nat):=rs.foldl Xi []
theorem ZEO(L x n):Gf (L++[x]) n=if x.1<=n then max (Gf L n) x.2 else Gf L n:=by unfold Gf;exact Wm
theorem AfE(L x n):Q8 (L++[x]) n=if x.1=n then max (Q8 L n) x.2 else Q8 L n:=by unfold Q8;exact Wm
theorem ZAp(L x):Kg (L++[x])=max (Kg L) x.2:=by unfold Kg;exact Wm
theorem Ak7(rs r):Hd (rs++[r])=Xi (Hd rs) r:=by unfold Hd;exact Wm
theorem Rt(rs:List Int)(k)(h:k<rs.length):Hd (rs.take (k+1))=Xi (Hd (rs.take k)) rs[k]:=by rw[aJ h,Ak7]
def Mz(g:Nat->Nat):Nat->Nat
 |0=>g 0
 |n+1=>max (Mz g n) (g (n+1))
theorem AdC{g g':Nat->Nat}:∀n,(∀j,j<=n->g j=g' j)->Mz g n=Mz g' n
 |0,h=>h 0 (aC _)
 |n+1,h=>by unfold Mz;rw[AdC n fun j hj=>h j ZA,h (n+1) (aC _)]
theorem AkT(g:Nat->Nat)(r f):∀n,Mz (fun j=>if r=j then max (g j) f else g j) n=if r<=n then max (Mz g n) f else Mz g n
 |0=>by
  unfold Mz;by_cases h:r=0
  .simp[h]
  .simp[h]
 |n+1=>by
  unfold Mz;rw[AkT g r f n];by_cases h1:r<=n
  .rw[aQ h1,aM ZA,aQ ZA];omega
  .rw[aM h1]
   by_cases h2:r=n+1
   exact ZH5
   .rw[aM h2,aM ZA]
theorem AgL:∀n,Mz (fun _=>0) n=0
 |0=>rfl
 |n+1=>by unfold Mz;rw[AgL n];rfl
theorem AnQ{α:Type}{p:List α->Prop}(h0:p [])(h1:∀l a,p l->p (l++[a]))(l):p l:=by
 have:∀n (l:List α),l.length=n->p l:=fun n=>by
  induction n with
  |zero=>intro l hl;rw[List.length_eq_zero_iff.1 hl];exact h0
  |succ n ih=>
   intro l hl;have ay:l≠[]:=by{intro h;rw[h]at hl;simp at hl};rw[<-List.dropLast_concat_getLast ay];exact h1 _ _ (ih _ X2)
 exact this _ l rfl
theorem Aq5(L n):Mz (Q8 L) n=Gf L n:=by
 induction L using AnQ with
 |h0=>exact AgL n
 |h1 L x ih=> rw[ZEO,<-ih,<-AkT];exact AdC n fun j _=>AfE L x j
theorem ZBN(g:Nat->Nat):∀n j,j<=n->g j<=Mz g n
 |0,j,h=>by
  obtain rfl:j=0:=ZA
  exact iE
 |n+1,j,h=>by
  unfold Mz;by_cases hj:j=n+1
  .rw[hj];omega
  .have:=ZBN g n j ZA;omega
theorem AsG(L r j):Q8 (L++[(r,Gf L r+1)]) j=if r=j then Gf L r+1 else Q8 L j:=by
 rw[AfE];by_cases h:r=j
 .subst h
  refine' ZT;have:=ZBN (Q8 L) r r (aC _);rw[Aq5]at this;omega
 .rw[aM h,aM h]
theorem Pv(rs n):Gf (Hd rs) n<=rs.length/\Kg (Hd rs)<=rs.length:=by
 induction rs using AnQ generalizing n with
 |h0=>exact⟨aC _,aC _⟩
 |h1 rs r ih=>
  rw[Ak7];unfold Xi;have h1:=ih n
  split
  .exact ZH
  .have h2:=ih r.toNat
   rw[ZEO,ZAp];simp only[aT,dA,cT]
   split<;>omega
def Gt(p:Pln)(xs:List Ltr):List Int:=xs.map fun x=>y6 p.order x.code
def Xg(p:Pln)(xs:List Ltr):Nat:=Kg (Hd (Gt p xs))
def Jh(p:Pln)(xs:List Ltr):Int:=if Bq p&&z_ xs then Xg p xs else -1
def N4(g:Nat->Nat)(n:Nat):List Int:=(List.range n).map fun j=>((g j:Nat):Int)
theorem Gp(g:Nat->Nat)(n):(N4 g n).length=n:=by simp[N4]
theorem J4(g:Nat->Nat)(n k)(h:k<(N4 g n).length):(N4 g n)[k]=((g k:Nat):Int):=by simp[N4]
theorem AtQ(g:Nat->Nat)(n k)(h:k<=n):(N4 g n).take k=N4 g k:=by
 apply dM
 .simp[Gp];omega
 .intro i h1 h2
  rw[ZBs,J4,J4]
theorem Ah5(g:Nat->Nat)(n r f:Nat):(N4 g n).set r (f:Int)=N4 (fun j=>if r=j then f else g j) n:=by
 apply dM
 .simp[Gp]
 .intro i h1 h2
  rw[iX,J4,J4]
  exact gU
theorem ZBk{g g':Nat->Nat}{n}(h:∀j,j<n->g j=g' j):N4 g n=N4 g' n:=by
 apply dM
 .simp[Gp]
 .intro i h1 h2
  rw[J4,J4,h i (by simpa [Gp]using h1)]
theorem ZD0{T base g n c:Nat}{w xs}(h:own T base w (.slice (P_ g) n c) xs){k}(hk:k<xs.length)(y)(hy:Bj y):
 own T base (w.setCell ⟨g,k,none⟩ (.int .i64 y)) (.slice (P_ g) n c) (xs.set k y):=by
 have h1:=h.setCell (k:=k) (j:=0) hk ZE (.int .i64 y) y (fun ecs he=>ZOk)
 rw[show k*El.size Int+0=k from eF k]at h1;exact h1
theorem Tryz.infoInt:(Tryz.prog.info? 3).map (fun i=>(i.zero,i.size,i.bytes))=some (some (.int .i64 0),1,8):=ZB
theorem AkA(w:World)(n base)(hb:base<=w.heap.size)(hn:n<=maxLen):own 3 base (w.alloc (.cells (bF #[.int .i64 0] n) 3)) (.slice (P_ w.heap.size) n n) (N4 (fun _=>0) n):=by
 have hf:Ck 3 (w.alloc (.cells (bF #[.int .i64 0] n) 3)) w.heap.size n n (N4 (fun _=>0) n):=by
  refine⟨bF #[.int .i64 0] n,bC w _,iG,fun i hi pT=>⟨[.int .i64 0],⟨?_,?_⟩,fun j u hu=>?_⟩⟩
  .rw[J4];exact ZS
  .rw[J4];rfl
  .refine' ZJZ;rw[show i*El.size Int+0=i from eF i];simp[bF,Nat.mod_one,show i<n by simpa [Gp]using hi]
 exact hf.own (by rw[Gp]) hb hn
theorem Ap9(v)(g:Nat->Nat)(n w)(hv:R_ w v (N4 g (n+1))):
 ya 276 #[v] w (.int .i64 (Mz g n:Nat)):=by
 obtain⟨A,m,c,rfl,hn,hc,hm,hr⟩:=hv;rw[Gp]at hn;refine' zm;obtain⟨b,o,rfl,hb,i0,c0⟩:=HR.out.int 0 (by rw[Gp];omega);rw[J4]at c0 i0;have c0':w.cell? ⟨b,o,none⟩=some (.int .i64 (g 0:Nat)):=c0;clear c0;have h1:¬((n:Int)+1<1):=ZA
 go_enter func276,ntmps276;go_wp2
 go_loop[3,4] (fun t i=>∃(k m:Nat),k<=n/\i=.int .i64 ((k:Int)+1)/\t=.int .i64 (m:Int)/\Hid (m=Mz g k)) (fun _ i=>n+1 - (intOf i).toNat)
 case atStart=>exact⟨0,g 0,aN _,rfl,rfl,rfl⟩
 case round=>
  obtain⟨k,m,hk,rfl,rfl,HM⟩:=hrel;by_cases ab:k<n
  .obtain⟨b',o',hA,_,_,c1⟩:=HR.out.int (k+1) (by rw[Gp];omega)
   refine' eX;rw[J4]at c1;have hx:Mz g (k+1)=max m (g (k+1)):=by{rw[HM.out];rfl};have HX:=aA hx;clear hx;generalize g (k+1)=y at *;have qi:w.cell? ⟨b,o+(k+1),none⟩=some (.int .i64 (y:Int)):=c1;clear c1;have km:(0:Int)<=(k:Int)+1:=ZA
   have lI:((k:Int)+1).toNat=k+1:=ZA
   by_cases hmy:(m:Int)<(y:Int)
   .go_wp2
    go_round
    case rel=>exact⟨k+1,y,ZA,ZJ,rfl,by show _=_;rw[HX.out];omega⟩
    case measure=>exact ZK
   .go_wp2
    go_round
    case rel=>exact⟨k+1,m,ZA,ZJ,rfl,by show _=_;rw[HX.out];omega⟩
    case measure=>exact ZK
  .have HE:=aA (show k=n by omega)
   refine' ZO;exact⟨Bo (by rw[<-HE.out,<-HM.out]),rfl⟩
theorem ZBu(v vb p xs w)(hv:rdP w w.heap.size v p)(hb:R_ w vb xs):
 Calls Tryz.prog 27 #[v,vb] w fun e w'=>∃vL vO,e=.returned (.tuple #[vL,vO,.bool (M4 p xs)])/\own 119 w.heap.size w' vL (Dr p xs)/\own 119 w.heap.size w' vO (Ha p xs)/\apart vL vO/\B_ w w':=by
 refine' Sc;have HQ:Hid (M4 p xs=(Bq p&&z_ xs)):=rfl;go_enter func27,ntmps27
 refine' zG;refine(Ok _ _ p xs _ HP.out HB.out).mono ?_;refine' zh;cases h1:(Bq p&&z_ xs)
 .have HF:Hid (M4 p xs=false):=by show _=_;rw[HQ.out,h1]
  clear h1;have HE:Hid (Dr p xs=[]/\Ha p xs=[]):=by unfold Dr Ha;rw[HF.out];exact ZW
  have o1:own (α:=Ltr) 119 w.heap.size (w1.alloc (.cells #[] 119)) (.slice (P_ w1.heap.size) 0 0) []:=own.made0 w1 _ (aI bj l1.size);have o2:own (α:=Ltr) 119 w.heap.size ((w1.alloc (.cells #[] 119)).alloc (.cells #[] 119)) (.slice (some ⟨(w1.alloc (.cells #[] 119)).heap.size,0,none⟩) 0 0) []:=own.made0 _ _ ZMX;have O1:=aA (o1.alloc (.cells #[] 119));have O2:=aA o2;clear o1 o2
  refine' zX;refine⟨_,_,Bf ZX,by rw[HE.out.1];exact O1.out,by rw[HE.out.2];simpa using O2.out,.inr ZEd,Aa HT.out (Ae (Ae l1 _) _)⟩
 refine' ZHZ;have kw:=Cq hh.2;have HF:Hid (M4 p xs=true):=by show _=_;rw[HQ.out,h1]
 clear h1 hh;refine' ZEe;have qq:1<=M/\M<=4:=Yl
 have HY:Hid (Dr p xs=Cd p 0 M xs/\Ha p xs=Bn (fun x=>Dm p x.code 0) xs):=by unfold Dr Ha;rw[HF.out,pZ.out,bE];exact ZW
 refine' ZC;refine(Np _ _ p xs 0 _ (HP.out.on l1) (HB.out.on l1) g1 g2 ZA ZA ZA).mono ?_;rintro e w2 ⟨vB,vO,vs,rfl,hB,hR,hF,b2⟩;have l2:=Aa l1 b2;have j8:Hid (Fu 27 119 w0.heap.size w2 vB (Bm (fun x=>Dm p x.code 0) p.bins.toNat (Cd p 0 0 xs))):=⟨vs,hB.base_ l1.size⟩;have ak:=aA (hR.base_ l1.size);clear hB hR hF b2
 refine' ZC;go_loopw[7,9] (fun t i wr=>∃j:Nat,j+1<=M/\i=.int .i64 ((j:Int)+1)/\B_ w0 wr/\Fu 27 119 w0.heap.size wr t (Bm (fun x=>Dm p x.code j) p.bins.toNat (Cd p 0 j xs))/\own 119 w0.heap.size wr vO (Bn (fun x=>Dm p x.code 0) xs)) (fun _ i _=>M - (intOf i).toNat)
 case atStart=>exact⟨0,qq.1,ZJ,l2,j8.out,ak.out⟩
 case round=>
  obtain⟨j,hj,rfl,lr,hB,hR⟩:=hrel;refine' zd;clear l2 j8 ak l1 l0;obtain⟨A7,n7,c7,rfl,XJ,ym,xJ,_⟩:=hB.rd;clear XJ ym xJ;have XK:=aA hB.rd;have HR:=aA hR;have j7:(Bm (fun x=>Dm p x.code j) p.bins.toNat (Cd p 0 j xs)).flatten.length<=60:=aI (Ez _) (aI (Lr p j 0 xs) kw);have HS:Hid (Cd p 0 (j+1) xs=(Bm (fun x=>Dm p x.code j) p.bins.toNat (Cd p 0 j xs)).flatten):=by have:=Mc p j 0 xs;exact Sb
  rw[<-HS.out]at j7;clear hB hR;have CJ:Hid (∀W,B_ w3 W->Calls Tryz.prog 75 #[.slice A7 n7 c7] W fun e w'=>∃v',e=.returned v'/\own 119 W.heap.size w' v' (Cd p 0 (j+1) xs)/\B_ W w'):=fun W hW=>by have h:=Im _ _ W (XK.out.on hW) (by rw[<-HS.out];omega);rw[<-HS.out]at h;exact h
  generalize kL:Cd p 0 (j+1) xs=ys at *;have uV:=aA kL;clear kL;by_cases ab:j+1<M
  .have dz:(j:Int)+1<p.passes:=Yl
   have CD:Hid (∀W,B_ w0 W->∀vf,R_ W vf ys->Calls Tryz.prog 74 #[.agg #[.int .i64 p.bins,.int .i64 p.passes,.slice A0 p.order.length c0],vf,.int .i64 ((j:Int)+1)] W fun e w'=>∃vB vO vs,e=.returned (.tuple #[vB,vO])/\Fi 27 119 W.heap.size w' vB (Bm (fun x=>Dm p x.code (j+1)) p.bins.toNat ys) vs/\own 119 W.heap.size w' vO (Bn (fun x=>Dm p x.code (j+1)) ys)/\D7 vO vB vs/\B_ W w'):=fun W hW vf hf=>
    Np _ vf p ys (j+1) W (HP.out.on hW) hf g1 g2 ZA ZA ZA
   have ld:=Ag lr;have GP:aD.wrap ((j:Int)+1)=(j:Int)+1:=bG _ ZA;refine' ZMY;have kX:Hid (Fu 27 119 w0.heap.size w5 XM (Bm (fun x=>Dm p x.code (j+1)) p.bins.toNat (Cd p 0 (j+1) xs))):=by{rw[uV.out];exact⟨XN,NJ.base_ (Aa ld b4).size⟩};have rF:=aA (HR.out.below (Aa (Aa SB b4) b5));clear NJ XO XP o4 b4 b5;go_wp2
   go_roundw
   case rel=>exact⟨j+1,ZA,ZJ,l5,kX.out,rF.out⟩
   case measure=>exact ZK
  .have dz:¬((j:Int)+1<p.passes):=Yl
   have HE:=aA (show j+1=M by omega)
   refine' ZMZ;have HA:=aA (Dd o4 HR.out (aC _));have O4:=aA (o4.base_ (aI bj lr.size));have R4:=aA ((HR.out.below b4).base_ bj);clear o4
   refine' zX;exact⟨_,_,Bf ZX,by rw[HY.out.1,<-HE.out,uV.out];exact O4.out,by rw[HY.out.2];exact R4.out,HA.out,Aa HT.out l4⟩
theorem AiI(v vb p xss)(k:Nat)(w)(hv:rdP w w.heap.size v p)(hb:R_ w vb xss)(hk:Hh p xss k=true):
 Calls Tryz.prog 260 #[v,vb,.int .i64 k] w fun e w'=>∃vL,e=.returned vL/\own 119 w.heap.size w' vL (J9 p xss k)/\B_ w w':=by
 refine' Sc;obtain⟨lv,jp,qP⟩:=Lf.1 hk;obtain⟨mG,nP,pq⟩:=Jz.1 lv;refine' Sa;have HF:=aA hk;clear hk lv mG;have j7:=Cq qP;clear qP jp;refine' ZEe;have hkM:k<M/\M<=4:=Yl
 have HY:Hid (J9 p xss (k:Int)=Cd p (k+1) (M - (k+1)) xss.flatten):=by show _=_;unfold J9;rw[HF.out,pZ.out,bE,bE];rfl
 have br:=HB.out;obtain⟨A7,n7,c7,rfl,XJ,ym,xJ,_⟩:=br;clear XJ ym xJ nP pq;go_enter func260,ntmps260
 refine' zG;go_loopw[1,7] (fun t i wr=>∃(j:Nat) (xv:List (List Ltr)),j<=M - (k+1)/\i=.int .i64 ((k:Int)+1+(j:Int))/\B_ w0 wr/\R_ wr t xv/\Hid (xv.flatten=Cd p (k+1) j xss.flatten)) (fun _ i _=>M - (intOf i).toNat)
 case atStart=>exact⟨0,xss,aN _,ZJ,l0,HB.out,rfl⟩
 case round=>
  obtain⟨j,xv,hj,rfl,lr,hB,HZ⟩:=hrel;refine' zd;clear l0;have XK:=aA hB;obtain⟨A8,n8,c8,rfl,LS,hc8,XL,_⟩:=hB;clear LS hc8 XL;have pw:(Cd p (k+1) j xss.flatten).length<=60:=aI (Lr p j (k+1) _) j7;have HS:=aA (Mc p j (k+1) xss.flatten);have CJ:Hid (∀W,B_ w3 W->Calls Tryz.prog 75 #[.slice A8 n8 c8] W fun e w'=>∃v',e=.returned v'/\own 119 W.heap.size w' v' (Cd p (k+1) j xss.flatten)/\B_ W w'):=fun W hW=>by have h:=Im _ xv W (XK.out.on hW) (by rw[HZ.out];omega);rw[HZ.out]at h;exact h
  generalize kL:Cd p (k+1) j xss.flatten=ys at *;have uV:=aA kL;clear kL;by_cases ab:k+1+j<M
  .have dz:(k:Int)+1+(j:Int)<p.passes:=Yl
   have CD:Hid (∀W,B_ w0 W->∀vf,R_ W vf ys->Calls Tryz.prog 74 #[.agg #[.int .i64 p.bins,.int .i64 p.passes,.slice A0 p.order.length c0],vf,.int .i64 ((k:Int)+1+(j:Int))] W fun e w'=>∃vB vO vs,e=.returned (.tuple #[vB,vO])/\Fi 27 119 W.heap.size w' vB (Bm (fun x=>Dm p x.code (k+1+j)) p.bins.toNat ys) vs/\own 119 W.heap.size w' vO (Bn (fun x=>Dm p x.code (k+1+j)) ys)/\D7 vO vB vs/\B_ W w'):=fun W hW vf hf=>by{have h:=Np _ vf p ys (k+1+j) W (HP.out.on hW) hf g1 g2 ZA ZA ZA;rw[show((k+1+j:Nat):Int)=(k:Int)+1+(j:Int) by omega]at h;exact h};have ld:=Ag lr;refine' ZMY;have kX:Hid (R_ w5 XM (Bm (fun x=>Dm p x.code (k+1+j)) p.bins.toNat ys)):=Fu.rd ⟨XN,NJ⟩;have JD:Hid ((Bm (fun x=>Dm p x.code (k+1+j)) p.bins.toNat ys).flatten=Cd p (k+1) (j+1) xss.flatten):=by{show _=_;rw[HS.out];rfl};clear NJ XO XP o4 b4 b5;go_wp2
   go_roundw
   case rel=>exact⟨j+1,_,ZA,ZJ,l5,kX.out,JD.out⟩
   case measure=>exact ZK
  .have dz:¬((k:Int)+1+(j:Int)<p.passes):=Yl
   have HE:=aA (show j=M - (k+1) by omega)
   refine' ZMZ;have O4:=aA (o4.base_ (aI bj lr.size));clear o4
   refine' ZI;exact⟨_,rfl,by rw[HY.out,<-HE.out,uV.out];exact O4.out,Aa HT.out l4⟩
theorem AbU{p ms}:Jt p ms=true↔Bq p=true/\ms.length<=60/\∀j,j<ms.length->Zh p.bins ms j=true:=by
 unfold Jt;simp only[aO,bD,dU,List.mem_range];constructor
 .rintro⟨⟨h1,h2⟩,h3⟩;exact⟨h1,h2,h3⟩
 .rintro⟨h1,h2,h3⟩;exact⟨⟨h1,h2⟩,h3⟩
theorem AdN{p ms}(h:Jt p ms=true):∀m∈ms,0<=m.bin/\m.bin<p.bins:=by intro m hm;obtain⟨k,hk,rfl⟩:=bP hm;have h1:=(AbU.1 h).2.2 k hk;rw[ZEH hk]at h1;simp only[aO,bD]at h1;exact h1.1.2
theorem AuF{p ms}(h:Jt p ms=true):∀j k (hj:j<ms.length) (hk:k<ms.length),j<k->ms[j].id≠ms[k].id:=by intro j k hj hk dx;have h1:=(AbU.1 h).2.2 k hk;rw[ZEH hk]at h1;simp only[aO,dU]at h1;have:=h1.2 ms[j] V3;exact zV
theorem AdE{ms x}(h:∀m∈ms,m.id≠x.id)(b):Ej ms x b=b:=by
 unfold Ej
 induction ms generalizing b with
 |nil=>rfl
 |cons m ms ih=> rw[List.foldl_cons,aM (h m ZF)];exact ih (fun m' mj=>h m' (by simp[mj])) b
theorem AiN(ms ns x b):Ej (ms++ns) x b=Ej ns x (Ej ms x b):=by unfold Ej;rw[ZBn]
theorem AtZ(ms c):(jR ms c= -1/\∀m∈ms,m.id≠c)\/∃k:Nat,∃hk:k<ms.length,jR ms c=k/\ms[k].id=c:=by
 unfold jR;by_cases h:ms.findIdx (fun y=>y.id==c)<ms.length
 .rw[aQ h]
  refine .inr ⟨_,h,rfl,?_⟩;have:=List.findIdx_getElem (w:=h);exact zV
 .rw[aM h]
  refine .inl ⟨rfl,fun m hm e=>h ?_⟩;exact List.findIdx_lt_length.2 ⟨m,hm,by simp[e]⟩
theorem As1{ms x k}(hk:k<ms.length)(he:ms[k].id=x.id)(hd:∀j l (hj:j<ms.length) (hl:l<ms.length),j<l->ms[j].id≠ms[l].id)(b):Ej ms x b=ms[k].bin:=by
 have e:ms=ms.take k++ms[k]::ms.drop (k+1):=by conv=>lhs;rw[<-dQ k ms,cU hk]
 refine(aU (fun l=>Ej l x b) e).trans ?_;show Ej (ms.take k++ms[k]::ms.drop (k+1)) x b=_;rw[AiN];unfold Ej;rw[List.foldl_cons,aQ he];have h2:∀m∈ms.drop (k+1),m.id≠x.id:=fun m hm=>by obtain⟨i,hi,rfl⟩:=bP hm;rw[dV]at hi;rw[iJ,<-he];exact Ne.symm (hd k (k+1+i) hk ZA ZA)
 have:=AdE h2 ms[k].bin;unfold Ej at this;exact this
theorem Ke{xs}:z_ xs=true↔xs.length<=60/\(∀x∈xs,1<=x.id/\x.id<=9999/\Ap x.code=true)/\xs.Pairwise fun x y=>x.id≠y.id:=by
 rw[Ep,dJ];constructor
 .rintro⟨h1,h2⟩
  refine⟨h1,fun x hx=>?_,fun i j hi hj rg=>(h2 j hj).2.2.2 i rg⟩;refine' eY;exact⟨(h2 k hk).1,(h2 k hk).2.1,(h2 k hk).2.2.1⟩
 .rintro⟨h1,h2,h3⟩
  exact⟨h1,fun k hk=>⟨(h2 _ (aS hk)).1,(h2 _ (aS hk)).2.1,(h2 _ (aS hk)).2.2,fun j hj=>h3 j k ZA hk hj⟩⟩
theorem BcK{xs:List Ltr}(h:xs.Pairwise fun x y=>x.id≠y.id):∀x∈xs,∀y∈xs,x.id=y.id->x=y:=by
 intro x hx y hy e;refine' ZEu;obtain⟨j,hj,rfl⟩:=bP hy;rw[dJ]at h;rcases eT i j with h1|h1|h1
 .exact absurd e (h i j hi hj h1)
 .subst h1;rfl
 .exact absurd e.symm (h j i hj hi h1)
theorem AnG{xs}{xss:List (List Ltr)}(f:Ltr->Int)(h:z_ xs=true)(hl:xss.flatten.length<=xs.length)(hm:∀ys∈xss,∀x∈ys,x∈xs)(hp:∀ys∈xss,ys.Pairwise fun x y=>x.id≠y.id)
 (hf:∀k (hk:k<xss.length),∀x∈xss[k],f x=(k:Int)):z_ xss.flatten=true:=by
 obtain⟨h1,h2,h3⟩:=Ke.1 h;refine Ke.2 ⟨ZA,fun x hx=>?_,?_⟩
 .obtain⟨ys,kL,xX⟩:=List.mem_flatten.1 hx
  exact h2 x (hm ys kL x xX)
 .rw[List.pairwise_flatten]
  refine⟨hp,?_⟩;rw[dJ];intro i j hi hj rg x hx y hy e;have:=BcK h3 x (hm _ (aS hi) x hx) y (hm _ (aS hj) y hy) e;subst this;have h4:=hf i hi x hx;have h5:=hf j hj x hy;omega
theorem Lq{xs}(f:Ltr->Int)(n)(h:z_ xs=true):z_ (Bm f n xs).flatten=true:=by
 refine AnG f h (Ez xs) (fun ys kL x hx=>?_) (fun ys kL=>?_) (fun k hk x hx=>?_)
 .refine' ZEv;rw[Gj]at hx;exact(List.mem_filter.1 hx).1
 .refine' ZEv;rw[Gj];exact(Ke.1 h).2.2.filter _
 .rw[Gj]at hx
  simpa using(List.mem_filter.1 hx).2
theorem Pt(p):∀(n k:Nat) (xs:List Ltr),z_ xs=true->z_ (Cd p k n xs)=true
 |0,_,_,h=>h
 |n+1,k,xs,h=>Pt p n (k+1) _ (Lq _ _ h)
def Gv(f:Ltr->Int)(i:Nat)(ys:List Ltr):List Ltr:=ys.filter fun x=>f x != (i:Int)
def D8(f:Ltr->Int)(i:Nat)(ys:List Ltr):List Ltr:=ys.filter fun x=>f x==(i:Int)
def Mh(f:Ltr->Int)(xss:List (List Ltr))(n:Nat):List Ltr:=(List.range n).flatMap fun i=>Gv f i (xss.getD i [])
def Fd(f:Ltr->Int)(xss:List (List Ltr))(j:Nat):List (List Ltr):=(List.range xss.length).map fun k=>if k<j then D8 f k (xss.getD k [])else []
def D9(f:Ltr->Int)(base:List (List Ltr))(zs:List Ltr):List (List Ltr):=(List.range base.length).map fun k=>base.getD k []++D8 f k zs
theorem G4(f:Ltr->Int)(xss j):(Fd f xss j).length=xss.length:=by simp[Fd]
theorem ZA1(f:Ltr->Int)(base zs):(D9 f base zs).length=base.length:=by simp[D9]
theorem Ln(f:Ltr->Int)(xss j k)(h:k<(Fd f xss j).length):(Fd f xss j)[k]=if k<j then D8 f k (xss.getD k [])else []:=by simp[Fd]
theorem Ly(f:Ltr->Int)(base zs k)(h:k<(D9 f base zs).length)(h':k<base.length):(D9 f base zs)[k]=base[k]++D8 f k zs:=by simp[D9,h']
theorem ZAW(f:Ltr->Int)(xss):Fd f xss 0=List.replicate xss.length []:=by
 apply dM
 .simp[Fd]
 .intro i h1 h2;simp[Fd]
theorem ZBx{f:Ltr->Int}{xss j}(h:j<xss.length):(Fd f xss j).set j (D8 f j [])=Fd f xss j:=by
 apply dM
 .simp
 .intro i h1 h2
  rw[iX]
  split
  .rename_i e;subst e;rw[Ln,aM (Nat.lt_irrefl _)];rfl
  .rfl
theorem ZA0{f:Ltr->Int}{xss j}(h:j<xss.length):(Fd f xss j).set j (D8 f j xss[j])=Fd f xss (j+1):=by
 apply dM
 .simp[G4]
 .intro i h1 h2
  rw[iX]
  split
  .rename_i e;subst e;rw[Ln,aQ ZA];simp[h]
  .rw[Ln,Ln]
   by_cases hi:i<j
   .rw[aQ hi,aQ ZA]
   .rw[aM hi,aM ZA]
theorem AbS{f:Ltr->Int}{i:Nat}{ys:List Ltr}{m}(h:m<ys.length)(hf:f ys[m]=(i:Int)):D8 f i (ys.take (m+1))=D8 f i (ys.take m)++[ys[m]]:=by unfold D8;exact zn
theorem ZCM{f:Ltr->Int}{i:Nat}{ys:List Ltr}{m}(h:m<ys.length)(hf:f ys[m]≠(i:Int)):D8 f i (ys.take (m+1))=D8 f i (ys.take m):=by unfold D8;exact zn
theorem Ak0{f:Ltr->Int}{i:Nat}{ys:List Ltr}{m}(h:m<ys.length)(hf:f ys[m]=(i:Int)):Gv f i (ys.take (m+1))=Gv f i (ys.take m):=by unfold Gv;exact zn
theorem AhJ{f:Ltr->Int}{i:Nat}{ys:List Ltr}{m}(h:m<ys.length)(hf:f ys[m]≠(i:Int)):Gv f i (ys.take (m+1))=Gv f i (ys.take m)++[ys[m]]:=by unfold Gv;exact zn
theorem ZC1{f:Ltr->Int}{xss n}(h:n<xss.length):Mh f xss (n+1)=Mh f xss n++Gv f n xss[n]:=by unfold Mh;rw[fN,List.flatMap_append];simp[h]
theorem An7{L:List (List Ltr)}{j r s ys}(h:j<(L.set j r).length)(hs:s=(L.set j r)[j]++ys):(L.set j r).set j s=L.set j (r++ys):=by subst hs;rw[List.set_set,ZAZ]
theorem AjW{f:Ltr->Int}{base}{zs:List Ltr}{i d:Nat}(h:i<zs.length)(hf:f zs[i]=(d:Int))(hd:d<(D9 f base (zs.take i)).length):
 D9 f base (zs.take (i+1))=(D9 f base (zs.take i)).set d ((D9 f base (zs.take i))[d]++[zs[i]]):=by
 apply dM
 .simp[D9]
 .intro k h1 h2
  have hk:k<base.length:=by simpa [D9]using h1
  rw[iX,Ly _ _ _ _ _ hk]
  split
  .rename_i e;subst e
   rw[Ly _ _ _ _ _ hk,AbS h hf,cZ]
  .rename_i e
   rw[Ly _ _ _ _ _ hk,ZCM h (by rw[hf];omega)]
theorem AfR{f:Ltr->Int}{base}{zs:List Ltr}{i}(h:i<zs.length)(hf:f zs[i]<0):D9 f base (zs.take (i+1))=D9 f base (zs.take i):=by
 apply dM
 .simp[D9]
 .intro k h1 h2
  have hk:k<base.length:=by simpa [D9]using h1
  rw[Ly _ _ _ _ _ hk,Ly _ _ _ _ _ hk,ZCM h ZA]
theorem AkH(f:Ltr->Int)(base):D9 f base []=base:=by
 apply dM
 .simp[D9]
 .intro k h1 h2;rw[Ly _ _ _ _ _ h2];simp[D8]
theorem AaE(f:Ltr->Int)(i ys):(D8 f i ys).length<=ys.length:=bL _ _
theorem AjI(f:Ltr->Int)(i ys):(Gv f i ys).length<=ys.length:=bL _ _
theorem AzJ(f:Ltr->Int)(i ys):(D8 f i ys).length+(Gv f i ys).length=ys.length:=by
 unfold D8 Gv
 induction ys with
 |nil=>rfl
 |cons y ys ih=>
  by_cases h:f y=(i:Int)
  .simp[gR,h]at ih⊢;omega
  .simp[gR,h]at ih⊢;omega
theorem ZA8(f:Ltr->Int)(xss):∀n,n<=xss.length->(((Fd f xss n).flatten).length+(Mh f xss n).length=(xss.take n).flatten.length)
 |0,_=>by rw[ZAW];simp[Mh]
 |n+1,h=>by
  have ih:=ZA8 f xss n ZA;rw[ZC1 ZA,aT,aJ ZA,bX,aT,<-ZA0 ZA];simp only[dC,fU,eI];have hn:n<(Fd f xss n).length:=by rw[G4];omega
  have jy:∀(L:List (List Ltr)) (n:Nat) (r:List Ltr) (h:n<L.length),((L.set n r).flatten).length+(L[n]).length=(L.flatten).length+r.length:=ZNt
  have h1:=jy (Fd f xss n) n (D8 f n xss[n]) hn;rw[Ln,aM (Nat.lt_irrefl _)]at h1;have h2:=AzJ f n xss[n];simp only[cT,dF]at h1;omega
theorem ArZ(f:Ltr->Int)(base zs):(D9 f base zs).flatten.length=base.flatten.length+(Bm f base.length zs).flatten.length:=by
 have jy:∀n,n<=base.length->((List.range n).map fun k=>base.getD k []++D8 f k zs).flatten.length=(base.take n).flatten.length+((List.range n).map fun(k:Nat)=>zs.filter fun x=>f x==(k:Int)).flatten.length:=by
  intro n
  induction n with
  |zero=>intro _;simp
  |succ n ih=> intro h;have:=ih ZA;rw[fN,cG,cG,bX,bX,aT,aT,aJ ZA,bX,aT,this];simp only[cD,gE,dC,fU,eI,aT];refine' ZH6;simp only[gS,D8];omega
 have:=jy base.length (aC _);rw[bA]at this;exact this
def Hq(f:Ltr->Int)(xss:List (List Ltr)):List (List Ltr):=D9 f (Fd f xss xss.length) (Mh f xss xss.length)
def Kt(f:Ltr->Int)(xss:List (List Ltr)):List Ltr:=Bn f (Mh f xss xss.length)
theorem ZCk(f:Ltr->Int)(xss):(Hq f xss).length=xss.length:=by unfold Hq;rw[ZA1,G4]
theorem Am6(f:Ltr->Int)(xss n)(h:n<=xss.length):(Mh f xss n).length<=(xss.take n).flatten.length:=by have:=ZA8 f xss n h;omega
theorem AoC(f:Ltr->Int)(xss):(Mh f xss xss.length).length<=xss.flatten.length:=by
 have:=Am6 f xss xss.length (aC _)
 rwa [bA]at this
theorem Am5(f:Ltr->Int)(xss):(Hq f xss).flatten.length<=xss.flatten.length:=by unfold Hq;rw[ArZ,G4];have h1:=ZA8 f xss xss.length (aC _);rw[bA]at h1;have h2:=Ez (f:=f) (n:=xss.length) (Mh f xss xss.length);omega
theorem AoY(f:Ltr->Int)(xss):∀n,n<=xss.length->(Mh f xss n).Sublist (xss.take n).flatten
 |0,_=>by simp[Mh]
 |n+1,h=>by rw[ZC1 ZA,aJ ZA,bX];refine(AoY f xss n ZA).append ?_;simp only[dC,fU,eI];exact dR
theorem AkD(f:Ltr->Int)(xss):(Mh f xss xss.length).Sublist xss.flatten:=by
 have:=AoY f xss xss.length (aC _)
 rwa [bA]at this
theorem ZBj(f:Ltr->Int)(xss k)(h:k<(Hq f xss).length)(h':k<xss.length):(Hq f xss)[k]=D8 f k xss[k]++D8 f k (Mh f xss xss.length):=by have e:(Hq f xss)[k]=(D9 f (Fd f xss xss.length) (Mh f xss xss.length))[k]'(by rw[ZA1,G4];exact h'):=rfl;rw[e,Ly _ _ _ _ _ (by rw[G4];exact h'),Ln,aQ h'];simp[h']
theorem AwH{f:Ltr->Int}{xss n x}(h:x∈Mh f xss n)(hn:n<=xss.length):∃i,∃hi:i<xss.length,x∈xss[i]/\f x≠(i:Int):=by
 unfold Mh at h;rw[List.mem_flatMap]at h;obtain⟨i,hi,hx⟩:=h;have vP:i<xss.length:=by have:=List.mem_range.1 hi;omega
 unfold Gv at hx;rw[bH,aR vP]at hx;obtain⟨h1,h2⟩:=List.mem_filter.1 hx;exact⟨i,vP,h1,V2⟩
theorem AdL(f:Ltr->Int)(xss)(h:z_ xss.flatten=true):z_ (Hq f xss).flatten=true:=by
 have NL:=(Ke.1 h).2.2;refine AnG f h (Am5 f xss) (fun ys kL x hx=>?_) (fun ys kL=>?_) (fun k hk x hx=>?_)
 .refine' ZEv;have gj:k<xss.length:=ZH7
  rw[ZBj _ _ _ _ gj]at hx;rcases List.mem_append.1 hx with hx|hx
  .exact List.mem_flatten.2 ⟨xss[k],aS gj,(List.mem_filter.1 hx).1⟩
  .exact(AkD f xss).subset (List.mem_filter.1 hx).1
 .refine' ZEv;have gj:k<xss.length:=ZH7
  rw[ZBj _ _ _ _ gj,List.pairwise_append];have nP:=List.pairwise_flatten.1 NL;refine⟨(nP.1 _ (aS gj)).filter _,(NL.sublist (AkD f xss)).filter _,fun x hx y hy e=>?_⟩;have ke:=(List.mem_filter.1 hx).1;have mf:=List.mem_filter.1 hy;obtain⟨i,hi,UW,ay⟩:=AwH mf.1 (aC _);have hyk:f y=(k:Int):=by simpa using mf.2
  have MY:i≠k:=fun e=>by subst e;exact ay hyk
  have pq:=List.pairwise_iff_getElem.1 nP.2;rcases Nat.lt_or_gt_of_ne MY with ab|ab
  .exact pq i k hi gj ab y UW x ke e.symm
  .exact pq k i gj hi ab x ke y UW e
 .have gj:k<xss.length:=ZH7
  rw[ZBj _ _ _ _ gj]at hx;rcases List.mem_append.1 hx with hx|hx
  .simpa using(List.mem_filter.1 hx).2
  .simpa using(List.mem_filter.1 hx).2
def Lo(p:Pln)(xs:List Ltr)(k:Int)(ms:List Mis):Bool:=Ku p k&&z_ xs&&Jt p ms
def fpF(p:Pln)(k:Int)(ms:List Mis)(x:Ltr):Int:=Ej ms x (Dm p x.code k.toNat)
def jD(p:Pln)(k:Int)(x:Ltr):Int:=Dm p x.code k.toNat
def Ld(p:Pln)(xss:List (List Ltr))(k:Int):List (List Ltr):=if Hh p xss k then Hq (jD p k) xss else []
def Tc(p:Pln)(xss:List (List Ltr))(k:Int):List Ltr:=if Hh p xss k then Kt (jD p k) xss else []
def Ew(p:Pln)(xs:List Ltr)(k:Int)(ms:List Mis):List (List Ltr):=Bm (fpF p k ms) p.bins.toNat (Cd p 0 k.toNat xs)
def Fr(p:Pln)(xs:List Ltr)(k:Int)(ms:List Mis):List Ltr:=if Lo p xs k ms then Cd p (k.toNat+1) (p.passes.toNat - (k.toNat+1)) (Hq (jD p k) (Ew p xs k ms)).flatten else []
theorem Um{p xs k ms}:Lo p xs k ms=true↔(Bq p=true/\0<=k/\k<p.passes)/\z_ xs=true/\Jt p ms=true:=by unfold Lo;rw[aO,aO,Jz,and_assoc]
theorem AcJ{p xs k ms}(h:z_ xs=true):z_ (Ew p xs k ms).flatten=true:=Lq _ _ (Pt p _ _ _ h)
theorem ApS(p xs k ms):(Ew p xs k ms).length=p.bins.toNat:=Hz _ _ _
theorem AfA{p xs k ms}(h:Lo p xs k ms=true):Hh p (Ew p xs k ms) k=true:=by obtain⟨h1,h2,h3⟩:=Um.1 h;exact Lf.2 ⟨Jz.2 h1,ApS _ _ _ _,AcJ h2⟩
theorem ArG{p xss k}(h:Hh p xss k=true):Hh p (Hq (jD p k) xss) k=true:=by obtain⟨h1,h2,h3⟩:=Lf.1 h;exact Lf.2 ⟨h1,by rw[ZCk];exact h2,AdL _ _ h3⟩
theorem AkN{p xs k ms}(h:Lo p xs k ms=true):Ld p (Ew p xs k ms) k=Hq (jD p k) (Ew p xs k ms)/\J9 p (Ld p (Ew p xs k ms) k) k=Fr p xs k ms/\Hh p (Ld p (Ew p xs k ms) k) k=true:=by
 have h1:=AfA h;have h2:=ArG h1;have h3:Ld p (Ew p xs k ms) k=Hq (jD p k) (Ew p xs k ms):=by unfold Ld;rw[aQ h1]
 refine⟨h3,?_,by rw[h3];exact h2⟩;rw[h3];unfold J9 Fr;rw[aQ h2,aQ h]
theorem Fi.snoc{α:Type}[Flat α]{T1 T2 base g m cap:Nat}{w w1 v u vs}{xss:List (List α)}{ys}
 (h:Fi T1 T2 base w v xss vs) (ho:own T2 base w u ys) (hf:D7 u v vs) (hn:own T1 base w1 (.slice (P_ g) m cap) (vs++[u])) (hg:w.grownBy w1 v.ownBlock) (ha:some g=v.ownBlock\/g=w.heap.size):
 Fi T1 T2 base w1 (.slice (P_ g) m cap) (xss++[ys]) (vs++[u]):=by
 refine' fQ;have TD:∀k (hk:k<(vs++[u]).length),apart (vs++[u])[k] v:=fun k hk=>by
  by_cases lH:k<vs.length
  .refine' ZEf;exact h5 k lH
  .refine' Wy;have:k - vs.length=0:=zZ
   refine' ZEg;exact hf.1
 have ab:∀k (hk:k<(vs++[u]).length) j,(vs++[u])[k].ownBlock=some j->j<w.heap.size:=fun k hk j=>by
  by_cases lH:k<vs.length
  .refine' ZEf;exact fun e=>((h3 k lH ZA).blk j e).2
  .refine' Wy;have:k - vs.length=0:=zZ
   refine' ZEg;exact fun e=>(ho.blk j e).2
 refine⟨hn,by simp[h2],fun k hk gj=>?_,fun j k hj hk ay=>?_,fun k hk=>?_⟩
 .by_cases lH:k<vs.length
  .refine' ZMa;exact(h3 k lH ZA).grown hg (h5 k lH)
  .have e1:k - vs.length=0:=zZ
   have e2:k - xss.length=0:=ZA
   refine' ZHa;simp only[e1,e2,dE];exact ho.grown hg hf.1
 .by_cases xM:j<vs.length
  .by_cases lH:k<vs.length
   exact ZMb
   .have e1:k - vs.length=0:=zZ
    refine' ZMc;exact Br (hf.2 j xM)
  .have e1:j - vs.length=0:=Wx
   by_cases lH:k<vs.length
   .refine' ZMd;exact hf.2 k lH
   .exfalso;simp at hj hk;omega
 .exact Br (Dg (Br (TD k hk)) ha fun j hj=>ab k hk j hj)
theorem Ac9(v vb vm p xs k ms w)(hv:rdP w w.heap.size v p)(hb:R_ w vb xs)(hm:R_ w vm ms):
 C_ 243 #[v,vb,.int .i64 k,vm] w (.bool (Lo p xs k ms)):=by
 refine' ZMe;have HQ:Hid (Lo p xs k ms=(Ku p k&&z_ xs&&Jt p ms)):=rfl;go_enter func243,ntmps243
 refine' ZHb;cases h1:Ku p k
 .have HF:Hid (Lo p xs k ms=false):=z7
  clear h1
  exact ZEh
 refine' zS;refine' ZEi;cases h2:z_ xs
 .have HF:Hid (Lo p xs k ms=false):=Ww
  clear h2
  refine' ZI;exact⟨Al HF.out.symm,Aa HT.out l2⟩
 refine' zN;have HF:Hid (Lo p xs k ms=Jt p ms):=ZEj
 refine' ZC;refine(ZCr _ _ p ms _ (HP.out.on l2) (HM.out.on l2)).mono ?_;refine' zB;refine' YG;exact ZMf
theorem rd.rows{α:Type}[El α]{w B n c A}{xs:List α}(h:rd w B (.slice A n c) xs):rdA w B A xs:=by obtain⟨A',n',c',h1,_,_,_,hr⟩:=h;injection h1 with h1 h2 h3;subst h1;exact hr
theorem Nn{α:Type}{xss:List (List α)}{k}(h:k<xss.length):xss[k].length<=xss.flatten.length:=(List.sublist_flatten_of_mem (aS h)).length_le
theorem AaK(f:Ltr->Int)(xss n d)(h:d<(Fd f xss n).length):(Fd f xss n)[d].length<=xss.flatten.length:=by
 rw[Ln];have hd:d<xss.length:=by rw[G4]at h;exact h
 split
 .rw[bH,aR hd]
  exact aI (AaE _ _ _) (Nn hd)
 .simp
theorem AcZ(f:Ltr->Int)(base zs d B)(h:d<(D9 f base zs).length)(hb:∀d (h:d<base.length),base[d].length<=B):(D9 f base zs)[d].length<=B+zs.length:=by
 have hd:d<base.length:=by rw[ZA1]at h;exact h
 rw[Ly _ _ _ _ _ hd,aT];have:=hb d hd;have:=AaE f d zs;omega
theorem AdZ(v vb p xss k w)(hv:rdP w w.heap.size v p)(hb:R_ w vb xss):
 Calls Tryz.prog 246 #[v,vb,.int .i64 k] w fun e w'=>∃vB vO vs,e=.returned (.tuple #[vB,vO,.bool (Hh p xss k)])/\Fi 27 119 w.heap.size w' vB (Ld p xss k) vs/\own 119 w.heap.size w' vO (Tc p xss k)/\D7 vO vB vs/\B_ w w':=by
 refine' Yk;obtain⟨A,n,c,rfl,hn,hc,hm,hr⟩:=hb.on HT.out;refine' zm;refine' ZEk;clear ah;refine' zT;clear ac hv hb;refine' Yj;have ca:Hid (∀h:Hh p xss k=false,∀W:World,Fi 27 119 w.heap.size W (.slice none 0 0) (Ld p xss k) []/\own 119 w.heap.size W (.slice none 0 0) (Tc p xss k)):=fun h W=>by unfold Ld Tc;rw[h];exact⟨Md _ _ _ _,own.nil_ _ _ _⟩
 refine' S_;go_enter func246,ntmps246
 refine' ZMg;cases h1:Hh p xss k
 .have HF:=aA h1;exact ZMh
 refine' ZHc;have HF:=aA h1;refine' ZMi;obtain⟨N,hN⟩:∃N,xss.length=N:=⟨_,rfl⟩;have vC:=aA jp;clear qP jp;refine' S9;refine' ZMj;have HY:Hid (Ld p xss (k:Int)=D9 f (Fd f xss xss.length) (Mh f xss xss.length)/\Tc p xss (k:Int)=Bn f (Mh f xss xss.length)):=by unfold Ld Tc;rw[HF.out,lN.out];exact ZW
 clear nP pq hN;refine' ZMk;go_wp2;obtain⟨pY,j6⟩:=I3 (α:=Ltr) w1 27 119 xss.length w0.heap.size l1.size ZN;have lz:B_ w0 (w1.alloc (aB (bF #[.slice none 0 0] xss.length) 27)):=Ae l1 _;have nT:w0.heap.size<=w1.heap.size:=l1.size;generalize(w1.alloc (aB (bF #[.slice none 0 0] xss.length) 27))=wz at *;generalize w1.heap.size=G at *;clear b1 l1 fo;have lL:=aA j6;clear j6
 go_loopw[10,29] (fun t i wr=>∃(j:Nat) (vs:List Value),j<=xss.length/\i=.int .i64 j/\B_ w0 wr/\Fi 27 119 w0.heap.size wr (.slice (P_ G) xss.length xss.length) (Fd f xss j) vs/\own 119 w0.heap.size wr t (Mh f xss j)/\Hid (D7 t (.slice (P_ G) xss.length xss.length) vs)) (fun _ i _=>xss.length - (intOf i).toNat)
 case atStart=> refine' ZMl;rw[ZAW];exact lL.out
 case round=>
  obtain⟨j,vs,hj,rfl,lr,hB,hO,f9⟩:=hrel;refine' zO;have j8:=aA hB;refine' Zn;clear lz lL hB l0;by_cases ab:j<xss.length
  .refine' ZMm;go_loopw[10,36] (fun t i wi=>∃(m:Nat) (vs:List Value),m<=ys.length/\i=.int .i64 m/\B_ w0 wi/\Fi 27 119 w0.heap.size wi (.slice (P_ G) xss.length xss.length) (K.set j (D8 f j (ys.take m))) vs/\own 119 w0.heap.size wi t (zs++Gv f j (ys.take m))/\Hid (D7 t (.slice (P_ G) xss.length xss.length) vs)) (fun _ i _=>ys.length - (intOf i).toNat)
   case atStart=> refine⟨0,vs,aN _,rfl,lr,?_,by simpa [Gv]using HO.out,f9.out⟩;rw[dH,ij.out];exact j8.out
   case round=>
    obtain⟨m,ir,mj,rfl,li,qy,nI,gc⟩:=hrel;refine' zd;have rJ:=aA qy;clear qy lr j8 HO f9;by_cases py:m<ys.length
    .refine' ZMn;obtain⟨L,hL⟩:∃L,L=K.set j (D8 f j (ys.take m)):=⟨_,rfl⟩;clear hL;refine' ZMo;refine' S7;have ll:=Aa li (Aw de).1;refine' ZEl;refine' ZMp;refine' ZMq;refine' ZEm;refine' Rz;clear b4 B4;refine' ZMr;by_cases pQ:r=(j:Int)
     .refine' ZMs;have HE:=aA pQ;refine' ZMt;go_region_law (first|go_loud ((refine Ce (α:=Ltr) ZG (.tmp 52) (.tmp 54) 27 ZG w0.heap.size 119 i1 _ 24 aV ji dr du dw rfl ZE (.slice Au qs.length cu) qs x ZG ((jW.out.alloc _).drew) ⟨w4.heap.size,0,none⟩ 1 (Ltr.cells x) ZG ⟨⟨fq,fj⟩,rfl⟩ (Ft w4 _ (Ltr.cells x)) ZN ZA ZH ?_;refine' ZMu)))
      all_goals
       refine' ZMv;refine' ZMw;clear p1 p2 p3 gi;go_wp2
       go_roundw
       case rel=>exact⟨m+1,_,ZA,ZJ,p4,by rw[oV.out];exact P1.out,ZMx,P3.out⟩
       case measure=>exact ZK
     .refine' ZMy;have HE:=aA pQ;clear pQ
      go_wp2_with (at_builtin;refine An (α:=Ltr) rfl (.tmp 57) (.tmp 59) 27 rfl w0.heap.size 119 i1 _ 24 aV ji dr du dw rfl ZE (.slice AI zr.length cI) zr x rfl (jx.out.alloc _) ⟨w4.heap.size,0,none⟩ 1 (Ltr.cells x) rfl ⟨⟨fq,fj⟩,rfl⟩ (Bz w4 _ (Ltr.cells x)) ZN ZA ZH ?_;refine' zH)
      refine' ZHd;refine' ZMz;go_roundw
      case rel=>exact⟨m+1,ir,ZA,ZJ,l5,by rw[oV.out];exact kX.out,ZM0,mC⟩
      case measure=>exact ZK
    .have HE:=aA (show m=ys.length by omega)
     rw[HE.out,bA,<-f8.out]at nI;have qy:=rJ.out;rw[HE.out,bA,ff.out]at qy;refine' ZM1;go_roundw
     case rel=>exact⟨j+1,ir,ZA,ZJ,li,kV.out,im.out,gc.out⟩
     case measure=>exact ZK
  .have HE:=aA (show j=xss.length by omega)
   have hB:=j8.out;rw[HE.out]at hB hO;refine' ZM2;go_loopw[11,65] (fun t i wi=>∃(q:Nat) (vs:List Value),q<=ws.length/\i=.int .i64 q/\B_ w0 wi/\Fi 27 119 w0.heap.size wi (.slice (P_ G) xss.length xss.length) (D9 f K (ws.take q)) vs/\own 119 w0.heap.size wi t (Bn f (ws.take q))/\own 119 w0.heap.size wi (.slice AW ws.length cW) ws/\Hid (D7 t (.slice (P_ G) xss.length xss.length) vs)/\Hid (D7 (.slice AW ws.length cW) (.slice (P_ G) xss.length xss.length) vs)/\Hid (apart t (.slice AW ws.length cW))) (fun _ i _=>ws.length - (intOf i).toNat)
   case atStart=> refine⟨0,vs,aN _,rfl,lr,?_,own.nil_ _ _ _,kQ.out,⟨.inl rfl,fun k hk=>.inl rfl⟩,f9.out,.inl rfl⟩;rw[dH,AkH];exact wP.out
   case round=>
    refine' ZM3;clear qy lr wP f9 kQ;have NW:=aA NV;clear NV;by_cases wQ:q<ws.length
    .refine' ZM4;replace d1:=d1 w3 (aF _ _);replace d2:=d2 w3 (aF _ _);refine' ZM5;refine' S7;have ll:=Aa li (Aw de).1;refine' ZEl;refine' ZM6;refine' ZMq;have FM:=aA (NW.out.below B4);refine' ZEm;refine' Rz;clear b4 B4;have yE:=qg.out;by_cases bc:r<0
     .refine' ZM7;go_wp2_with (at_builtin;refine An (α:=Ltr) rfl (.tmp 76) (.tmp 78) 27 rfl w0.heap.size 119 i1 _ 24 aV ji dr du dw rfl ZE (.slice AI rs.length cI) rs x rfl (jx.out.alloc _) ⟨w4.heap.size,0,none⟩ 1 (Ltr.cells x) rfl ⟨⟨fq,fj⟩,rfl⟩ (Bz w4 _ (Ltr.cells x)) ZN ZA ZH ?_;refine' zH)
      exact ZM8
     .refine' ZM9;go_region_law (first|go_loud ((refine Ce (α:=Ltr) ZG (.tmp 85) (.tmp 87) 27 ZG w0.heap.size 119 i1 _ 24 aV ji dr du dw rfl ZE (.slice Au qs.length cu) qs x ZG ((jW.out.alloc _).drew) ⟨w4.heap.size,0,none⟩ 1 (Ltr.cells x) ZG ⟨⟨fq,fj⟩,rfl⟩ (Ft w4 _ (Ltr.cells x)) ZN ZA ZH ?_;refine' ZEn)))
      all_goals exact ZNA
    .have HE:=aA (show q=ws.length by omega)
     go_wp2
     go_ret3
     have hB:=rJ.out;have hF:=gc.out;rw[HE.out,bA,<-NU.out]at hB;rw[HE.out,bA,<-HYO.out]at nI;exact⟨_,_,ir,Bf ZX,hB.base_ bj,nI.base_ bj,hF,Aa HT.out li⟩
theorem Ab9(v vb vm p xs k ms w)(hv:rdP w w.heap.size v p)(hb:R_ w vb xs)(hm:R_ w vm ms):
 Calls Tryz.prog 157 #[v,vb,.int .i64 k,vm] w fun e w'=>∃vL,e=.returned (.tuple #[vL,.bool (Lo p xs k ms)])/\own 119 w.heap.size w' vL (Fr p xs k ms)/\B_ w w':=by
 refine' ZMe;have ca:Hid (∀h:Lo p xs k ms=false,∀W:World,own 119 w.heap.size W (.slice none 0 0) (Fr p xs k ms)):=fun h W=>by unfold Fr;rw[h];exact zj
 go_enter func157,ntmps157
 refine' zG;refine(Ac9 _ _ _ p xs k ms _ HP.out HB.out HM.out).mono ?_;refine' zh;cases h1:Lo p xs k ms
 exact ZNB;obtain⟨⟨mG,nP,pq⟩,h2,h3⟩:=Um.1 h1;refine' Sa;have kw:=Cq h2;have HG:=aA (AdN h3);have ak:=aA (AkN h1);have HF:=aA h1;clear h1 h2 h3 mG;refine' S9;refine' ZNC;have mg:=aA (Lr p k 0 xs)
 refine' ZC;refine(ZA5 _ _ p xs 0 k _ (HP.out.on l1) (HB.out.on l1) g1 g2 ZA (aN _) ZA ZA).mono ?_;rintro e w2 ⟨vL,vO,rfl,hL,hO,hA,b2⟩;have l2:=Aa l1 b2;have HL:=aA hL;clear hL hO hA
 refine' ZC;refine(ZA4 _ _ _ p (Cd p 0 k xs) k ms _ (HP.out.on l2) HL.out.rd (HM.out.on l2) g1 g2 ZA ZA HG.out ZHe).mono ?_;rw[<-QL.out];rintro e w3 ⟨vB,vO3,vs,rfl,hB,hR,hF,b3⟩;refine' YG;have j8:=aA (show Fu 27 119 w2.heap.size w3 vB (Ew p xs (k:Int) ms)from⟨vs,hB⟩);clear hB hR hF
 refine' ZC;refine(AdZ _ _ p (Ew p xs (k:Int) ms) k _ (HP.out.on l3) j8.out.rd).mono ?_;rintro e w4 ⟨vB4,vO4,vs4,rfl,hB4,hR4,hF4,b4⟩;have l4:=Aa l3 b4;have bu:=aA (show Fu 27 119 w3.heap.size w4 vB4 (Ld p (Ew p xs (k:Int) ms) k)from⟨vs4,hB4⟩);clear hB4 hR4 hF4;generalize ti:Ld p (Ew p xs (k:Int) ms) k=rb at *;clear ti
 refine' ZC;refine(Aa5 _ _ p rb k _ (HP.out.on l4) bu.out.rd).mono ?_;rw[ak.out.2.1,ak.out.2.2];rintro e w5 ⟨vR,rfl,hR,b5⟩;have l5:=Aa l4 b5;have rF:=aA hR;clear hR
 refine' ZQ;exact⟨_,Bf ZX,rF.out.base_ (aI bj l4.size),Aa HT.out l5⟩
theorem ZCb(v)(xss:List (List Ltr))(w)(hv:R_ w v xss)(hn:xss.length<=1000)(hl:xss.flatten.length<=1048576):
 Calls Tryz.prog 84 #[v] w fun e w'=>∃v' vs,e=.returned v'/\Fi 27 119 w.heap.size w' v' xss vs/\B_ w w':=by
 refine' ZHf;refine' S_;go_enter func84,ntmps84;refine' ZND;go_loopw[3,9] (fun t i wr=>∃(k:Nat) (vs:List Value),k<=xss.length/\i=.int .i64 k/\B_ w wr/\Fi 27 119 w.heap.size wr t (xss.take k) vs) (fun _ i _=>xss.length - (intOf i).toNat)
 case atStart=>exact ZHg
 case round=>
  refine' ZHh;clear l0 uo;by_cases ab:k<xss.length
  .refine' ZHi;have rW:vs.length=k:=ZNE
   clear hB;refine' V6;have HS:Hid (xss.take (k+1)=xss.take k++[xss[k]]):=aJ ab;have MJ:xss[k].length<=1048576:=aI (Nn ab) hl;refine' ZEo;have HU:Hid (R_ w (.slice A2 m2 c2) ys):=⟨A2,m2,c2,rfl,nD,kG,kh,fh⟩;clear nD kG kh fh;refine' Ry;have HVL:=aA rW;clear rW;have ie:w.heap.size<=w1.heap.size:=lr.size;have BZ:Hid (own (α:=Ltr) 119 w1.heap.size (w1.alloc (aB #[] 119)) (.slice (P_ w1.heap.size) 0 0) []):=own.made0 w1 _ (aC _);have la:B_ w1 (w1.alloc (aB #[] 119)):=Ae (aF _ _) _;have VR:vs.length<=1000:=by{have:=HVL.out;omega};go_wp2_with (first|(at_builtin;refine Cu (α:=Ltr) rfl (.tmp 14) (.tmp 15) 27 rfl w1.heap.size 119 i1 _ 24 aV ji dr du dw rfl ZE (.slice (P_ w1.heap.size) 0 0) [] rfl BZ.out (.slice A2 m2 c2) ys rfl (w1.alloc (aB #[] 119)).heap.size (HU.out.on (Aa lr la)) V5 ZH la.size ?_;intro v' w2 kn jl _;have l2:B_ w1 w2:=la.trans (Ay BZ.out jl la.size);rw[bT]at kn;have im:=aA kn;have jd:w1.heap.size<=w2.heap.size:=l2.size;have uG:=Aa lr l2;obtain⟨A5,m5,c5,rfl,BE,_,_,_⟩:=kn.rd;subst BE;clear kn jl;have kV:=aA (HB.out.below l2);have uB:Hid (D7 (.slice A5 ys.length c5) (.slice AO vs.length cO) vs):=⟨Dd im.out HB.out.1 (aC _),fun i hi=>Dd im.out (HB.out.2.2.1 i hi (by have:=HB.out.2.1;omega)) (aC _)⟩)|(at_builtin;refine An (α:=Value) rfl (.tmp 13) (.tmp 17) 82 rfl w.heap.size 27 i0 _ 24 eU hi m7 ar ap rfl ZE (.slice AO vs.length cO) vs (.slice A5 ys.length c5) rfl (kV.out.1.alloc _) ⟨w2.heap.size,0,none⟩ 1 [.slice A5 ys.length c5] rfl ⟨rfl,rfl⟩ (Bz w2 _ [.slice A5 ys.length c5]) ZN ZA ZH ?_;intro g cap w3 mz er so uI))
   have l3:B_ w w3:=(Ae uG (aB #[.slice A5 ys.length c5] 27)).grown er ZH fun q hq=>(kV.out.1.blk q hq).1
   have ep:=aA (Fi.snoc (kV.out.below (Ae (aF _ _) (aB #[.slice A5 ys.length c5] 27))) ((im.out.base_ ie).alloc (aB #[.slice A5 ys.length c5] 27)) uB.out mz er so);exact ZNF
  .refine' Rw;refine' ZO;have h:=HB.out;rw[HE.out,bA]at h;exact⟨_,vs,rfl,h,lr⟩
theorem Aj3(v vb vm p xs)(k0:Nat)(ms w)(hv:rdP w w.heap.size v p)(hb:R_ w vb xs)(hm:R_ w vm ms)
 (h1:2<=p.bins) (h2:p.bins<=16) (fp:k0<=4) (pH:p.order.length<=1000) (qK:Jt p ms=true) (hl:xs.length<=1000):
 Calls Tryz.prog 307 #[v,vb,.int .i64 k0,vm] w fun e w'=>∃vB vO vs,e=.returned (.tuple #[vB,vO])/\Fi 27 119 w.heap.size w' vB (Bm (fun x=>Ej ms x (Dm p x.code k0)) p.bins.toNat xs) vs/\own 119 w.heap.size w' vO (Bn (fun x=>Ej ms x (Dm p x.code k0)) xs)/\D7 vO vB vs/\B_ w w':=by
 refine' ZEp;obtain⟨A,n,cp,rfl,hn,hc,px,hr⟩:=HB.out;subst hn;unfold maxLen at px;refine' Yi;obtain⟨AM,nM,cM,rfl,hnM,hcM,hmM,hrM⟩:=HM.out;subst hnM;unfold maxLen at hmM;have GQ:=aA hrM;clear hrM;have CU:w.heap.size<w0.heap.size:=by have:=kA.out;omega
 refine' ZHj;have QO:=aA (AdN qK);have UE:=aA (AuF qK);clear qK;have HF:Hid (∀x:Ltr, -1<=Ej ms x (Dm p x.code k0)/\Ej ms x (Dm p x.code k0)<N):=fun x=>by have:=ZAk QO.out x _ (M2 p x.code k0 h1);have:=HN.out;omega
 refine' ZNG;go_enter func307,ntmps307;refine' ZNH;go_loopw[11,12] (fun t i wr=>∃(k:Nat) (vs:List Value),k<=xs.length/\i=.int .i64 k/\B_ w0 wr/\Fi 27 119 w0.heap.size wr (.slice (P_ G) N N) (Bm f N (xs.take k)) vs/\own 119 w0.heap.size wr t (Bn f (xs.take k))/\Hid (D7 t (.slice (P_ G) N N) vs)) (fun _ i _=>xs.length - (intOf i).toNat)
 case atStart=> refine⟨0,pY,aN _,rfl,yI,?_,xC.out,uv.out⟩;exact Rv
 case round=>
  refine' ZHk;have rJ:=aA hB;refine' Zn;clear l0 yI lL hB xC uv;refine' ZHl;by_cases ab:k<xs.length
  .refine' ZHm;refine' YN;have ld:=Ag lr;have HC:Hid (∀W,B_ w0 W->C_ 171 #[.agg #[.int .i64 p.bins,.int .i64 p.passes,.slice A0 p.order.length c0],.string x.code,.int .i64 k0] W (.int .i64 (Dm p x.code k0))):=fun W hW=>
    AaD _ p x.code k0 W (HP.out.on hW) h1 h2 fp pH
   refine' ZHn;refine' ZHo;obtain⟨b0,ga⟩:∃b0,Hid (Dm p x.code k0=b0):=⟨_,rfl⟩;rw[ga.out]at HC;have BM:Hid (f x=Ej ms x b0):=by{show _=_;rw[kJ.out,ga.out]};refine' ZNI;have mQ:w0.heap.size<=w3.heap.size:=jt.size;have ep:=aA (rJ.out.below B3);have ez:=aA (HO.out.below B3);clear b3 ld B3;rcases AtZ ms x.id with⟨hq,hn⟩|⟨kk,r8,hq,hid⟩
   .have HE:Hid (b0=f x):=by{show _=_;rw[BM.out,AdE hn]};clear hn
    refine' ZNJ;rw[HE.out];exact ZNK
   .have HE:Hid (ms[kk].bin=f x):=by{show _=_;rw[BM.out,As1 r8 hid UE.out]};clear hid;obtain⟨bM,oM,rfl,hbM,_,e1,e2⟩:=GQ.out.misU kk r8;rw[HE.out]at e2;clear e1 HE;have tq:(kk:Int)<(ms.length:Int):=ZA
    have NX:¬((kk:Int)<0):=ZA
    refine' ZNJ;exact ZNK
  .refine' YO;go_wp2;go_ret2;have hB:=rJ.out;refine' ZNL;exact⟨_,_,vs,rfl,hB.base_ (iA CU),hO.base_ (iA CU),hF,Aa HT.out lr⟩
theorem AlS(v vb vm p xs k ms w)(hv:rdP w w.heap.size v p)(hb:R_ w vb xs)(hm:R_ w vm ms):
 C_ 257 #[v,vb,.int .i64 k,vm] w (.bool (Lo p xs k ms)):=by
 refine' ZEp;have HQ:Hid (Lo p xs k ms=((Bq p&&(decide (0<=k)&&decide (k<p.passes)))&&z_ xs&&Jt p ms)):=rfl;go_enter func257,ntmps257
 refine' zG;refine(Ok _ _ p xs _ HP.out HB.out).mono ?_;refine' zh;cases h1:(Bq p&&z_ xs)
 .have HF:Hid (Lo p xs k ms=false):=ZNM
  clear h1
  exact ZEh
 refine' ZHZ;have H1:=aA hh;clear h1 hh
 refine' ZC;refine(D0 k 0 (p.passes - 1) _).mono ?_;refine' fO;cases h2:(decide (0<=k)&&decide (k<=p.passes - 1))
 .have HF:Hid (Lo p xs k ms=false):=ZNN
  clear h2
  exact ZEh
 have HF:Hid (Lo p xs k ms=Jt p ms):=ZNO
 clear h2
 refine' ZC;refine(AeL _ _ p ms _ (HP.out.on l1) (HM.out.on l1)).mono ?_;refine' zB;have l3:=Aa l1 b3;exact ZMf
theorem AiW(v vb vm p xs)(k:Nat)(ms w)(hv:rdP w w.heap.size v p)(hb:R_ w vb xs)(hm:R_ w vm ms)(hf:Lo p xs (k:Int) ms=true):
 Calls Tryz.prog 259 #[v,vb,.int .i64 k,vm] w fun e w'=>∃vB,e=.returned vB/\Fu 27 119 w.heap.size w' vB (Ew p xs k ms)/\B_ w w':=by
 refine' ZEp;obtain⟨⟨mG,nP,pq⟩,h2,h3⟩:=Um.1 hf;refine' Sa;have kw:=Cq h2;have HG:=aA h3;clear h2 h3 mG hf nP;have DM:k<=4:=ZA
 refine' ZNC;go_enter func259,ntmps259
 refine' zG;go_loopw[1,9] (fun t i wr=>∃j:Nat,j<=k/\i=.int .i64 j/\B_ w0 wr/\R_ wr t (Cd p 0 j xs)) (fun _ i _=>k - (intOf i).toNat)
 case atStart=>exact⟨0,aN _,rfl,l0,HB.out⟩
 case round=>
  obtain⟨j,hj,rfl,lr,qJ⟩:=hrel;refine' Yg;have UL:=aA qJ;clear qJ;have mg:=aA (Lr p j 0 xs);have uY:(Cd p 0 j xs).length<=1000:=ZHe
  by_cases ab:j<k
  .have dz:(j:Int)<(k:Int):=ZA
   have HS:Hid ((Bm (fun x=>Dm p x.code j) p.bins.toNat (Cd p 0 j xs)).flatten=Cd p 0 (j+1) xs):=by{have:=Mc p j 0 xs;rw[bV]at this;exact this.symm};have j7:=Ez (f:=fun x=>Dm p x.code j) (n:=p.bins.toNat) (Cd p 0 j xs);rw[HS.out]at j7;generalize Cd p 0 j xs=zs at *
   refine' ZC;refine(Np _ _ p zs j _ (HP.out.on lr) UL.out g1 g2 ZA ZA uY).mono ?_;rintro e w2 ⟨vB,vO,vs,rfl,hB,hR,hF,b2⟩;have l2:=Aa lr b2;have j8:=aA (Fu.rd ⟨vs,hB⟩);clear hB hR hF
   refine' ZC;refine(Im _ _ _ j8.out (by rw[HS.out];omega)).mono ?_;rw[HS.out];refine' fM;refine' YG;have O3:=aA o3.rd;clear o3
   refine' ZC;go_roundw
   case rel=>exact⟨j+1,ZA,ZJ,l3,O3.out⟩
   case measure=>exact ZK
  .have dz:¬((j:Int)<(k:Int)):=ZA
   have HE:=aA (show j=k by omega);rw[HE.out]at UL uY
   refine' ZC;refine(Aj3 _ _ _ p (Cd p 0 k xs) k ms _ (HP.out.on lr) UL.out (HM.out.on lr) g1 g2 DM ZA HG.out uY).mono ?_;rw[<-QL.out];rintro e w3 ⟨vB,vO3,vs,rfl,hB,hR,hF,b3⟩;have l3:=Aa lr b3;have j8:=aA (show Fu 27 119 w1.heap.size w3 vB (Ew p xs (k:Int) ms)from⟨vs,hB⟩);clear hB hR hF
   refine' ZI;exact⟨_,rfl,j8.out.base_ (aI bj lr.size),Aa HT.out l3⟩
theorem AiR(v vb p xss)(k:Nat)(w)(hv:rdP w w.heap.size v p)(hb:R_ w vb xss)(h1:Hh p xss (k:Int)=true):
 Calls Tryz.prog 258 #[v,vb,.int .i64 k] w fun e w'=>∃vB vO vs,e=.returned (.tuple #[vB,vO])/\Fi 27 119 w.heap.size w' vB (Hq (jD p (k:Int)) xss) vs/\own 119 w.heap.size w' vO (Kt (jD p (k:Int)) xss)/\D7 vO vB vs/\B_ w w':=by
 refine' Yk;refine' ZEk;clear ah;refine' zT;clear ac hv hb;refine' Yj;obtain⟨A,n,c,rfl,hn,hc,hm,hr⟩:=HB.out;refine' zm;refine' S_;refine' ZHc;refine' ZMi;have vC:=aA jp;clear qP jp;refine' ZMj;have HY:Hid (Hq (jD p (k:Int)) xss=D9 f (Fd f xss xss.length) (Mh f xss xss.length)/\Kt (jD p (k:Int)) xss=Bn f (Mh f xss xss.length)):=by unfold Hq Kt;rw[lN.out];exact ZW
 clear nP pq;refine' ZMk;have pH:p.order.length<=1000:=ZA
 go_enter func258,ntmps258;go_wp2;rw[<-di.out];obtain⟨pY,j6⟩:=I3 (α:=Ltr) w0 27 119 xss.length w0.heap.size (aC _) ZN;have lz:B_ w0 (w0.alloc (aB (bF #[.slice none 0 0] xss.length) 27)):=Ae l0 _;have ie:(w0.alloc (aB (bF #[.slice none 0 0] xss.length) 27)).heap.size=w.heap.size+1+1:=by simp[kA.out]
 generalize(w0.alloc (aB (bF #[.slice none 0 0] xss.length) 27))=wz at *;refine' ZNP;rw[show(Value.slice (P_ w0.heap.size) xss.length xss.length)=(Value.slice (some ⟨w.heap.size+1,0,none⟩) xss.length xss.length) by rw[kA.out]]at jo;clear j6;have GS:own (α:=Ltr) 119 w0.heap.size (wz.alloc (aB #[] 119)) (.slice (P_ wz.heap.size) 0 0) []:=own.made0 wz _ lz.size;have yI:=Ae lz (aB #[] 119);have bv:B_ wz (wz.alloc (aB #[] 119)):=Ae (aF _ _) _;have jd:(wz.alloc (aB #[] 119)).heap.size=w.heap.size+1+1+1:=by simp[ie]
 have uu:D7 (.slice (some ⟨w.heap.size+1+1,0,none⟩) 0 0) (.slice (some ⟨w.heap.size+1,0,none⟩) xss.length xss.length) pY:=ZNQ
 have PG:D7 (.slice (some ⟨w.heap.size+1+1+1,0,none⟩) 0 0) (.slice (some ⟨w.heap.size+1,0,none⟩) xss.length xss.length) pY:=by refine⟨.inr (by show some _≠some _;exact ZH),fun k hk=>.inr fun e=>?_⟩;obtain⟨z1,z2,z3,_⟩:=jo;have hh:w.heap.size+1+1+1<wz.heap.size:=((z3 k hk ZA).blk _ e.symm).2;omega
 rw[ie]at GS;have PH:=jo.below bv;generalize(wz.alloc (aB #[] 119))=wy at *;have GT:own (α:=Ltr) 119 w0.heap.size (wy.alloc (aB #[] 119)) (.slice (P_ wy.heap.size) 0 0) []:=own.made0 wy _ yI.size;have lz3:=Ae yI (aB #[] 119);have dq:B_ wy (wy.alloc (aB #[] 119)):=Ae (aF _ _) _;rw[jd]at GT;have lL:=aA (PH.below dq);have PI:=aA (GS.below dq);have PJ:=aA GT;have uv:=aA uu;have PK:=aA PG;have fe:Hid (apart (.slice (some ⟨w.heap.size+1+1+1,0,none⟩) 0 0) (.slice (some ⟨w.heap.size+1+1,0,none⟩) 0 0)):=.inr ZEd;clear jo PH GS GT uu PG bv dq lz yI ie jd;generalize(wy.alloc (aB #[] 119))=wx at *;generalize hGr:w.heap.size+1+1+1=GR at *;generalize hGw:w.heap.size+1+1=GW at *;refine' ZHp;clear hG hGw hGr fo
 go_loopw[9,11] (fun t i wr=>∃(j:Nat) (vs:List Value),j<=xss.length/\i=.int .i64 j/\B_ w0 wr/\Fi 27 119 w0.heap.size wr (.slice (P_ G) xss.length xss.length) (Fd f xss j) vs/\own 119 w0.heap.size wr t (Mh f xss j)/\Hid (D7 t (.slice (P_ G) xss.length xss.length) vs)/\own (α:=Ltr) 119 w0.heap.size wr (.slice (P_ GR) 0 0) []/\Hid (D7 (.slice (P_ GR) 0 0) (.slice (P_ G) xss.length xss.length) vs)/\Hid (apart (.slice (P_ GR) 0 0) t)) (fun _ i _=>xss.length - (intOf i).toNat)
 case atStart=> refine⟨0,pY,aN _,rfl,lz3,?_,PI.out,uv.out,PJ.out,PK.out,fe.out⟩;rw[ZAW];exact lL.out
 case round=>
  obtain⟨j,vs,hj,rfl,lr,hB,hO,f9,hE,AC,AD⟩:=hrel;refine' zO;have j8:=aA hB;refine' Zn;have HE:=aA hE;clear lz3 lL hB l0 hE PI PJ uv PK fe;by_cases ab:j<xss.length
  .refine' ZMm;go_loopw[9,12] (fun t i wi=>∃(m:Nat) (vs:List Value),m<=ys.length/\i=.int .i64 m/\B_ w0 wi/\Fi 27 119 w0.heap.size wi (.slice (P_ G) xss.length xss.length) (K.set j (D8 f j (ys.take m))) vs/\own 119 w0.heap.size wi t (zs++Gv f j (ys.take m))/\Hid (D7 t (.slice (P_ G) xss.length xss.length) vs)/\own (α:=Ltr) 119 w0.heap.size wi (.slice (P_ GR) 0 0) []/\Hid (D7 (.slice (P_ GR) 0 0) (.slice (P_ G) xss.length xss.length) vs)/\Hid (apart (.slice (P_ GR) 0 0) t)) (fun _ i _=>ys.length - (intOf i).toNat)
   case atStart=> refine⟨0,vs,aN _,rfl,lr,?_,by simpa [Gv]using HO.out,f9.out,HE.out,AC.out,AD.out⟩;rw[dH,ij.out];exact j8.out
   case round=>
    obtain⟨m,ir,mj,rfl,li,qy,nI,gc,hEi,xf,tD⟩:=hrel;refine' zd;have rJ:=aA qy;clear qy lr j8 HO f9 HE AC AD;have HEI:=aA hEi;clear hEi;by_cases py:m<ys.length
    .refine' ZMn;refine' ZMo;refine' ZMp;refine' ZMr;have ld:=Ag li;refine' ZNR;go_region_held3 (fun W=>B_ w0 W) (first|exact ld|exact Aa ld b4) (first|(refine' ZHq;refine' YP))
     refine' ZNS;refine' ZEm;have HE4:=aA (HEI.out.below B4);refine' Rz;clear b4 B4 ld;by_cases pQ:r=(j:Int)
     .refine' ZMs;have xg:=aA pQ;refine' ZMt;go_region_law (first|((refine Ce (α:=Ltr) ZG (.tmp 53) (.tmp 61) 27 ZG w0.heap.size 119 i1 _ 24 aV ji dr du dw rfl ZE (.slice Au qs.length cu) qs x ZG ((jW.out.alloc _).drew) ⟨w4.heap.size,0,none⟩ 1 (Ltr.cells x) ZG ⟨⟨fq,fj⟩,rfl⟩ (Ft w4 _ (Ltr.cells x)) ZN ZA ZH ?_;refine' ZMu)))
      all_goals
       refine' ZMv;obtain⟨_,p5,p6⟩:=Eh bu.out HE4.out xf.out gi fm jh oI.out JG.symm cg aj cy;refine' ZMw;refine' ZNT;go_roundw
       case rel=>exact⟨m+1,_,ZA,ZJ,p4,by rw[oV.out];exact P1.out,ZMx,P3.out,P5.out,P6.out,tD.out⟩
       case measure=>exact ZK
     .refine' ZMy;have xg:=aA pQ;clear pQ
      go_wp2_with (at_builtin;refine An (α:=Ltr) rfl (.tmp 64) (.tmp 72) 27 rfl w0.heap.size 119 i1 _ 24 aV ji dr du dw rfl ZE (.slice AI zr.length cI) zr x rfl (jx.out.alloc _) ⟨w4.heap.size,0,none⟩ 1 (Ltr.cells x) rfl ⟨⟨fq,fj⟩,rfl⟩ (Bz w4 _ (Ltr.cells x)) ZN ZA ZH ?_;refine' zH)
      refine' ZHd;have JD:=aA ((HE4.out.below ((aF _ _).alloc (aC _) (aB #[aH aD x.id,aG x.code] 119))).grown aj tD.out);refine' ZMz;have fk:Hid (apart (.slice (P_ GR) 0 0) (.slice (P_ g) (zr.length+1) cap)):=Br (Dg (Br tD.out) cy fun j hj=>by have:=(HE4.out.blk j hj).2;exact ZH);go_roundw
      case rel=>exact⟨m+1,ir,ZA,ZJ,l5,by rw[oV.out];exact kX.out,ZM0,mC,JD.out,xf.out,fk⟩
      case measure=>exact ZK
    .have xg:=aA (show m=ys.length by omega)
     rw[xg.out,bA,<-f8.out]at nI;have qy:=rJ.out;rw[xg.out,bA,ff.out]at qy;refine' ZM1;go_roundw
     case rel=>exact⟨j+1,ir,ZA,ZJ,li,kV.out,im.out,gc.out,HEI.out,xf.out,tD.out⟩
     case measure=>exact ZK
  .have xg:=aA (show j=xss.length by omega)
   have hB:=j8.out;rw[xg.out]at hB hO;refine' ZM2;go_loopw[10,13] (fun t i wi=>∃(q:Nat) (vs:List Value),q<=ws.length/\i=.int .i64 q/\B_ w0 wi/\Fi 27 119 w0.heap.size wi (.slice (P_ G) xss.length xss.length) (D9 f K (ws.take q)) vs/\own 119 w0.heap.size wi t (Bn f (ws.take q))/\own 119 w0.heap.size wi (.slice AW ws.length cW) ws/\Hid (D7 t (.slice (P_ G) xss.length xss.length) vs)/\Hid (D7 (.slice AW ws.length cW) (.slice (P_ G) xss.length xss.length) vs)/\Hid (apart t (.slice AW ws.length cW))) (fun _ i _=>ws.length - (intOf i).toNat)
   case atStart=> refine⟨0,vs,aN _,rfl,lr,?_,HE.out,kQ.out,AC.out,f9.out,AD.out⟩;rw[dH,AkH];exact wP.out
   case round=>
    refine' ZM3;clear qy lr wP f9 kQ HE AC AD;have NW:=aA NV;clear NV;by_cases wQ:q<ws.length
    .refine' ZM4;refine' ZM5;refine' ZM6;have ld:=Ag li;have PL:B_ w3 w3:=aF _ _;refine' ZNR;go_region_held3 (fun W=>B_ w0 W/\B_ w3 W) (first|exact⟨ld,Ag PL⟩|exact⟨Aa ld b4,Aa (Ag PL) b4⟩) (first|(refine' ZHq;refine' YP))
     refine' ZNS;have FM:=aA (NW.out.below B4);refine' ZEm;have f1:=d1 w4 B4;have f2:=d2 w4 B4;refine' Rz;clear b4 B4 ld PL d1 d2;have yE:=qg.out;by_cases bc:r<0
     .refine' ZM7;go_wp2_with (at_builtin;refine An (α:=Ltr) rfl (.tmp 90) (.tmp 95) 27 rfl w0.heap.size 119 i1 _ 24 aV ji dr du dw rfl ZE (.slice AI rs.length cI) rs x rfl (jx.out.alloc _) ⟨w4.heap.size,0,none⟩ 1 (Ltr.cells x) rfl ⟨⟨fq,fj⟩,rfl⟩ (Bz w4 _ (Ltr.cells x)) ZN ZA ZH ?_;refine' zH)
      exact ZM8
     .refine' ZM9;go_region_law (first|((refine Ce (α:=Ltr) ZG (.tmp 102) (.tmp 107) 27 ZG w0.heap.size 119 i1 _ 24 aV ji dr du dw rfl ZE (.slice Au qs.length cu) qs x ZG ((jW.out.alloc _).drew) ⟨w4.heap.size,0,none⟩ 1 (Ltr.cells x) ZG ⟨⟨fq,fj⟩,rfl⟩ (Ft w4 _ (Ltr.cells x)) ZN ZA ZH ?_;refine' ZEn)))
      all_goals exact ZNA
    .have xg:=aA (show q=ws.length by omega)
     go_wp2;go_ret2;have hB:=rJ.out;have hF:=gc.out;rw[xg.out,bA,<-NU.out]at hB;rw[xg.out,bA,<-HYO.out]at nI;exact⟨_,_,ir,rfl,hB.base_ bj,nI.base_ bj,hF,Aa HT.out li⟩
theorem Ab2(v vb vm p xs k ms w)(hv:rdP w w.heap.size v p)(hb:R_ w vb xs)(hm:R_ w vm ms):
 Calls Tryz.prog 187 #[v,vb,.int .i64 k,vm] w fun e w'=>∃vL,e=.returned (.tuple #[vL,.bool (Lo p xs k ms)])/\own 119 w.heap.size w' vL (Fr p xs k ms)/\B_ w w':=by
 refine' ZEp;have ca:Hid (∀h:Lo p xs k ms=false,Fr p xs k ms=[]):=fun h=>by unfold Fr;rw[h];rfl
 go_enter func187,ntmps187
 refine' zG;refine(AlS _ _ _ p xs k ms _ HP.out HB.out HM.out).mono ?_;refine' zh;cases h1:Lo p xs k ms
 .have HF:=aA h1;clear h1
  have O1:Hid (own (α:=Ltr) 119 w.heap.size (w1.alloc (.cells #[] 119)) (.slice (P_ w1.heap.size) 0 0) []):=own.made0 w1 _ (aI bj l1.size)
  refine' ZQ;exact⟨_,Bf ZX,by rw[ca.out HF.out];exact O1.out,Aa HT.out (Ae l1 _)⟩
 obtain⟨⟨mG,nP,pq⟩,h2,h3⟩:=Um.1 h1;have TN:=aA (AkN h1);have HBO:=aA (AfA h1);have HF:=aA h1;clear h1 h2 h3 mG;refine' S9;have ld:=Ag l1;have kd:Hid (Hq (jD p (k:Int)) (Ew p xs k ms)=Ld p (Ew p xs k ms) k):=TN.out.1.symm;have C1:Hid (∀W,B_ w0 W->Calls Tryz.prog 259 #[.agg #[.int .i64 p.bins,.int .i64 p.passes,.slice A0 p.order.length c0],vb,.int .i64 k,vm] W fun e w'=>∃vB,e=.returned vB/\R_ w' vB (Ew p xs k ms)/\B_ W w'):=fun W hW=>by refine(AiW _ _ _ p xs k ms W (HP.out.on hW) (HB.out.on hW) (HM.out.on hW) HF.out).mono ?_;rintro e w' ⟨vB,h1,h2,h3⟩;exact⟨vB,h1,h2.rd,h3⟩
 have C2:Hid (∀W,B_ w0 W->∀vf,R_ W vf (Ew p xs k ms)->Calls Tryz.prog 258 #[.agg #[.int .i64 p.bins,.int .i64 p.passes,.slice A0 p.order.length c0],vf,.int .i64 k] W fun e w'=>∃vB vO,e=.returned (.tuple #[vB,vO])/\R_ w' vB (Ld p (Ew p xs k ms) k)/\B_ W w'):=fun W hW vf hf=>by refine(AiR _ vf p _ k W (HP.out.on hW) hf HBO.out).mono ?_;rw[kd.out];rintro e w' ⟨vB,vO,vs,h1,h2,_,_,h5⟩;exact⟨vB,vO,h1,Fu.rd ⟨vs,h2⟩,h5⟩
 obtain⟨rb,ti⟩:∃z,Ld p (Ew p xs (k:Int) ms) k=z:=⟨_,rfl⟩;have HY:Hid (J9 p rb k=Fr p xs k ms/\Hh p rb k=true):=by rw[<-ti];exact TN.out.2
 rw[ti]at C2;clear ti kd TN;go_wp2
 go_region_held3 (fun W=>B_ w0 W) (first|exact ld|exact Aa ld b2|exact Aa (Aa ld b2) b3) (first|(go_at_call 259;refine(C1.out _ ld).mono ?_;rintro e w2 ⟨v2,rfl,r2,b2⟩)|(go_at_call 258;refine(C2.out _ (Aa ld b2) _ r2).mono ?_;rintro e w3 ⟨v3,vO3,rfl,r3,b3⟩))
 have l3:=Aa (Aa ld b2) b3;have R3:=aA r3;clear r3 r2
 refine' ZC;refine(AiI _ _ p rb k _ (HP.out.on l3) R3.out HY.out.2).mono ?_;rw[HY.out.1];refine' Rs;have l4:=Aa l3 b4;have O4:=aA (o4.base_ (aI bj l3.size));clear o4
 refine' ZQ;exact⟨_,Bf ZX,O4.out,Aa HT.out l4⟩
theorem a_(T base:Nat)(w:World)(xs)(hx:∀x∈xs,Bj x)(hm:xs.length<=maxLen)(hb:base<=w.heap.size):
 own T base (w.alloc (.cells (xs.map (aH .i64)).toArray T)) (.slice (P_ w.heap.size) xs.length xs.length) xs:=by
 have h1:(xs.map fun x=>[aH .i64 x]).flatten=xs.map (aH .i64):=ZNy
 refine⟨xs.map fun x=>[aH .i64 x],⟨?_,.inr ⟨w.heap.size,xs.length,_,rfl,hb,bC w _,aC _,hm,by simp[El.size],?_⟩⟩,ZF,fun k hk gj=>?_⟩
 .rw[h1]
  simp[El.size]
 exact ZNz
 exact ZN0
theorem BeV(v)(bs:List UInt8)(w)(hv:R_ w v bs):
 Calls Tryz.prog 18 #[v] w fun e w'=>∃g,e=.returned (.pointer (P_ g))/\w.heap.size<=g/\rdr w' g 0/\B_ w w':=by
 refine' zl;subst hn;have HM:=hm;unfold maxLen at hm;refine' Yi;have pZ:=aA HM;clear HM;go_enter func18,ntmps18;by_cases h:2000<bs.length
 .have HH:Hid (rdr (w.alloc (aB #[Value.slice A 2000 c,aH aD 0] 109)) w.heap.size 0):=
   ⟨A,2000,c,bs.take 2000,bC w _,ZH,aC _,ZA,pZ.out,(HR.out.take 2000).keep fun p hp=>World.cell?_alloc_lt w _ p hp⟩
  exact ZN1
 .have HH:Hid (rdr (w.alloc (aB #[Value.slice A bs.length c,aH aD 0] 109)) w.heap.size 0):=
   ⟨A,bs.length,c,bs,bC w _,rfl,ZA,hc,pZ.out,HR.out.keep fun p hp=>World.cell?_alloc_lt w _ p hp⟩
  exact ZN1
theorem Zz(T g p:Nat)(v xs w)(hr:rdr w g p)(hp:p<=1099511627776)(hv:own T (g+1) w v xs)(h0:0<xs.length):
 Calls Tryz.prog 19 #[.pointer (P_ g),v] w fun e w'=>∃x∈xs,e=.returned (.int .i64 x)/\rdr w' g (p+1)/\w.grownBy w' (some g):=by
 refine' ZN2;go_enter func19,ntmps19
 refine' ZN3;obtain⟨b,o,rfl,hb,hi,c1⟩:=nU.int q ZA;have qu:xs[q]' ZA ∈xs:=aS _;refine' ZN4;exact⟨y,HM.out,rfl,ew,hg⟩
def Pg(n:Nat):List UInt8:=if n=0 then [48]else J1 n
def Cl(n:Nat):Y_:=⟨(Pg n).toArray⟩
theorem Nr{m}(h0:0<m)(h:m<=9):J1 m=[b8 (48+m)]:=by rw[I2 h0,show m/10=0 by omega,show m%10=m by omega,show J1 0=[] by rw[J1]];unfold b8;rw[show(48+(m:Int)).toNat=48+m by omega];rfl
theorem Hy(n:Nat)(w)(hn:n<=9223372036854775807):
 C_ 28 #[.int .i64 n] w (.string (Cl n)):=by
 have lZ:=AfW;have h0:(0:Int)<=(n:Int):=ZA
 go_enter func28,ntmps28;go_wp2
 go_loopw[0,3] (fun t s wr=>∃(m:Nat) (u:Y_),m<=n/\t=.int .i64 m/\s=.string u/\u.size<=20/\Hid (n=0/\m=0/\u=⟨#[]⟩\/0<m/\J1 n=J1 m++u.data.toList)/\Hid (m*10^u.size<=n)/\B_ w wr) (fun t _ _=>(intOf t).toNat)
 case atStart=>
  refine⟨n,_,aC _,rfl,rfl,aN _,?_,(by show n*10^0<=n;omega),aF _ _⟩;by_cases h:n=0
  .exact .inl ⟨h,h,rfl⟩
  .exact .inr ⟨ZA,ZF⟩
 case round=>
  obtain⟨m,u,hm,rfl,rfl,hu,HD,HP,av⟩:=hrel;refine' YB;by_cases h9:9<m
  .have hu19:u.size<=19:=by apply Classical.byContradiction;intro hc;have h1:=HP.out;have h2:10^20<=10^u.size:=gH ZA ZA;have h3:10*10^20<=m*10^u.size:=bY ZA h2;omega
   go_wp2
   go_roundw
   case rel=>
    refine⟨m/10,_,ZA,ZJ,rfl,by refine' zo;show 1+_<=20;omega,.inr ⟨ZA,?_⟩,?_,av.alloc av.size _⟩
    .rcases HD.out with⟨_,h,_⟩|⟨_,h⟩
     .omega
     .rw[h,B6,I2 (n:=m) ZA,cZ]
      show _=J1 (m/10)++([b8 (48+(m:Int)%10)]++_);unfold b8;rw[show(48+(m:Int)%10).toNat=48+m%10 by omega]
    .show _<=_
     have h1:=HP.out;have h2:(m/10)*10<=m:=Nat.div_mul_le_self _ _;rw[aY,show(ByteArray.mk #[b8 (48+(m:Int)%10)]).size=1 from rfl,Nat.pow_add,Nat.pow_one,<-Nat.mul_assoc];exact aI (ZCf _ h2) h1
   case measure=>exact ZK
  .refine' ZO;refine⟨B8 ?_,av.alloc av.size _⟩;apply Cv;rw[B6];rcases HD.out with⟨h1,h2,h3⟩|⟨h1,h2⟩
   .subst h1 h2 h3
    rfl
   .show _=Pg n
    unfold Pg;rw[aM ZA,h2,Nr h1 ZA]
def Gm:Nat->Nat->List UInt8
 |_,0=>[]
 |n,k+1=>Gm (n/10) k++[b8 (48+(n:Int)%10)]
def Iy(n k:Nat):Y_:=⟨(Gm n k).toArray⟩
theorem Ab6:∀(k n:Nat),(Gm n k).length=k
 |0,_=>rfl
 |k+1,n=>by rw[Gm,aT,Ab6 k];rfl
theorem Jd(n k):(Iy n k).size=k:=by show(Gm n k).toArray.size=k;rw[dX,Ab6]
theorem T6(n k:Nat)(w)(hn:n<=9223372036854775807)(hk:k<=60):
 C_ 158 #[.int .i64 n,.int .i64 k] w (.string (Iy n k)):=by
 go_enter func158,ntmps158
 refine' ZC;go_loopw[0,5,6] (fun t s i wr=>∃(m j:Nat) (u:Y_),m<=n/\j<=k/\t=.int .i64 m/\s=.string u/\i=.int .i64 j/\u.size<=j/\Hid (Gm n k=Gm m (k - j)++u.data.toList)/\B_ w wr) (fun _ _ i _=>k - (intOf i).toNat)
 case atStart=>exact⟨n,0,_,aC _,aN _,rfl,rfl,rfl,aC _,Rm,aF _ _⟩
 case round=>
  obtain⟨m,j,u,hm,hj,rfl,rfl,rfl,hu,HD,av⟩:=hrel;refine' YB;by_cases ab:j<k
  .refine' ZC;refine(Hy (m%10) _ ZA).mono ?_;rintro e w2 ⟨rfl,hb⟩;have tM:(Cl (m%10)).size=1:=by
    show(Pg _).toArray.size=1;unfold Pg
    split
    .rfl
    .rw[Nr ZA ZA];rfl
   have vt:Hid ((Cl (m%10)).data.toList=[b8 (48+(m:Int)%10)]):=by
    show Pg _=_;unfold Pg
    split
    .rename_i h
     rw[show(m:Int)%10=0 by omega];rfl
    .rw[Nr ZA ZA];rfl
   generalize Cl (m%10)=d at *
   refine' ZC;go_roundw
   case rel=> refine⟨m/10,j+1,_,ZA,ZA,ZJ,rfl,ZJ,V1,?_,av.trans (hb.mono av.size)⟩;show _=_;rw[HD.out,B6,vt.out,show k - j=(k - (j+1))+1 by omega,Gm,cZ]
   case measure=>exact ZK
  .have HE:=aA (show k - j=0 by omega)
   refine' ZI;refine⟨B8 ?_,av⟩;apply Cv;show _=Gm n k;rw[HD.out,HE.out,Gm];rfl
theorem vU{a b c:World}{row}(h:a.grownBy b row)(k:b.grownBy c row):a.grownBy c row:=
 ⟨k.os.trans h.os,k.tape.trans h.tape,k.output.trans h.output,aI h.size k.size,fun i hi ay=>(k.block i (bR hi h.size) ay).trans (h.block i hi ay)⟩
theorem rdr.alloc{w g p}(h:rdr w g p)(o):rdr (w.alloc o) g p:=h.below ((aF _ _).alloc (aC _) o)
structure kept2 (g b:Nat) (w w':World):Prop where
 os:w'.os=w.os
 tape:w'.tape=w.tape
 output:w'.output=w.output
 size:w.heap.size<=w'.heap.size
 block:∀k,k<b->k≠g->w'.heap[k]? =w.heap[k]?
theorem kept2.refl(g b w):kept2 g b w w:=⟨rfl,rfl,rfl,aC _,fun _ _ _=>rfl⟩
theorem kept2.trans{g b u v w}(h:kept2 g b u v)(k:kept2 g b v w):kept2 g b u w:=
 ⟨k.os.trans h.os,k.tape.trans h.tape,k.output.trans h.output,aI h.size k.size,fun i hi ay=>(k.block i hi ay).trans (h.block i hi ay)⟩
theorem kept2.grown{g b u w}(h:u.grownBy w (some g))(hb:b<=u.heap.size):kept2 g b u w:=
 ⟨h.os,h.tape,h.output,h.size,fun i hi ay=>h.block i ZA (fun e=>ZY)⟩
theorem kept2.below{g b u w}(h:Below b u w):kept2 g b u w:=⟨h.os,h.tape,h.output,h.size,fun i hi _=>h.block i hi⟩
structure keptS (S:Nat->Prop) (w w':World):Prop where
 os:w'.os=w.os
 tape:w'.tape=w.tape
 output:w'.output=w.output
 size:w.heap.size<=w'.heap.size
 block:∀k,k<w.heap.size->¬S k->w'.heap[k]? =w.heap[k]?
theorem keptS.refl(S:Nat->Prop)(w):keptS S w w:=⟨rfl,rfl,rfl,aC _,fun _ _ _=>rfl⟩
theorem keptS.next{S:Nat->Prop}{u w w' row}(h:keptS S u w)(hg:w.grownBy w' row)(hS:∀r,row=some r->S r\/u.heap.size<=r):keptS S u w':=
 ⟨hg.os.trans h.os,hg.tape.trans h.tape,hg.output.trans h.output,aI h.size hg.size,fun k hk hn=>(hg.block k (bR hk h.size) fun e=>by
   rcases hS k e.symm with h1|h1
   .exact hn h1
   .omega).trans (h.block k hk hn)⟩
theorem keptS.below{S:Nat->Prop}{u w w'}(h:keptS S u w)(hB:Below u.heap.size w w'):keptS S u w':=
 ⟨hB.os.trans h.os,hB.tape.trans h.tape,hB.output.trans h.output,aI h.size hB.size,fun k hk hn=>(hB.block k hk).trans (h.block k hk hn)⟩
theorem keptS.alloc{S:Nat->Prop}{u w}(h:keptS S u w)(o):keptS S u (w.alloc o):=h.below ((aF _ _).alloc h.size o)
theorem keptS.set{S:Nat->Prop}{u w}(h:keptS S u w)(p)(hp:S p.block\/u.heap.size<=p.block)(v):keptS S u (w.setCell p v):=
 h.next (row:=some p.block) (Gc (bK _ _) (.inl rfl) v) fun r e=>by refine' YC;subst e;exact hp
theorem kept2.back{g b}{u v w:World}(h:u.grownBy v (some g))(k:kept2 g b v w)(hb:u.heap.size<=b):u.grownBy w (some g):=
 ⟨k.os.trans h.os,k.tape.trans h.tape,k.output.trans h.output,aI h.size k.size,fun i hi ay=>(k.block i ZA (fun e=>ay (by rw[e]))).trans (h.block i hi ay)⟩
theorem AtM{T base g n c:Nat}{w}{xs:List Ltr}(h:own T base w (.slice (P_ g) n c) xs)(k)(hk:k<xs.length):
 (xs[k]).ok/\w.cell? ⟨g,k*2,none⟩=some (.int .i64 (xs[k]).id)/\w.cell? ⟨g,k*2+1,none⟩=some (.string (xs[k]).code):=by refine' Rj;obtain⟨b,o,hA,_,ag,c1,c2⟩:=nU.ltr k hk;refine' V0;rw[bV]at c1 c2;exact⟨ag,c1,c2⟩
theorem l_{α:Type}[El α]{T base g:Nat}{w v}{xs:List α}(h:own T base w v xs)(hg:g<base):v.ownBlock=none\/v.ownBlock≠some g:=by
 cases hb:v.ownBlock with
 |none=>exact .inl rfl
 |some k=>exact .inr fun e=>by have:=(h.blk k hb).1;exact ZY
theorem rdr.append{α:Type}[El α]{T base g p:Nat}{w w' v}{xs:List α}(h:rdr w g p)(ho:own T base w v xs)(hg:w.grownBy w' v.ownBlock)(ab:g<base):rdr w' g p:=by
 cases hb:v.ownBlock with
 |none=>rw[hb]at hg;exact h.below (Pd hg (aC _) (fun k hk=>by cases hk))
 |some k=>rw[hb]at hg;exact h.grown hg (by have:=(ho.blk k hb).1;omega)
theorem Bd7{a w w':World}{row}(h:a.grownBy w row)(hb:Below a.heap.size w w'):a.grownBy w' row:=
 ⟨hb.os.trans h.os,hb.tape.trans h.tape,hb.output.trans h.output,aI h.size hb.size,fun i hi ay=>(hb.block i hi).trans (h.block i hi ay)⟩
theorem BdT(g p w)(hr:rdr w g p)(hp:p<=1000000000000):
 Calls Tryz.prog 248 #[.pointer (P_ g)] w fun e w'=>∃(s:Y_) (p':Nat),e=.returned (.string s)/\s.size=7/\rdr w' g p'/\p'<=p+10/\w.grownBy w' (some g):=by
 have ab:=hr.lt;go_enter func248,ntmps248
 refine' ZC;refine(Zz 3 g p _ [120,121,7,999] _ (hr.alloc _) ZA (a_ 3 (g+1) w [120,121,7,999] Zg ZE ZA) ZE).mono ?_;rintro e w1 ⟨x1,ke,rfl,ew,ey⟩;refine' ZN5;have wg:=ew.lt;obtain⟨N1,rfl⟩:=aK (a:=x1) (by simp at ke;omega);have hN1:N1<=999:=by simp at ke;omega
 clear ke
 refine' ZC;refine(Zz 3 g (p+1) _ [1,2,10,99] _ (ew.alloc _) ZA (a_ 3 (g+1) w1 [1,2,10,99] Zg ZE ZA) ZE).mono ?_;rintro e w2 ⟨x2,t7,rfl,fh,jl⟩;replace jl:w.grownBy w2 (some g):=vU ey (vU (cQ w1 _ _) jl);obtain⟨N2,rfl⟩:=aK (a:=x2) (by simp at t7;omega);have hN2:N2<=999:=by simp at t7;omega
 clear t7
 refine' ZC;refine(T6 N1 3 _ ZA ZA).mono ?_;refine' zB;have mQ:=Jd N1 3;generalize Iy N1 3=s3 at *
 refine' ZC;refine(T6 N2 2 _ ZA ZA).mono ?_;refine' YP;have nl:=Jd N2 2;generalize Iy N2 2=s4 at *;have ik:=(fh.below b3).below b4;have a6:=Vo (Vo jl b3) b4
 refine' ZC;refine(p_ g (p+1+1) 14 _ ik ZA ZS).mono ?_;rintro e w5 ⟨x5,rfl,hx5,ex,aj⟩;obtain⟨y0,y1⟩:=hx5.2 ZA;obtain⟨N5,rfl⟩:=aK y0;replace aj:=vU a6 aj;clear hx5
 refine' ZC;refine(T6 N5 2 _ ZA ZA).mono ?_;rintro e w6 ⟨rfl,b6⟩;have tk:=Jd N5 2;generalize Iy N5 2=s6 at *;have ks:=ex.below b6;have kI:=Vo aj b6
 refine' ZC;refine(p_ g (p+1+1+1) 4 _ ks ZA ZS).mono ?_;rintro e w7 ⟨x7,rfl,RQ,rZ,ce⟩;replace ce:=vU kI ce;clear RQ;by_cases h7:x7=0
 .have h7':(x7==0)=true:=by simp[h7]
  clear h7
  refine' ZC;refine(p_ g (p+1+1+1+1) 256 _ rZ ZA ZS).mono ?_;rintro e w8 ⟨x8,rfl,hx8,SL,il⟩;obtain⟨a8,b8⟩:=hx8.2 ZA;obtain⟨N8,rfl⟩:=aK a8;replace il:=vU ce il;clear hx8
  refine' ZC;refine(p_ g (p+1+1+1+1+1) 256 _ SL ZA ZS).mono ?_;rintro e w9 ⟨x9,rfl,hx9,yQ,gw⟩;obtain⟨a9,b9⟩:=hx9.2 ZA;obtain⟨N9,rfl⟩:=aK a9;replace gw:=vU il gw;clear hx9;have m1:N8*N9<=256*256:=bY ZA ZA;refine' ZC;refine(p_ g (p+1+1+1+1+1+1) 150 _ yQ ZA ZS).mono ?_;rintro e TY ⟨x10,rfl,QB,hr10,qU⟩;obtain⟨a10,b10⟩:=QB.2 ZA;obtain⟨CZ,rfl⟩:=aK a10;replace qU:=vU gw qU;clear QB;have m2:N8*N9*CZ<=256*256*256:=bY m1 ZA;have SZ:(N8:Int)*(N9:Int)*(CZ:Int)=((N8*N9*CZ:Nat):Int):=by rw[Int.natCast_mul,Int.natCast_mul]
  have M2:=aA SZ;clear SZ;have j1:(0:Int)<=(N8:Int)*(N9:Int)*(CZ:Int):=by rw[M2.out];omega
  have j2:(N8:Int)*(N9:Int)*(CZ:Int)<=16777216:=by rw[M2.out];omega
  refine' ZC;refine(p_ g (p+1+1+1+1+1+1+1) 256 _ hr10 ZA ZS).mono ?_;rintro e w11 ⟨x11,rfl,QC,hr11,IH⟩;obtain⟨a11,b11⟩:=QC.2 ZA;obtain⟨N11,rfl⟩:=aK a11;replace IH:=vU qU IH;clear QC
  refine' ZC;rw[M2.out];refine(T6 (N8*N9*CZ+N11) 7 _ ZA ZA).mono ?_;rintro e w12 ⟨rfl,b12⟩;have QD:=Jd (N8*N9*CZ+N11) 7;generalize Iy (N8*N9*CZ+N11) 7=s12 at *;have H12:=aA QD;clear QD
  refine' ZI;exact⟨s12,_,rfl,H12.out,hr11.below b12,ZA,Vo IH b12⟩
 .have h7':(x7==0)=false:=by simp[h7]
  clear h7;have HS:Hid ((s3++s4++s6).size=7):=by show _=_;refine' Rg;omega
  refine' ZI;exact⟨_,_,rfl,HS.out,rZ,ZA,ce⟩
def Bf2(xs:List Ltr):Prop:=∀x∈xs,1<=x.code.size/\x.code.size<=8
theorem BeG(g p f w)(hr:rdr w g p)(hp:p<=100000000000)(rY:0<=f)(xk:f<=1000):
 Calls Tryz.prog 159 #[.pointer (P_ g),.int .i64 f] w fun e w'=>∃(v:Value) (xs:List Ltr) (p':Nat),e=.returned v/\own 119 w.heap.size w' v xs/\xs.length<=14/\(∀x∈xs,x.code.size=7)/\rdr w' g p'/\p'<=p+200/\w.grownBy w' (some g):=by
 have ab:=hr.lt;refine' V4;go_enter func159,ntmps159
 refine' ZC;have hA:=hr.alloc (aB #[] 119);refine' ZN6;have xD:=cQ w (aB #[] 119) (some g);have j4:w.heap.size+1=(w.alloc (aB #[] 119)).heap.size:=ZF
 generalize w.alloc (aB #[] 119)=wA at *;rw[j4];clear j4;have nj:=hA.lt;refine(Zz 3 g p _ [6,4,9,2,14,0,1] _ (hA.alloc _) ZA (a_ 3 (g+1) wA [6,4,9,2,14,0,1] Zg ZE ZA) ZE).mono ?_;refine' ZH9;have iy:=pC.grown ey (l_ pC ab);have we:=vU xD ey;have lK:0<=n/\n<=14:=Rf
 refine' ZEw;clear hn pC hA xD ey
 refine' ZC;go_loopw[5,6] (fun t i wr=>∃(k:Nat) (xs:List Ltr) (q:Nat),k<=N/\i=.int .i64 k/\xs.length+k=N/\own 119 w.heap.size wr t xs/\Hid (∀x∈xs,x.code.size=7)/\rdr wr g q/\q+10*k<=p+1+10*N/\w.grownBy wr (some g)) (fun _ i _=>(intOf i).toNat)
 case atStart=>exact⟨N,[],p+1,aC _,rfl,ZF,iy,fun x hx=>Wt,ew,ZA,we⟩
 case round=>
  obtain⟨k,xs,q,hk,rfl,MH,ho,HX,ko,xl,MI⟩:=hrel;refine' zO;clear iy ew we;have su:=aA MH;have kw:xs.length<=14:=ZA
  clear MH;refine' ZIA;by_cases fp:0<k
  .refine' ZN7;clear kq
   go_wp2_with (at_builtin;refine Vk (α:=Ltr) rfl (.tmp 15) (.tmp 24) _ rfl w.heap.size 119 i0 _ 24 aV hi ah ar ap rfl ZE (.slice A xs.length c) xs ⟨f+xs.length*7,s⟩ rfl (mz.alloc _) ⟨w3.heap.size,0,none⟩ 1 (Ltr.cells ⟨f+xs.length*7,s⟩) rfl ⟨⟨⟨by show _<=f+_;omega,by show f+_<=_;omega⟩,xm⟩,rfl⟩ (Bz w3 _ (Ltr.cells ⟨f+xs.length*7,s⟩)) ZN ZA ZH ?_;intro v' w4 fd a6 _)
   have ju:Below w.heap.size w3 w4:=((aF _ _).alloc fu _).trans (Ay (mz.alloc _) a6 ZH);have ik:rdr w4 g q':=(fy.alloc _).append (mz.alloc _) a6 ab;have EL:w.grownBy w4 (some g):=Bd7 tW ju;clear a6 ju er fy
   go_roundw
   case rel=>
    refine⟨k - 1,_,q',ZA,ZJ,ZEx,fd,fun x hx=>?_,ik,ZA,EL⟩;refine' ZIB
    .simp at h
     subst h;exact nQ.out
   case measure=>exact ZK
  .refine' ZI;exact⟨_,xs,q,rfl,ho,kw,HX.out,ko,ZA,MI⟩
theorem Tryz.infoStr:(Tryz.prog.info? 9).map (fun i=>(i.zero,i.size,i.bytes))=some (some (.string ⟨#[]⟩),1,16):=ZB
structure OutI (lo hi:Nat) (w w':World):Prop where
 os:w'.os=w.os
 tape:w'.tape=w.tape
 output:w'.output=w.output
 size:w.heap.size<=w'.heap.size
 block:∀k,k<w.heap.size->k<lo\/hi<=k->w'.heap[k]? =w.heap[k]?
theorem own.keepBlk{α:Type}[Flat α]{T base:Nat}{w w' v}{xs:List α}(h:own T base w v xs)(hk:∀k,v.ownBlock=some k->w'.heap[k]? =w.heap[k]?):own T base w' v xs:=by
 obtain⟨ic,⟨h1,h2⟩,hl,he⟩:=h;refine⟨ic,⟨h1,?_⟩,hl,fun k a b=>Flat.free (he k a b)⟩;rcases h2 with h2|⟨g,cap,bw,hv,hg,hh,r⟩
 .exact .inl h2
 .exact .inr ⟨g,cap,bw,hv,hg,by rw[hk g (by rw[hv];rfl)];exact hh,r⟩
def F9(fs:List Fwd)(xs:List Ltr):List Ltr:=(xs.filter fun x=>(Bc fs x.code).2.2).map fun x=>⟨x.id,(Bc fs x.code).1⟩
def Lj(fs:List Fwd)(xs:List Ltr):List Ltr:=xs.filter fun x=> !(Bc fs x.code).2.2
theorem Al8{fs}{xs:List Ltr}{k}(h:k<xs.length)(hf:(Bc fs xs[k].code).2.2=true):F9 fs (xs.take (k+1))=F9 fs (xs.take k)++[⟨xs[k].id,(Bc fs xs[k].code).1⟩]:=by unfold F9;exact ZGT
theorem AhU{fs}{xs:List Ltr}{k}(h:k<xs.length)(hf:(Bc fs xs[k].code).2.2=false):F9 fs (xs.take (k+1))=F9 fs (xs.take k):=by unfold F9;exact ZGT
theorem Af2{fs}{xs:List Ltr}{k}(h:k<xs.length)(hf:(Bc fs xs[k].code).2.2=true):Lj fs (xs.take (k+1))=Lj fs (xs.take k):=by unfold Lj;exact zn
theorem AcY{fs}{xs:List Ltr}{k}(h:k<xs.length)(hf:(Bc fs xs[k].code).2.2=false):Lj fs (xs.take (k+1))=Lj fs (xs.take k)++[xs[k]]:=by unfold Lj;exact zn
theorem Ak8(fs xs):(F9 fs xs).length<=xs.length:=by unfold F9;refine' ze;exact bL _ _
theorem AfM(fs xs):(Lj fs xs).length<=xs.length:=bL _ _
theorem Fv{α:Type}(xs:List α)(k):(xs.take k).length<=k:=zF
def Ve(fs:List Fwd)(xs:List Ltr):Bool:=Be fs&&z_ xs
def E6(fs:List Fwd)(xs:List Ltr):List Ltr:=if Ve fs xs then F9 fs xs else []
def Gu(fs:List Fwd)(xs:List Ltr):List Ltr:=if Ve fs xs then Lj fs xs else []
def Kq(hs:List Y_)(xs:List Ltr):List Ltr:=xs.filter fun x=>decide (y6 hs x.code<0)
def Ng(hs:List Y_)(xs:List Ltr):List Ltr:=xs.filter fun x=> !decide (y6 hs x.code<0)
theorem AjL{hs}{xs:List Ltr}{k}(h:k<xs.length)(hf:y6 hs xs[k].code<0):Kq hs (xs.take (k+1))=Kq hs (xs.take k)++[xs[k]]:=by unfold Kq;exact zn
theorem Ag8{hs}{xs:List Ltr}{k}(h:k<xs.length)(hf:¬y6 hs xs[k].code<0):Kq hs (xs.take (k+1))=Kq hs (xs.take k):=by unfold Kq;exact zn
theorem Ak5{hs}{xs:List Ltr}{k}(h:k<xs.length)(hf:y6 hs xs[k].code<0):Ng hs (xs.take (k+1))=Ng hs (xs.take k):=by unfold Ng;exact zn
theorem AgB{hs}{xs:List Ltr}{k}(h:k<xs.length)(hf:¬y6 hs xs[k].code<0):Ng hs (xs.take (k+1))=Ng hs (xs.take k)++[xs[k]]:=by unfold Ng;exact zn
theorem AkO(hs xs):(Kq hs xs).length<=xs.length:=bL _ _
theorem AjR(hs xs):(Ng hs xs).length<=xs.length:=bL _ _
def Qt(hs:List Y_)(xs:List Ltr):Bool:=z_ xs&&Ee hs
def Jf(hs:List Y_)(xs:List Ltr):List Ltr:=if Qt hs xs then Kq hs xs else []
def Je(hs:List Y_)(xs:List Ltr):List Ltr:=if Qt hs xs then Ng hs xs else []
structure Rpt where
 round:List Ltr
 strange:List Ltr
 held:List Ltr
 stuck:List Ltr
def Tb(d:Dy)(xs:List Ltr):Rpt:=
 ⟨Dr d.plan (Jf d.held (E6 d.fwds xs)),Ha d.plan (Jf d.held (E6 d.fwds xs)),Je d.held (E6 d.fwds xs),Gu d.fwds xs⟩
def Ka(d:Dy)(xs:List Ltr):Bool:=Mi d&&z_ xs
def Dh(d:Dy)(xs:List Ltr):Rpt:=if Ka d xs then Tb d xs else⟨[],[],[],[]⟩
def rdR(w:World)(B:Nat)(v:Value)(r:Rpt):Prop:=
 ∃v0 v1 v2 v3,v=.agg #[v0,v1,v2,v3]/\rd w B v0 r.round/\rd w B v1 r.strange/\rd w B v2 r.held/\rd w B v3 r.stuck
theorem rdR.below{w w' B v r}(h:rdR w B v r)(hb:Below B w w'):rdR w' B v r:=by obtain⟨v0,v1,v2,v3,h1,h2,h3,h4,h5⟩:=h;exact⟨v0,v1,v2,v3,h1,h2.below hb,h3.below hb,h4.below hb,h5.below hb⟩
theorem rdR.more{w B B' v r}(h:rdR w B v r)(hB:B<=B'):rdR w B' v r:=by obtain⟨v0,v1,v2,v3,h1,h2,h3,h4,h5⟩:=h;exact⟨v0,v1,v2,v3,h1,h2.more hB,h3.more hB,h4.more hB,h5.more hB⟩
theorem rdR.on{w w' v r}(h:rdR w w.heap.size v r)(hb:B_ w w'):rdR w' w'.heap.size v r:=(h.below hb).more hb.size
theorem At9{w B v r}(h:rdR w B v r):∃A0 c0 A1 c1 A2 c2 A3 c3,v=.agg #[.slice A0 r.round.length c0,.slice A1 r.strange.length c1,.slice A2 r.held.length c2,.slice A3 r.stuck.length c3]:=by obtain⟨v0,v1,v2,v3,rfl,⟨A0,n0,c0,rfl,rfl,_⟩,⟨A1,n1,c1,rfl,rfl,_⟩,⟨A2,n2,c2,rfl,rfl,_⟩,⟨A3,n3,c3,rfl,rfl,_⟩⟩:=h;exact⟨A0,c0,A1,c1,A2,c2,A3,c3,rfl⟩
theorem AlF{w B r v0 v1 v2 v3}(h:rdR w B (.agg #[v0,v1,v2,v3]) r):rd w B v0 r.round/\rd w B v1 r.strange/\rd w B v2 r.held/\rd w B v3 r.stuck:=by obtain⟨a0,a1,a2,a3,h1,h2,h3,h4,h5⟩:=h;injection h1 with h1;injection h1 with h1;simp only[List.cons.injEq,and_true]at h1;obtain⟨rfl,rfl,rfl,rfl⟩:=h1;exact⟨h2,h3,h4,h5⟩
def Wq(T base:Nat)(w:World)(v:Value)(r:Rpt):Prop:=
 ∃v0 v1 v2 v3,v=.agg #[v0,v1,v2,v3]/\own T base w v0 r.round/\own T base w v1 r.strange/\own T base w v2 r.held/\own T base w v3 r.stuck/\(apart v0 v1/\apart v0 v2/\apart v0 v3/\apart v1 v2/\apart v1 v3/\apart v2 v3)
theorem Wq.rd{T base w v r}(h:Wq T base w v r):rdR w w.heap.size v r:=by obtain⟨v0,v1,v2,v3,h1,h2,h3,h4,h5,_⟩:=h;exact⟨v0,v1,v2,v3,h1,h2.rd,h3.rd,h4.rd,h5.rd⟩
theorem Wq.below{T base w w' v r}(h:Wq T base w v r)(hb:B_ w w'):Wq T base w' v r:=by obtain⟨v0,v1,v2,v3,h1,h2,h3,h4,h5,h6⟩:=h;exact⟨v0,v1,v2,v3,h1,h2.below hb,h3.below hb,h4.below hb,h5.below hb,h6⟩
theorem Wq.none_(T base w):Wq T base w (.agg #[.slice none 0 0,.slice none 0 0,.slice none 0 0,.slice none 0 0]) ⟨[],[],[],[]⟩:=
 ⟨_,_,_,_,rfl,own.nil_ _ _ _,own.nil_ _ _ _,own.nil_ _ _ _,own.nil_ _ _ _,.inl rfl,.inl rfl,.inl rfl,.inl rfl,.inl rfl,.inl rfl⟩
end Go.Proofs.YtfadhdacjpmmeaaGreatDoor
