/- Parts. -/
import Derived.Test.YtfadhdacjpmmeaaGreatDoorQ25
import Derived.Test.YtfadhdacjpmmeaaGreatDoorQ15
import Derived.Test.YtfadhdacjpmmeaaGreatDoorQ24
set_option linter.unusedVariables false
set_option linter.unusedSimpArgs false
namespace Go.Proofs.YtfadhdacjpmmeaaGreatDoor
set_option maxRecDepth 100000
set_option maxHeartbeats 3200000
open Go.IntKind renaming i64→aI
open Go.Obj renaming cells→aC
open Go.Proofs.Tryz renaming prog→aB
open Go.Value renaming string→aK,int→bC
open Go.RowKit
def slT:ByteArray:=⟨#[47]⟩
def Ap1(r:Rpt):List (List Ltr):=[r.round,r.strange,r.held,r.stuck]
def Yh(r:Rpt):List Ltr:=r.round++r.strange++r.held++r.stuck
def Sx(r:Rpt):ByteArray:=if okB (Yh r)=true then Co r.round++slT++Co r.strange++slT++Co r.held++slT++Co r.stuck else⟨#[]⟩
theorem AmC{r}(h:okB (Yh r)=false):Sx r=⟨#[]⟩:=by unfold Sx;rw[h];rfl
theorem Y4{r}(h:okB (Yh r)=true):Sx r=Co r.round++slT++Co r.strange++slT++Co r.held++slT++Co r.stuck:=by unfold Sx;rw[aP h]
theorem Aw2(r):(Ap1 r).flatten=Yh r:=by simp[Ap1,Yh]
theorem BbF(r):En (Ap1 r)=okB (Yh r):=by unfold En;rw[Aw2,show decide ((Ap1 r).length≤60)=true from rfl,fC]
theorem AvU(r):Cg ((Ap1 r).map Co) slT=Co r.round++slT++Co r.strange++slT++Co r.held++slT++Co r.stuck:=by have e:(Ap1 r).map Co=[Co r.round]++[Co r.strange]++[Co r.held]++[Co r.stuck]:=rfl;rw[e,G5 _ _ _ ZE,G5 _ _ _ ZE,G5 _ _ _ ZE,Kp]
theorem Ba0{w v0 v1 v2 v3}{x0 x1 x2 x3:List Ltr}(T:TypeId)(h0:rd w w.heap.size v0 x0)(h1:rd w w.heap.size v1 x1)(h2:rd w w.heap.size v2 x2)(h3:rd w w.heap.size v3 x3):
 rd (w.alloc (aC #[v0,v1,v2,v3] T)) (w.alloc (aC #[v0,v1,v2,v3] T)).heap.size (.slice (some ⟨w.heap.size,0,none⟩) 4 4) [x0,x1,x2,x3]:=by
 obtain⟨W,hW⟩:∃W,W=w.alloc (aC #[v0,v1,v2,v3] T):=⟨_,rfl⟩;have hb:=(Aw hW).1;have q0:=Af hW 0 v0 rfl _ (aF _ _);have q1:=Af hW 1 v1 rfl _ (aF _ _);have q2:=Af hW 2 v2 rfl _ (aF _ _);have q3:=Af hW 3 v3 rfl _ (aF _ _);have hz:W.heap.size=w.heap.size+1:=by subst hW;simp
 rw[←hW];have jm:∀(k:Nat) (v:Value) (x:List Ltr),rd w w.heap.size v x→W.cell? ⟨w.heap.size,k,none⟩=some v→∃b o cs,(some (⟨w.heap.size,0,none⟩:Addr))=some ⟨b,o,none⟩∧b<W.heap.size∧El.el W W.heap.size x cs∧∀j u,cs[j]? =some u→W.cell? ⟨b,o+(k*El.size (List Ltr)+j),none⟩=some u:=fun k v x hx hc=>
  ⟨w.heap.size,0,[v],rfl,ZA,⟨v,rfl,hx.on hb⟩,fun j u hu=>by
  match j,hu with
  |0,hu=>
   have:u=v:=by simpa using hu.symm
   subst this;rw[show 0+(k*El.size (List Ltr)+0)=k by show 0+(k*1+0)=k;omega];exact hc
  |j+1,hu=>simp at hu⟩
 refine rd.mk rfl (aD _) ZN fun k hk=>?_
 match k,hk with
 |0,_=>exact jm 0 v0 x0 h0 q0
 |1,_=>exact jm 1 v1 x1 h1 q1
 |2,_=>exact jm 2 v2 x2 h2 q2
 |3,_=>exact jm 3 v3 x3 h3 q3
 |k+4,hk=>exact absurd hk ZE
theorem Aa6(v r w)(hv:rdR w w.heap.size v r)(ht:I4 w):
 Calls aB 130 #[v] w fun e w'=>e=.returned (.string (Sx r))∧Below w.heap.size w w':=by
 refine' ZNJ;refine' ZBn;have HTW:=aA (ht.on HT.out);have im:=hv.on HT.out;subst e0;obtain⟨p0,p1,p2,p3⟩:=AlF im;have HX:=aA (Ba0 27 p0 p1 p2 p3);clear p0 p1 p2 p3 hv im ht;refine' zX;clear ac;refine' ZAH;refine' zh;go_enter Tryz.func130,Tryz.ntmps130
 refine' zD;obtain⟨wq,nw⟩:∃u,u=w0.alloc (aC #[.slice A0 r.round.length c0,.slice A1 r.strange.length c1,.slice A2 r.held.length c2,.slice A3 r.stuck.length c3] 27):=⟨_,rfl⟩;have lq:=Aa l0 (Aw nw).1;have HX':Hid (rd wq wq.heap.size (.slice (some ⟨w0.heap.size,0,none⟩) 4 4) [r.round,r.strange,r.held,r.stuck]):=by rw[nw];exact HX.out
 obtain⟨xss,pu⟩:∃z,Ap1 r=z:=⟨_,rfl⟩;have EF:w0.heap.size=w.heap.size+1:=by rw[dc.out];simp
 replace HX:=aA (show rd wq wq.heap.size (.slice (some ⟨w.heap.size+1,0,none⟩) 4 4) xss by rw[←pu,←EF];exact HX'.out);clear EF;have MZ:Hid (En xss=okB (Yh r)):=by show _=_;rw[←pu];exact BbF r
 have NA:=aA (@AmC r);have NB:Hid (okB (Yh r)=true→Sx r=Cg (xss.map Co) slT):=fun h=>by rw[←pu,AvU];exact Y4 h
 have hx4:xss.length=4:=by rw[←pu];rfl
 clear HX' pu;rw[←nw];clear nw;refine(Nb _ xss _ HX.out).mono ?_;rw[MZ.out];rintro e w1 ⟨vL,rfl,oL,b1⟩;have l1:=Aa lq b1;obtain⟨AL,mL,cL,rfl,hmL,_,_,_⟩:=oL.rd;clear oL;cases ag:okB (Yh r)
 ·have HF:=aA (NA.out ag)
  clear ag
  refine' ZI;exact⟨B8 HF.out.symm,Aa HT.out l1⟩
 have HF:=aA (NB.out ag);clear ag;have ez:=Ed (P:=aB) 28 9 i0 _ aW hi ah 4 zf ZA;simp only[show((4:Nat):Int)=4 from rfl,aw,dZ]at ez
 refine' ZC;have kF:Ck 9 (w1.alloc (aC (madeCells #[.string ⟨#[]⟩] 4) 9)) w1.heap.size 4 0 (xss.map Co):=Ck.made w1 _ _ _ ZAK _;have bg:Below w1.heap.size w1 (w1.alloc (aC (madeCells #[.string ⟨#[]⟩] 4) 9)):=(aF _ _).alloc (aD _) _;generalize w1.alloc (aC (madeCells #[.string ⟨#[]⟩] 4) 9)=wm at *;clear ez;have cg:Hid ((xss.map Co).length=4):=by show _=_;rw[bF,hx4]
 have xo:=aA (HTW.out.on l1);obtain⟨_,_,_,hee,_,_,_,ce⟩:=HX.out;injection hee with NC ND NE;subst NC;have HR:=aA ce;clear ce ND NE;have NF:=b1
 go_loopw[30] (fun i wr=>∃k:Nat,k≤4∧i=.int .i64 k∧Below w1.heap.size w1 wr∧Ck 9 wr w1.heap.size 4 k (xss.map Co)) (fun i _=>4 - (intOf i).toNat)
 case atStart=>exact ZBE
 case round=>
  obtain⟨k,hk,rfl,au,hf⟩:=hrel;refine' zl;clear kF bg;by_cases ab:k<4
  ·obtain⟨b,o,u,hA,hb,hu,c1⟩:=HR.out.rowU k ZA
   refine' ZAr;have c1:=c1 w2 (Aa NF au);simp only[bW]at c1;have lN:(xss.map Co)[k]' zY=Co xss[k]:=ZE
   have fe:=aA (fun(W:World) (hF:Ck 9 W w1.heap.size 4 k (xss.map Co))=>hF.step zY ZAs (ecs:=[.string (Co xss[k])]) (by rw[lN];exact⟨by have:=Du xss[k];exact ZN,rfl⟩));clear lN;generalize xss[k]=ys at *;obtain⟨A5,m5,c5,rfl,xp,KO,EG,hr5⟩:=hu;have HU:Hid (rd wq wq.heap.size (.slice A5 m5 c5) ys):=⟨A5,m5,c5,rfl,xp,KO,EG,hr5⟩;clear xp KO EG hr5;have bc:(k:Int)<4:=ZA
   refine' zO;have iu:=au.size
   refine' ZC;refine(F7 _ ys _ (HU.out.on (Aa NF au)) (xo.out.on au)).mono ?_;generalize Co ys=t at *;refine' zH;refine' ZEq;have jn:=hf.below b3;obtain⟨u0,g0⟩:=jn.cell (j:=k) ZCP;have f0:=jn.free k;have te:=aA jn;have dz:=aA (Aa au b3);clear hf jn
   refine' ZC;go_roundw
   case rel=> have:=fe.out w3 te.out;rw[show k*El.size ByteArray=k from dZ k]at this;exact ZNK
   case measure=>exact ZK
  ·have HE:=aA (show k=4 by omega)
   have HO:=aA ((HE.out▸hf:Ck _ _ _ _ 4 _).own cg.out.symm (aD _) ZN);clear hf;have l2:=Aa l1 au;have lU:=Dw (xss.map Co) slT 1000 fun p hp=>by obtain⟨y,_,rfl⟩:=List.mem_map.1 hp;exact Du y
   rw[cg.out]at lU;have mG:4*(1000+slT.size)=4004:=rfl;have HJ:=aA (Ro (sep:=slT) HO.out cg.out.symm ZCQ ZA);refine' ZHV;exact⟨rfl,Aa HT.out l3⟩
def AyD(r:Rpt)(n:Nat):Prop:=r.round.length≤n∧r.strange.length≤n∧r.held.length≤n∧r.stuck.length≤n
theorem Tx(v r w)(hv:rdR w w.heap.size v r)(hN:AyD r 1048576):
 Calls aB 35 #[v] w fun e w'=>e=.returned (.string (Sx r))∧Below w.heap.size w w':=by
 refine' ZNJ;have q0:=Af ac 0 (.slice A0 r.round.length c0) rfl;have q1:=Af ac 1 (.slice A1 r.strange.length c1) rfl;have q2:=Af ac 2 (.slice A2 r.held.length c2) rfl;have q3:=Af ac 3 (.slice A3 r.stuck.length c3) rfl;refine' ZBn;have im:=hv.on HT.out;subst e0;obtain⟨p0,p1,p2,p3⟩:=AlF im;have vi:=aA (fun W (h:Below w0.heap.size w0 W)=>p0.on h);have xr:=aA (fun W (h:Below w0.heap.size w0 W)=>p1.on h);have vj:=aA (fun W (h:Below w0.heap.size w0 W)=>p2.on h);have NJ:=aA (fun W (h:Below w0.heap.size w0 W)=>p3.on h);have NA:=aA (@AmC r);have NB:=aA (@Y4 r);obtain⟨n0,n1,n2,n3⟩:=hN;clear p0 p1 p2 p3 hv im;refine' zX;clear ac;go_enter Tryz.func35,Tryz.ntmps35
 refine' zD;have oE:=own.made0 (α:=Ltr) w0 119 (aD _);have NK:own (α:=Ltr) 119 w0.heap.size (w0.drew.alloc (aC #[] 119)) (.slice (some ⟨w0.heap.size,0,none⟩) 0 0) []:=own.made0 w0.drew _ (aD _);have lE:Below w0.heap.size w0 (w0.alloc (aC #[] 119)):=(aF _ _).alloc (aD _) _;have NL:Below w0.heap.size w0 (w0.alloc (aC #[] 119)).drew:=lE.drew;have KQ:Below w0.heap.size w0 (w0.drew.alloc (aC #[] 119)):=((aF _ _).drew).alloc (aD _) _;have NM:=(aF w0.heap.size w0).drew;refine' ZDK;go_region_held3 (fun W=>Below w0.heap.size w0 W) (first|exact NM|exact KQ|exact yr|exact l9|exact l8|exact l7) (first|(refine Bl (α:=Ltr) ZG (.tmp 4) (.tmp 6) 27 (by rfl) w0.heap.size 119 i0 _ 24 aV hi ah aw aq rfl ZF (.slice (some ⟨w0.heap.size,0,none⟩) 0 0) [] ZG (by first|exact oE|exact oE.drew|exact NK) _ r.round ZG _ (vi.out _ (by first|exact lE|exact NL|exact KQ)) ZEr ZDa ZE ?_;intro v7 w7 o7 dm _;have l7:Below w0.heap.size w0 w7:=(by first|exact lE.trans (Ay oE dm (by simp))|exact NL.trans (Ay oE.drew dm ZE)|exact KQ.trans (Ay NK dm (by simp)));refine' ZBG)|(refine Bl (α:=Ltr) ZG (.tmp 7) (.tmp 9) 27 ZG w0.heap.size 119 i0 _ 24 aV hi ah aw aq rfl ZF v7 r.round ZG o7 _ r.strange ZG _ (xr.out _ l7) ZEr ZDa fw ?_;intro v8 w8 o8 ii _;have l8:Below w0.heap.size w0 w8:=l7.trans (Ay o7 ii fw);have NN:=l8.size)|(refine Bl (α:=Ltr) ZG (.tmp 10) (.tmp 12) 27 ZG w0.heap.size 119 i0 _ 24 aV hi ah aw aq rfl ZF v8 (r.round++r.strange) ZG o8 _ r.held ZG _ (vj.out _ l8) ZEr ZDa NN ?_;intro v9 w9 o9 lO _;have l9:Below w0.heap.size w0 w9:=l8.trans (Ay o8 lO NN);have KR:=l9.size)|(refine Bl (α:=Ltr) ZG (.tmp 13) (.tmp 15) 27 ZG w0.heap.size 119 i0 _ 24 aV hi ah aw aq rfl ZF v9 (r.round++r.strange++r.held) ZG o9 _ r.stuck ZG _ (NJ.out _ l9) ZEr ZDa KR ?_;intro v10 w10 o10 vk _;have yr:Below w0.heap.size w0 w10:=l9.trans (Ay o9 vk KR);have NO:=yr.size))
 all_goals
  have OA:Hid (own 119 w0.heap.size w10 v10 (Yh r)):=o10;have NP:=aA yr;clear oE NK lE NL KQ o7 o8 o9 o10 dm ii lO vk l7 l8 l9 fw NN KR yr;obtain⟨A9,k9,c9,rfl,NQ,_,DB,_⟩:=OA.out.rd;subst NQ;unfold maxLen at DB;have yr:=NP.out
  refine' ZC;refine(C6 _ (Yh r) _ OA.out.rd).mono ?_;refine' zK;have l2:=Aa yr b2;clear b2 yr;cases ag:okB (Yh r)
  ·have HF:=aA (NA.out ag)
   clear ag
   refine' ZI;exact⟨B8 HF.out.symm,Aa HT.out l2⟩
  have HF:=aA (NB.out ag);clear ag;have HC0:=aA (fun W (h:Below w2.heap.size w2 W)=>D6 _ r.round W (vi.out W (Aa l2 h)));have tg:=aA (fun W (h:Below w2.heap.size w2 W)=>D6 _ r.strange W (xr.out W (Aa l2 h)));have kw:=aA (fun W (h:Below w2.heap.size w2 W)=>D6 _ r.held W (vj.out W (Aa l2 h)));have KS:=aA (fun W (h:Below w2.heap.size w2 W)=>D6 _ r.stuck W (NJ.out W (Aa l2 h)));have r0:=fun W (h:Below w2.heap.size w2 W)=>q0 W (Aa l2 h)
  have r1:=fun W (h:Below w2.heap.size w2 W)=>q1 W (Aa l2 h)
  have r2:=fun W (h:Below w2.heap.size w2 W)=>q2 W (Aa l2 h)
  have r3:=fun W (h:Below w2.heap.size w2 W)=>q3 W (Aa l2 h)
  have s0:=Du r.round;have s1:=Du r.strange;have s2:=Du r.held;have s3:=Du r.stuck;generalize Co r.round=t0 at *;generalize Co r.strange=t1 at *;generalize Co r.held=t2 at *;generalize Co r.stuck=t3 at *;have ha0:¬9223372036854775807<t0.size+1:=ZA
  have qC:¬9223372036854775807<t0.size+1+t1.size:=ZA
  have oI:¬9223372036854775807<t0.size+1+t1.size+1:=ZA
  have qD:¬9223372036854775807<t0.size+1+t1.size+1+t2.size:=ZA
  have kR:¬9223372036854775807<t0.size+1+t1.size+1+t2.size+1:=ZA
  have cn:¬9223372036854775807<t0.size+1+t1.size+1+t2.size+1+t3.size:=ZA
  have ld:=Ag (aF w2.heap.size w2);have gi:=aA l2;clear q0 q1 q2 q3 l2 vi xr vj NJ
  refine' ZC;go_region_held3 (fun W=>Below w2.heap.size w2 W) (first|exact ld|exact k4|exact k3|exact k2|exact k1|fail) (first|(go_at_call 23;first|((with_reducible refine(KS.out _ k3).mono ?_);rintro e u4 ⟨rfl,c4⟩;have k4:=Aa k3 c4)|((with_reducible refine(kw.out _ k2).mono ?_);rintro e u3 ⟨rfl,c3⟩;have k3:=Aa k2 c3)|((with_reducible refine(tg.out _ k1).mono ?_);rintro e u2 ⟨rfl,c2⟩;have k2:=Aa k1 c2)|((with_reducible refine(HC0.out _ ld).mono ?_);rintro e u1 ⟨rfl,c1⟩;have k1:=Aa ld c1)|fail)|fail)
  all_goals refine' ZI;exact⟨by rw[HF.out];rfl,Aa HT.out (Aa gi.out k4)⟩
theorem AuA(k)(h:k<10):(UInt8.ofNat (48+k)).toNat=48+k:=by rw[gZ];omega
theorem AuJ:∀n,∀b∈J1 n,48≤b.toNat∧b.toNat≤57:=by
 intro n
 induction n using Nat.strongRecOn with
 |_ n ih=>
  intro b hb;by_cases h0:n=0
  ·subst h0;rw[J1]at hb;exact absurd hb ZE
  ·rw[I2 ZA,eC,List.mem_singleton]at hb
   rcases hb with hb|rfl
   ·exact ih (n/10) ZA b hb
   ·rw[AuA _ ZA];omega
theorem AoP(n):∀b∈Pg n,48≤b.toNat∧b.toNat≤57:=by
 unfold Pg
 split
 ·intro b hb
  rw[List.mem_singleton]at hb;subst hb;exact⟨ZF,ZF⟩
 ·exact AuJ n
def vL(x:Ltr):Prop:=1≤x.id∧x.id≤9999∧Ap x.code=true
def Ek(x:Fwd):ByteArray:=x.src++⟨#[62]⟩++x.dst
theorem AxV{s}(h:Jr s=true):s.size≤7:=by unfold Jr at h;refine' YS;omega
theorem V2{s}(h:Gi s=true):1≤s.size∧s.size≤8:=by unfold Gi at h;refine' YS;omega
def Jj(rs:List Fwd):ByteArray:=if C7 rs=true then(if rs.length=0 then⟨#[45]⟩else Cg (rs.map Ek) spT)else⟨#[]⟩
theorem Vi{rs}(h:C7 rs=false):Jj rs=⟨#[]⟩:=by unfold Jj;rw[h];rfl
theorem Lu{rs}(h:C7 rs=true)(h0:rs.length=0):Jj rs=⟨#[45]⟩:=by unfold Jj;rw[aP h,aP h0]
theorem M8{rs}(h:C7 rs=true)(h0:rs.length≠0):Jj rs=Cg (rs.map Ek) spT:=by unfold Jj;rw[aP h,aL h0]
theorem Yn{rs}(h:C7 rs=true){k}(hk:k<rs.length):rs[k].src.size≤7∧1≤rs[k].dst.size∧rs[k].dst.size≤8:=by obtain⟨h1,h2,_⟩:=(Ev.1 h).2 k hk;exact⟨AxV h1,V2 h2⟩
theorem AaR{rs}(h:C7 rs=true):∀p∈rs.map Ek,p.size≤16∧1≤p.size:=fun p hp=>by refine' ZCM;refine' ZAZ;have h1:=Yn h hk;unfold Ek;refine' ZEs;show _+1+_≤16∧1≤_+1+_;omega
def Jb(rs:List Fwd)(k:Nat):ByteArray:=Cg ((rs.take k).map Ek) spT
theorem Ou(rs):Jb rs 0=⟨#[]⟩:=Km _
theorem Y9{rs}(h:0<rs.length):Jb rs 1=Ek rs[0]:=by unfold Jb;exact ZM5
theorem V7{rs k}(h:k<rs.length)(h0:0<k):Jb rs (k+1)=Jb rs k++spT++Ek rs[k]:=by unfold Jb;exact ZM6
theorem Ak9{rs}(h:C7 rs=true)(k):(Jb rs k).size≤340:=by
 have h1:=Dw ((rs.take k).map Ek) spT 16 fun p hp=>(AaR h p ZHS).1
 have h2:=(Ev.1 h).1;rw[bF]at h1;have h3:(rs.take k).length*(16+spT.size)≤20*17:=cC zF (aD _);unfold Jb;omega
theorem Ay7{rs}(h:C7 rs=true)(h0:0<rs.length):1≤(Jb rs rs.length).size:=by
 obtain⟨k,hk⟩:∃k,rs.length=k+1:=⟨rs.length - 1,ZA⟩;rw[hk];have hp:∀(j:Nat) (hj:j<rs.length),1≤(Ek rs[j]).size:=fun j hj=>(AaR h _ (List.mem_map.2 ⟨_,aU hj,rfl⟩)).2
 exact ZNL
theorem Yp(rs):(Jj rs).size≤340:=by
 cases h:C7 rs
 ·rw[Vi h];exact ZZ
 ·by_cases h0:rs.length=0
  ·rw[Lu h h0];exact(ZF:(1:Nat)≤340)
  ·rw[M8 h h0]
   have:=Ak9 h rs.length;unfold Jb at this
   rwa [aY]at this
theorem R7(v rs w)(hv:rd w w.heap.size v rs):
 Calls aB 88 #[v] w fun e w'=>e=.returned (.string (Jj rs))∧Below w.heap.size w w':=by
 refine' ZAc;go_enter Tryz.func88,Tryz.ntmps88
 refine' ZC;refine(Tr _ rs _ HV.out).mono ?_;refine' ZW;have l1:=aF w.heap.size w;refine' ZNM;have HF:Hid (Jj rs=if(Jb rs rs.length).size=0 then⟨#[45]⟩else Jb rs rs.length):=by
  show _=_;by_cases h0:rs.length=0
  ·rw[Lu ag h0,h0,Ou];rfl
  ·have:=Ay7 ag ZA
   rw[M8 ag h0,aL ZA];unfold Jb;rw[aY]
 refine' ZNN
 ·refine' ZDZ;by_cases ab:k<rs.length
  ·refine' ZDb;have y1:=y1 w2 lr;have y2:=y2 w2 lr;have kT:=aA (Yn ee.out ab);refine' ZNO;have d9:=Ak9 ee.out k;refine' ZNP
   ·refine' ZNQ;have KT:(P++(⟨#[32]⟩:ByteArray)).size≤341:=ZCN
    exact ZNR
  ·refine' ZNS;by_cases hz:P.size=0
   ·have tj:Hid (Jj rs=⟨#[45]⟩):=ZHT
    refine' ZBF;rw[aP hz]at HD;exact ZCO
   ·have tj:Hid (Jj rs=P):=ZHU
    refine' ZBF;rw[aL hz]at HD;exact ZCO
theorem AcB(v rs w)(hv:rd w w.heap.size v rs):
 Calls aB 217 #[v] w fun e w'=>e=.returned (.string (Jj rs))∧Below w.heap.size w w':=by
 refine' ZAc;refine' zh;refine' YF;go_enter Tryz.func217,Tryz.ntmps217
 refine' ZC;refine(Ny _ rs _ HV.out).mono ?_;refine' ZEl;refine' ZNM;by_cases h0:rs.length=0
 ·have HF:=aA (Lu ag h0)
  have jS:((rs.length:Int)==0)=true:=ZDY
  clear ag h0
  exact ZBC
 have HF:=aA (M8 ag h0);refine' ZNT
 ·refine' ZBm;by_cases ab:k<rs.length
  ·refine' ZDb;refine' ZEm;have yt:=aA (Yn ee.out ab);have lN:(rs.map Ek)[k]' zY=Ek rs[k]:=ZE
   have kT:=aA (AaR ee.out (Ek rs[k]) (List.mem_map.2 ⟨_,aU ab,rfl⟩));refine' ZNU;have lb:Below w2.heap.size w2 (w2.alloc (aC #[.string p,.string q] 181)):=(aF _ _).alloc (aD _) _;exact ZNV
  ·refine' ZNW;have lU:=Dw (rs.map Ek) spT 16 fun p hp=>(AaR ee.out p hp).1
   rw[cg.out]at lU;have mG:rs.length*(16+spT.size)≤20*17:=cC kl (aD _);exact ZEo
def C5(fs:List Fwd):ByteArray:=if Be fs=true then(if fs.length=0 then⟨#[45]⟩else Cg (fs.map Ek) spT)else⟨#[]⟩
theorem Ag2{fs}(h:Be fs=false):C5 fs=⟨#[]⟩:=by unfold C5;rw[h];rfl
theorem Vp{fs}(h:Be fs=true)(h0:fs.length=0):C5 fs=⟨#[45]⟩:=by unfold C5;rw[aP h,aP h0]
theorem Pe{fs}(h:Be fs=true)(h0:fs.length≠0):C5 fs=Cg (fs.map Ek) spT:=by unfold C5;rw[aP h,aL h0]
theorem AcQ{s}(h:Ap s=true):s.size=7:=by unfold Ap at h;rw[aN,dE]at h;exact h.1
theorem AbF{fs}(h:Be fs=true){k}(hk:k<fs.length):fs[k].src.size≤7∧1≤fs[k].dst.size∧fs[k].dst.size≤8:=by have h1:=(Ch.1 h).2 k hk;have c1:=AcQ h1.1;have c2:=AcQ h1.2.1;omega
theorem Zt{fs}(h:Be fs=true):∀p∈fs.map Ek,p.size≤16∧1≤p.size:=fun p hp=>by refine' ZCM;refine' ZAZ;have h1:=AbF h hk;unfold Ek;refine' ZEs;show _+1+_≤16∧1≤_+1+_;omega
theorem Kt(v rs w)(hv:rd w w.heap.size v rs):
 Calls aB 125 #[v] w fun e w'=>e=.returned (.string (C5 rs))∧Below w.heap.size w w':=by
 refine' ZAc;refine' zh;refine' YF;go_enter Tryz.func125,Tryz.ntmps125
 refine' ZC;refine(Dj _ rs _ HV.out).mono ?_;refine' ZEl;refine' ZOK;by_cases h0:rs.length=0
 ·have HF:=aA (Vp ag h0)
  have jS:((rs.length:Int)==0)=true:=ZDY
  clear ag h0
  exact ZBC
 have HF:=aA (Pe ag h0);refine' ZNT
 ·refine' ZBm;by_cases ab:k<rs.length
  ·refine' ZDb;refine' ZEm;have yt:=aA (AbF ee.out ab);have lN:(rs.map Ek)[k]' zY=Ek rs[k]:=ZE
   have kT:=aA (Zt ee.out (Ek rs[k]) (List.mem_map.2 ⟨_,aU ab,rfl⟩));refine' ZNU;have lb:Below w2.heap.size w2 (w2.alloc (aC #[.string p,.string q] 128)):=(aF _ _).alloc (aD _) _;exact ZNV
  ·refine' ZNW;have lU:=Dw (rs.map Ek) spT 16 fun p hp=>(Zt ee.out p hp).1
   rw[cg.out]at lU;have mG:rs.length*(16+spT.size)≤30*17:=cC kl (aD _);exact ZEo
theorem Au8{rs}(h:Be rs=true)(k):(Jb rs k).size≤510:=by
 have h1:=Dw ((rs.take k).map Ek) spT 16 fun p hp=>(Zt h p ZHS).1
 have h2:=(Ch.1 h).1;rw[bF]at h1;have h3:(rs.take k).length*(16+spT.size)≤30*17:=cC zF (aD _);unfold Jb;omega
theorem AyO{rs}(h:Be rs=true)(h0:0<rs.length):1≤(Jb rs rs.length).size:=by
 obtain⟨k,hk⟩:∃k,rs.length=k+1:=⟨rs.length - 1,ZA⟩;rw[hk];have hp:∀(j:Nat) (hj:j<rs.length),1≤(Ek rs[j]).size:=fun j hj=>(Zt h _ (List.mem_map.2 ⟨_,aU hj,rfl⟩)).2
 exact ZNL
theorem Et(v rs w)(hv:rd w w.heap.size v rs):
 Calls aB 30 #[v] w fun e w'=>e=.returned (.string (C5 rs))∧Below w.heap.size w w':=by
 refine' ZAc;go_enter Tryz.func30,Tryz.ntmps30
 refine' ZC;refine(D2 _ rs _ HV.out).mono ?_;refine' ZW;have l1:=aF w.heap.size w;refine' ZOK;have HF:Hid (C5 rs=if(Jb rs rs.length).size=0 then⟨#[45]⟩else Jb rs rs.length):=by
  show _=_;by_cases h0:rs.length=0
  ·rw[Vp ag h0,h0,Ou];rfl
  ·have:=AyO ag ZA
   rw[Pe ag h0,aL ZA];unfold Jb;rw[aY]
 refine' ZNN
 ·refine' ZDZ;by_cases ab:k<rs.length
  ·refine' ZDb;have y1:=y1 w2 lr;have y2:=y2 w2 lr;have kT:=aA (AbF ee.out ab);refine' ZNO;have d9:=Au8 ee.out k;refine' ZNP
   ·refine' ZNQ;have KT:(P++(⟨#[32]⟩:ByteArray)).size≤511:=ZCN
    exact ZNR
  ·refine' ZNS;by_cases hz:P.size=0
   ·have tj:Hid (C5 rs=⟨#[45]⟩):=ZHT
    refine' ZBF;rw[aP hz]at HD;exact ZCO
   ·have tj:Hid (C5 rs=P):=ZHU
    refine' ZBF;rw[aL hz]at HD;exact ZCO
end Go.Proofs.YtfadhdacjpmmeaaGreatDoor
