/- Parts. -/
import Derived.Test.YtfadhdacjpmmeaaGreatDoorQ25
set_option linter.unusedVariables false
set_option linter.unusedSimpArgs false
namespace Go.Proofs.YtfadhdacjpmmeaaGreatDoor
set_option maxRecDepth 100000
set_option maxHeartbeats 3200000
open Go.IntKind renaming i64→aI
open Go.Obj renaming cells→aC
open Go.Proofs.Tryz renaming prog→aB
open Go.Value renaming string→aK,int→bC
open Go.RowKit
theorem Tryz.infoByte:(aB.info? 5).map (fun i=>(i.zero,i.size,i.bytes))=some (some (.int .u8 0),1,1):=ZB
theorem Ba3(d)(h:d<10):Cl d=dgB d:=by
 apply Cv;show Pg d=[UInt8.ofNat (48+d)];unfold Pg;by_cases h0:d=0
 ·subst h0;rfl
 ·rw[aL h0,Nr ZA ZA]
  unfold b8;rw[show(48+(d:Int)).toNat=48+d by omega]
theorem An8(W g n)(h:W.cell? ⟨g,0,none⟩=some (.int .u8 n)):(convert 24 9 (.slice (some ⟨g,0,none⟩) 1 1)).run aB W=.ok (.string ⟨#[b8 n]⟩) W:=by
 refine' ZMg;rw[run_bytesToString _ _ _ _ [n] (by
  refine run_loadCells_list _ _ [bC .u8 n] fun j v hj=>?_
  match j,hj with
  |0,hj=> simp at hj;subst hj;rw[Ii];exact h
  |j+1,hj=>simp at hj)]
 rfl
theorem AmE(d:Nat)(w)(hd:d<10):
 Calls aB 294 #[.int .i64 d,.int .i64 1] w fun e w'=>e=.returned (.string (dgB d))∧Below w.heap.size w w':=by
 refine' ZHW;have ez:=Ed (P:=aB) 24 5 i0 _ eG hi ah 1 zf ZA;rw[show((1:Nat):Int)=1 from rfl]at ez;have sh:madeCells #[bC .u8 0] 1=#[.int .u8 0]:=by apply Array.ext<;>simp[madeCells]
 have hdm:(d:Int)%10=d:=ZA
 refine' ZEw;go_enter Tryz.func294,Tryz.ntmps294;go_wp2;obtain⟨wz,kW⟩:∃u,u=w.alloc (aC #[.int .u8 0] 5):=⟨_,rfl⟩;have hg:wz.heap[w.heap.size]? =some (.cells #[.int .u8 0] 5 (0,0)):=by subst kW;exact bD w _
 refine' ZHX;clear kW ez;have hc:=Dv hg 0 _ rfl;have hf:=Nx hg 0
 go_loopw[0,6] (fun t i wr=>i=.int .i64 0∧t=.int .i64 d∧wr=wz∨i=.int .i64 (-1)∧t=.int .i64 (d/10:Nat)∧wr=wz.setCell ⟨w.heap.size,0,none⟩ (.int .u8 (48+d))) (fun _ i _=>(intOf i+1).toNat)
 case atStart=>exact .inl ⟨rfl,rfl,rfl⟩
 case round=>
  rcases hrel with⟨rfl,rfl,rfl⟩|⟨rfl,rfl,rfl⟩
  ·go_wp2
   go_roundw
   case rel=>exact .inr ⟨ZJ,ZJ,trivial⟩
   case measure=>simp[intOf]
  ·have sn:=Mu hg 0 (.int .u8 (48+(d:Int)))
   have l2:=Ai lz (p:=⟨w.heap.size,0,none⟩) (aD _) (.int .u8 (48+(d:Int)));generalize wz.setCell ⟨w.heap.size,0,none⟩ (.int .u8 (48+(d:Int)))=w2 at *;have kC:=Dv sn 0 _ rfl;have wF:=An8 w2 w.heap.size _ kC;refine' ZO;refine⟨B8 ?_,l2⟩;unfold dgB b8;rw[show(48+(d:Int)).toNat=48+d by omega]
def E8(w:World)(g:Nat)(l:List UInt8):Prop:=w.heap[g]? =some (.cells (l.map fun b=>bC .u8 b.toNat).toArray 5 (0,0))
theorem E8.cell{w g l}(h:E8 w g l)(i)(hi:i<l.length):w.cell? ⟨g,i,none⟩=some (.int .u8 (l[i].toNat:Int)):=
 Dv h i _ (by simp[hi])
theorem E8.free{w g l}(h:E8 w g l)(i):w.frozen? ⟨g,i,none⟩=false:=Nx h i
theorem E8.set{w g l}(h:E8 w g l)(i b):E8 (w.setCell ⟨g,i,none⟩ (.int .u8 (b.toNat:Int))) g (l.set i b):=by have h1:=Mu h i (.int .u8 (b.toNat:Int));unfold E8;rw[h1,List.map_set];simp
theorem E8.str{w g c m l}(h:E8 w g l)(hm:m≤l.length):(convert 24 9 (.slice (some ⟨g,0,none⟩) m c)).run aB w=.ok (.string ⟨(l.take m).toArray⟩) w:=by
 have h1:=run_convert_bytes_back (P:=aB) w 24 9 5 ⟨g,0,none⟩ c (l.take m) eG eF dC (fun j hj=>by
  have AG:j<l.length:=by rw[bH]at hj;omega
  rw[jC];have:=h.cell j AG;rw[Ii];exact zT)
 have hl:(l.take m).length=m:=zF
 rw[hl]at h1;exact h1
theorem AbE(k):madeCells #[bC .u8 0] k=((List.replicate k (0:UInt8)).map fun b=>bC .u8 (b.toNat:Int)).toArray:=by
 apply Array.ext
 ·simp[madeCells]
 ·intro i h1 h2
  simp[madeCells];rw[Nat.mod_one];rfl
theorem Ys{n}(h0:0≤n)(h1:n≤255):((b8 n).toNat:Int)=n:=by unfold b8;rw[gZ];omega
theorem Uc(n k:Nat)(w)(hn:n≤9223372036854775807)(hk:k≤20):
 Calls aB 294 #[.int .i64 n,.int .i64 k] w fun e w'=>e=.returned (.string (Iy n k))∧Below w.heap.size w w':=by
 refine' ZHW;have ez:=Ed (P:=aB) 24 5 i0 _ eG hi ah k zf ZA;go_enter Tryz.func294,Tryz.ntmps294
 refine' ZC;obtain⟨wz,kW⟩:∃u,u=w.alloc (aC (madeCells #[.int .u8 0] k) 5):=⟨_,rfl⟩;have hg:E8 wz w.heap.size (List.replicate k 0):=ZNX
 refine' ZHX;have HG:=aA hg;clear kW ez hg
 go_loopw[0,6] (fun t i wr=>∃(m j:Nat) (z:Int) (u:List UInt8),m≤n∧j≤k∧z+1=(j:Int)∧t=.int .i64 m∧i=.int .i64 z∧Hid (Gm n k=Gm m j++u)∧Hid (E8 wr w.heap.size (List.replicate j 0++u))∧Hid (u.length+j=k)∧Below w.heap.size w wr) (fun _ i _=>(intOf i+1).toNat)
 case atStart=>exact⟨n,k,(k:Int) - 1,[],aD _,aD _,ZA,rfl,rfl,ZDN,by show E8 _ _ _;rw[eB];exact HG.out,ZDN,lz⟩
 case round=>
  obtain⟨m,j,z,u,hm,hj,hz,rfl,rfl,HD,HR,HU,au⟩:=hrel;refine' zR;by_cases MQ:j=0
  ·obtain rfl:z= -1:=ZA
   have HJ:=aA MQ;clear hz MQ;have rq:k≤(List.replicate j (0:UInt8)++u).length:=by rw[aS,iE];have:=HU.out;omega
   have HS:Hid ((List.replicate j (0:UInt8)++u).take k=Gm n k):=by show _=_;have h1:=HD.out;have h2:=HU.out;have h3:=HJ.out;subst h3;rw[h1,List.replicate_zero,bV,Gm,bV,bA ZA]
   have wF:=HR.out.str (c:=k) rq;rw[HS.out]at wF
   refine' ZI;exact⟨rfl,au⟩
  ·obtain⟨j',rfl⟩:∃j',j=j'+1:=⟨j - 1,ZA⟩
   obtain rfl:z=(j':Int):=ZA
   clear hz MQ;have LN:IntKind.wrap .u8 (48+(m:Int)%10)=48+(m:Int)%10:=ZCR
   have bn:j'<(List.replicate (j'+1) (0:UInt8)++u).length:=by rw[aS,iE];omega
   have hc:=HR.out.cell j' bn;have hf:=HR.out.free j';have nW:Hid (E8 (w1.setCell ⟨w.heap.size,j',none⟩ (.int .u8 (48+(m:Int)%10))) w.heap.size (List.replicate j' 0++(b8 (48+(m:Int)%10)::u))):=by
    show E8 _ _ _;have h1:=HR.out.set j' (b8 (48+(m:Int)%10));refine' ZEt;have h2:(List.replicate (j'+1) (0:UInt8)++u).set j' (b8 (48+(m:Int)%10))=List.replicate j' 0++(b8 (48+(m:Int)%10)::u):=by rw[List.replicate_succ',bY,List.set_append_right _ _ (by rw[iE];exact YV),iE,Nat.sub_self];rfl
    rwa [h2]at h1
   have jR:Hid (Gm n k=Gm (m/10) j'++(b8 (48+(m:Int)%10)::u)):=by show _=_;rw[HD.out,Gm];simp
   have ww:Hid ((b8 (48+(m:Int)%10)::u).length+j'=k):=by show _=_;have:=HU.out;exact ZH
   have di:(j':Int)<(k:Int):=ZA
   have MQ:(0:Int)≤(j':Int):=ZA
   generalize(List.replicate (j'+1) (0:UInt8)++u)[j']=QG at *;clear HD HU
   refine' ZC;go_roundw
   case rel=>exact⟨m/10,j',(j':Int) - 1,_,ZA,ZA,ZA,ZJ,rfl,jR.out,nW.out,ww.out,Ai au (p:=⟨w.heap.size,j',none⟩) (aD _) _⟩
   case measure=>simp[intOf]
structure Plc where
 area:Int
 walk:Int
 point:Int
def Jk(p:Plc):Bool:=(decide (0≤p.area)&&decide (p.area≤999))&&((decide (0≤p.walk)&&decide (p.walk≤99))&&(decide (0≤p.point)&&decide (p.point≤99)))
theorem Rs{p}:Jk p=true↔(0≤p.area∧p.area≤999)∧(0≤p.walk∧p.walk≤99)∧(0≤p.point∧p.point≤99):=by unfold Jk;simp only[aN,bB]
theorem Rf{p}(h:¬((0≤p.area∧p.area≤999)∧(0≤p.walk∧p.walk≤99)∧(0≤p.point∧p.point≤99))):Jk p=false:=by
 cases hq:Jk p
 ·rfl
 ·exact absurd (Rs.1 hq) h
def Hf(p:Plc):ByteArray:=Iy p.area.toNat 3++Iy p.walk.toNat 2++Iy p.point.toNat 2
def Pm(p:Plc):ByteArray:=Iy p.area.toNat 3++⟨#[45]⟩++Iy p.walk.toNat 2++⟨#[45]⟩++Iy p.point.toNat 2
theorem Ae8(p w):
 Calls aB 293 #[.agg #[.int .i64 p.area,.int .i64 p.walk,.int .i64 p.point]] w fun e w'=>e=.returned (.bool (Jk p))∧Below w.heap.size w w':=by
 refine' ZNY;go_enter Tryz.func293,Tryz.ntmps293;by_cases h1:0≤p.area
 case neg=> exact ZCS
 by_cases h2:p.area≤999
 case neg=> exact ZCS
 by_cases h3:0≤p.walk
 case neg=> exact ZCS
 by_cases h4:p.walk≤99
 case neg=> exact ZCS
 by_cases h5:0≤p.point
 case neg=> exact ZCS
 by_cases h6:p.point≤99
 case neg=> exact ZCS
 have HT:Hid (Jk p=true):=by show _=_;rw[Rs];exact⟨⟨h1,h2⟩,⟨h3,h4⟩,⟨h5,h6⟩⟩
 refine' ZI;exact⟨Al HT.out.symm,HB.out⟩
theorem AdQ(p w)(hp:Jk p=true):
 Calls aB 237 #[.agg #[.int .i64 p.area,.int .i64 p.walk,.int .i64 p.point]] w fun e w'=>e=.returned (.tuple #[.string (Hf p),.bool true])∧Below w.heap.size w w':=by
 refine' ZNZ;have HA:Hid (∀W:World,Calls aB 294 #[.int .i64 (a:Int),.int .i64 3] W fun e w'=>e=.returned (.string (Iy a 3))∧Below W.heap.size W w'):=fun W=>Uc a 3 W ZA ZA
 have HB:Hid (∀W:World,Calls aB 294 #[.int .i64 (b:Int),.int .i64 2] W fun e w'=>e=.returned (.string (Iy b 2))∧Below W.heap.size W w'):=fun W=>Uc b 2 W ZA ZA
 have HC:Hid (∀W:World,Calls aB 294 #[.int .i64 (c:Int),.int .i64 2] W fun e w'=>e=.returned (.string (Iy c 2))∧Below W.heap.size W w'):=fun W=>Uc c 2 W ZA ZA
 refine' ZNa;have lH:=aA (Ae8 ⟨a,b,c⟩ w0);rw[HP.out]at lH;refine' ZCT;go_enter Tryz.func237,Tryz.ntmps237
 refine' ZDc;refine' ZT;have ld:=Ag b1
 refine' ZC;go_region_held3 (fun W=>Below w0.heap.size w0 W) (first|exact ld|exact k3|exact k2|exact k1|fail) (first|(go_at_call 294;refine' ZNb)|fail)
 all_goals exact ZNc
theorem Nd{α:Type}{p:α→Bool}(xs:List α)(m)(h:m<xs.length):(xs.take (m+1)).any p=((xs.take m).any p||p xs[m]):=by rw[aH h,List.any_append];simp
theorem ArF{α:Type}{p:α→Bool}(xs:List α)(m)(h:m<xs.length)(hp:p xs[m]=true):xs.any p=true:=List.any_eq_true.2 ⟨_,aU h,hp⟩
theorem Ae2(v rs p w)(hv:rd w w.heap.size v rs)(hp:p.size≤maxLen):
 Calls aB 339 #[v,.string p] w fun e w'=>e=.returned (.bool (rs.any (Iz p)))∧Below w.heap.size w w':=by
 refine' ZPO;go_enter Tryz.func339,Tryz.ntmps339;go_wp2
 go_loopw[9] (fun i wr=>∃k:Nat,k≤rs.length∧i=.int .i64 k∧Below w.heap.size w wr∧Hid ((rs.take k).any (Iz p)=false)) (fun i _=>rs.length - (intOf i).toNat)
 case atStart=>exact⟨0,aM _,rfl,l0,rfl⟩
 case round=>
  refine' ZBA;clear l0;by_cases ab:k<rs.length
  ·refine' ZPP;refine' ZIQ;refine' ZDv;have lR:=aA ie;clear ie;by_cases bn:p.size<x.src.size
   ·have t6:(p.size:Int)<(x.src.size:Int):=ZA
    refine' ZC;rw[←lR.out];refine(Mb x.src p _ qe hp).mono ?_;refine' zo;cases wD:pre x.src p
    ·refine' ZPQ;exact ZPR
    ·refine' ZPS;exact⟨Al (HA.out HP.out).symm,lo⟩
   ·refine' ZPT;rw[←lR.out]
    exact ZPR
  exact ZPU
theorem Ai0(v rs p w)(hv:rd w w.heap.size v rs)(hp:p.size≤maxLen):
 Calls aB 309 #[v,.string p] w fun e w'=>e=.returned (.bool (rs.any (Iz p)))∧Below w.heap.size w w':=by
 refine' ZPO;go_enter Tryz.func309,Tryz.ntmps309;go_wp2
 go_loopw[5] (fun i wr=>∃k:Nat,k≤rs.length∧i=.int .i64 k∧Below w.heap.size w wr∧Hid ((rs.take k).any (Iz p)=false)) (fun i _=>rs.length - (intOf i).toNat)
 case atStart=>exact⟨0,aM _,rfl,l0,rfl⟩
 case round=>
  refine' ZBA;clear l0;by_cases ab:k<rs.length
  ·refine' ZPP;by_cases bn:p.size<x.src.size
   ·have t6:(p.size:Int)<(x.src.size:Int):=ZA
    refine' ZC;refine(Qx x.src p _ qe hp).mono ?_;refine' zo;cases wD:pre x.src p
    ·refine' ZPQ;exact ZPV
    ·refine' ZPS;exact⟨Al (HA.out HP.out).symm,lr⟩
   ·refine' ZPT;exact ZPV
  exact ZPU
theorem AgC(p w)(hp:p.size≤7):
 Calls aB 340 #[.string p] w fun e w'=>e=.returned (.string (Hu p))∧w=w':=by
 have xJ:(p.size:Int)≤7:=ZA
 have hs:(ByteArray.mk #[48,48,48,48,48,48,48]).size=7:=rfl;go_enter Tryz.func340,Tryz.ntmps340;refine' ZO;exact⟨B8 rfl,rfl⟩
def Ay6(T:TypeId)(L:List ByteArray)(w:World)(e:Ending)(w':World):Prop:=∃v',e=.returned v'∧own T w.heap.size w' v' L∧Below w.heap.size w w'
theorem AsT{f}(h:f≤7):10^f≤10000000:=by have:=eM (n:=10) ZA h;exact this
theorem AbD(net s)(hk:Di net=true)(hs:s<net.length):∀(f:Nat) (p:ByteArray) (v:Value) (w:World),p.size+f=8→1≤f→rd w w.heap.size v net→
 Calls aB 291 #[v,.int .i64 s,.string p] w (Ay6 9 (Dt net s f p) w):=by
 intro f
 induction f with
 |zero=>intro p v w _ h;omega
 |succ f ih=>
  intro p v w hpf _ hv;have NX:=aA ih;clear ih;refine' ZIR;refine' ZPW;go_enter Tryz.func291,Tryz.ntmps291;go_wp2
  go_loopw[7,19] (fun t i wr=>∃k:Nat,k≤net.length∧i=.int .i64 k∧t=.bool ((net.take k).any (Pi p))∧Below w.heap.size w wr) (fun _ i _=>net.length - (intOf i).toNat)
  case atStart=>exact ZDq
  case round=>
   refine' ZDr;refine' zR;clear l0;by_cases ab:k<net.length
   ·refine' ZDw;have HS:=aA (Nd (p:=Pi p) net k ab);refine' ZPX;refine' ZDv;have HU:=aA (hu.on lo);have lR:=aA ie;clear ie hu;have DE:Hid (Pi p x=x.rules.any (Iz p)):=rfl;cases hq:(net.take k).any (Pi p)
    ·have HQ:=aA hq;clear hq
     refine' ZC;rw[←lR.out];refine(Ae2 _ x.rules p _ (HU.out.on lb) xt).mono ?_;rw[←DE.out];refine' zK;have l2:=Aa lo b2;obtain⟨r,hr⟩:∃r,Pi p x=r:=⟨_,rfl⟩;rw[hr];refine' ZCh;refine' ZC;go_roundw
     case rel=>exact⟨k+1,ZA,ZJ,by rw[HS.out,HQ.out,aj.out]<;>rfl,l2⟩
     case measure=>exact ZK
    ·have HQ:=aA hq;clear hq
     refine' ZC;rw[←lR.out]
     go_roundw
     case rel=>exact⟨k+1,ZA,ZJ,by rw[HS.out,HQ.out]<;>rfl,lo⟩
     case measure=>exact ZK
   ·have HE:Hid ((net.take k).any (Pi p)=Nl net p):=by show _=_;rw[bA ZA];rfl
    rw[HE.out];cases jb:Nl net p
    ·have cg:=aA jb;clear jb
     refine' ZC;refine(AgC p _ hp7).mono ?_;refine' zo;have HFZ:Hid ((Hu p).size≤maxLen):=by show _≤_;unfold Hu maxLen;rw[bG,eE];omega
     refine' ZC;refine(Zw _ net s (Hu p) _ (ev.out.on lr) HK.out hs HFZ.out).mono ?_;obtain⟨r,hr⟩:∃r,(Ht net (Hu p) s).2=r:=⟨_,rfl⟩;rw[hr];refine' ZCh;refine' ZAW;have l3:=Aa lr b3;clear o3 b3;by_cases f9:r=0
     ·have HF:Hid (Dt net s (f+1) p=[]):=Qh cg.out ZFc
      have rz:(r==0)=true:=by simp[f9]
      clear f9
      refine' ZI;exact⟨_,rfl,ZIS,l3⟩
     ·have HF:Hid (Dt net s (f+1) p=[p]):=S7 cg.out ZFc
      have rz:(r==0)=false:=by simp[f9]
      have HO:Hid (own (α:=ByteArray) 9 w.heap.size (w3.alloc (aC #[.string p] 9)) (.slice (some ⟨w3.heap.size,0,none⟩) 1 1) [p]):=own.made1 (α:=ByteArray) w3 9 [.string p] p ⟨xt,rfl⟩ l3.size;clear f9
      refine' ZI;exact⟨_,rfl,ZDx,Ae l3 _⟩
    ·refine' ZPY;have jS:=own.nil_ (α:=ByteArray) w1 9 w.heap.size;have j6:=aA jS;clear jS
     refine' ZC;go_loopw[12,13,45] (fun t u i wr=>∃(k m:Nat),k≤10∧i=.int .i64 k∧u=.int .i64 m∧m≤10∧Hid (m=AqV net s (g+1) p k)∧Below w.heap.size w wr∧own 9 w.heap.size wr t (AbI net s (g+1) p k)) (fun _ _ i _=>10 - (intOf i).toNat)
     case atStart=>exact⟨0,0,aM _,rfl,rfl,aM _,rfl,lr,j6.out⟩
     case round=>
      obtain⟨k,m,hk,rfl,rfl,GI,HM,lq,ho⟩:=hrel;refine' ZIT;clear lr;refine' ZPZ;by_cases ab:k<10
      ·have fe:=aA (Vv net s (g+1) p k)
       have nz:=aA (AjV net s (g+1) p k);have HCB:=aA (Af4 net s (g+1) p (k+1)).1;have bc:(k:Int)<10:=ZA
       refine' ZPa;refine(AmE k _ ab).mono ?_;refine' ZPb;by_cases mr:ys.length=1
       ·have oO:=aA (AvK (p:=d) mr)
        obtain⟨b',o',rfl,pA,NY,d1⟩:=tq.strU 0 ZA;clear NY;simp only[dA]at d1;obtain⟨y,hy⟩:∃y,ys[0]' ZA=y:=⟨_,rfl⟩;rw[hy]at d1 oO;have EP:((ys.length:Int)==1)=true:=by rw[mr];rfl
        have lw6:=aF w6.heap.size w6;clear tq hy;have pO:(0:Int)<(ys.length:Int):=ZA
        clear mr;cases qI:sEq y d
        ·have DN:Hid (Rl d ys=false):=by show _=_;rw[oO.out,qI]
         refine' ZPc;exact ZPd
        ·have DN:Hid (Rl d ys=true):=by show _=_;rw[oO.out,qI]
         refine' ZPc;go_roundw
         case rel=>exact⟨k+1,m+1,ZA,ZJ,ZJ,by have h1:=HCB.out;rw[nz.out,DN.out,←HM.out,aP rfl]at h1;omega,ZPe,l7,by rw[fe.out];exact oq.out⟩
         case measure=>exact ZK
       ·have EP:((ys.length:Int)==1)=false:=ZH
        have DN:Hid (Rl d ys=false):=AkL mr;clear tq mr
        go_wp2_with (at_builtin;refine Cu (α:=ByteArray) rfl (.tmp 68) (.tmp 69) 28 rfl w.heap.size 9 i0 _ 16 aW hi ah aw aq rfl ZF (.slice A3 zs.length c3) zs rfl pP.out (.slice A6 ys.length c6) ys rfl w6.heap.size xu.out ZN ZA tr ?_;intro v7 w7 kz dm _)
        refine' ZPf;exact ZPd
      ·obtain rfl:k=10:=ZA
       have nJ:=aA (Af4 net s (g+1) p 10).2;rw[←HM.out]at nJ;have kA:=aA (P9 (net:=net) (i:=s) (f:=g+1) cg.out);rw[HZ.out]at kA;by_cases sU:m=10
       ·have tK:((m:Int)==10)=true:=by rw[sU];rfl
        have HF:Hid (Dt net s (g+1+1) p=[p]):=by show _=_;rw[kA.out,aP (nJ.out.2 sU)]
        refine' ZPg;clear sU ho
        refine' ZI;exact⟨_,rfl,ZDx,Ae lq _⟩
       ·have tK:((m:Int)==10)=false:=ZH
        have HF:Hid (Dt net s (g+1+1) p=zs):=by show _=_;rw[kA.out,aL fun h=>sU (nJ.out.1 h)]
        clear sU ho
        refine' ZI;exact⟨_,rfl,ZDx,lq⟩
theorem AoK(v net p w)(hv:rd w w.heap.size v net)(hp:p.size≤maxLen):
 Calls aB 262 #[v,.string p] w fun e w'=>e=.returned (.bool (Nl net p))∧Below w.heap.size w w':=by
 refine' ZAJ;have NW:Hid (Nl net p=net.any (Pi p)):=rfl;go_enter Tryz.func262,Tryz.ntmps262;go_wp2
 go_loopw[5] (fun i wr=>∃k:Nat,k≤net.length∧i=.int .i64 k∧Below w.heap.size w wr∧Hid ((net.take k).any (Pi p)=false)) (fun i _=>net.length - (intOf i).toNat)
 case atStart=>exact⟨0,aM _,rfl,l0,rfl⟩
 case round=>
  refine' ZBA;clear l0;by_cases ab:k<net.length
  ·refine' ZDw;have HS:=aA (Nd (p:=Pi p) net k ab);have HA:=aA (ArF (p:=Pi p) net k ab);generalize net[k]=x at *;have HU:=aA hu;clear hu;refine' ZCi;have DE:Hid (Pi p x=x.rules.any (Iz p)):=rfl
   refine' ZC;refine(Ai0 _ x.rules p _ (HU.out.on lr) hp).mono ?_;rw[←DE.out];refine' zK;have l2:=Aa lr b2;cases hq:Pi p x
   ·have HQ:=aA hq;clear hq
    refine' ZC;go_roundw
    case rel=>exact⟨k+1,ZA,ZJ,l2,by show _=_;rw[HS.out,HG.out,HQ.out];rfl⟩
    case measure=>exact ZK
   ·have HQ:=aA hq;clear hq
    refine' ZI;exact⟨Al (by rw[NW.out,HA.out HQ.out]),l2⟩
  ·have HE:Hid (Nl net p=false):=ZPh
   refine' ZO;exact⟨Al HE.out.symm,lr⟩
theorem AqT{d:Nat}(h:d<10){w}:Calls aB 28 #[.int .i64 d] w fun e w'=>e=.returned (.string (dgB d))∧Below w.heap.size w w':=by rw[←Ba3 d h];exact Hy d w ZA
theorem Aj2(net s nm)(hk:Di net=true)(hs:s<net.length)(uG:Bw net s=nm):∀(f:Nat) (p:ByteArray) (v:Value) (w:World),p.size+f=8→1≤f→rd w w.heap.size v net→
 Calls aB 189 #[v,.string nm,.string p] w (Ay6 9 (Dt net s f p) w):=by
 intro f
 induction f with
 |zero=>intro p v w _ h;omega
 |succ f ih=>
  intro p v w hpf _ hv;have NX:=aA ih;clear ih;have DF:=aA uG;clear uG;refine' ZFd;subst hn;clear hr;unfold maxLen at hm;refine' ZAd;clear hk;refine' ZPW;refine' ZIU;obtain⟨w0,ac⟩:∃u,u=w.alloc (aC #[] 9):=⟨_,rfl⟩;have l0:Below w.heap.size w w0:=(Aw ac).1;rw[←ac]at jj;have ky:=aA jj;refine' zX;clear jj ac;go_enter Tryz.func189,Tryz.ntmps189
  refine' zD;refine(AoK _ net p _ (ev.out.on l0) xt).mono ?_;refine' zd;have lu:=aA (ky.out.below b1);clear b1;cases jb:Nl net p
  ·have cg:=aA jb;clear jb
   refine' ZC;refine(AcX _ net s nm p _ (ev.out.on l1) HK.out hs DF.out xt).mono ?_;obtain⟨r,hr⟩:∃r,(Ht net p s).2=r:=⟨_,rfl⟩;rw[hr];have aj:Hid ((Ht net (Hu p) s).2=r):=by show _=_;rw[AnM cg.out,hr]
   clear hr;refine' ZAW;have l3:=Aa l1 b3;have fg:=aA (lu.out.below b3);clear o3 b3;have oN:=l3.size;by_cases f9:r=0
   ·have HF:Hid (Dt net s (f+1) p=[]):=Qh cg.out ZFc
    have rz:(r != 0)=false:=by simp[f9]
    clear f9
    refine' ZI;exact⟨_,rfl,by rw[HF.out];exact fg.out,l3⟩
   ·have HF:Hid (Dt net s (f+1) p=[p]):=S7 cg.out ZFc
    have rz:(r != 0)=true:=by simp[f9]
    clear f9
    go_wp2_with (at_builtin;refine An (α:=ByteArray) rfl (.tmp 27) (.tmp 29) 28 rfl w.heap.size 9 i0 _ 16 aW hi ah aw aq rfl ZF (.slice (some ⟨w.heap.size,0,none⟩) 0 0) [] p rfl (fg.out.alloc _) ⟨w3.heap.size,0,none⟩ 1 [.string p] rfl ⟨xt,rfl⟩ (Bz w3 _ [.string p]) (by unfold maxLen;simp) ZE ZH ?_;intro g5 rY w5 bz ap cn jJ)
    have l5:Below w.heap.size w w5:=(Ae l3 (aC #[aK p] 9)).grown ap ZH fun q hq=>(fg.out.blk q hq).1
    refine' ZBQ;clear bz;go_ret;exact⟨_,rfl,by rw[HF.out];exact jT.out,l5⟩
  ·refine' ZPY;refine' ZC;go_loopw[7,10,11] (fun t u i wr=>∃k:Nat,k≤10∧i=.int .i64 k∧u=.bool (Ab1 net s (g+1) p k)∧Below w.heap.size w wr∧own 9 w.heap.size wr t (AbI net s (g+1) p k)) (fun _ _ i _=>10 - (intOf i).toNat)
   case atStart=>exact⟨0,aM _,rfl,rfl,l1,lu.out⟩
   case round=>
    obtain⟨k,hk,rfl,rfl,lq,ho⟩:=hrel;refine' ZIT;clear l1;refine' ZPZ;by_cases ab:k<10
    ·have fe:=aA (Vv net s (g+1) p k)
     have nz:=aA (AkU net s (g+1) p k);have bc:(k:Int)≤9:=ZA
     refine' ZPa;refine(AqT ab).mono ?_;refine' ZPb;obtain⟨al,vt⟩:∃al,Ab1 net s (g+1) p k=al:=⟨_,rfl⟩;rw[vt]at nz;have nJ:=aA vt;rw[nJ.out];clear vt;cases al
     ·clear tq
      have yw:Hid (Ab1 net s (g+1) p (k+1)=false):=by show _=_;rw[nz.out];rfl
      exact ZPi
     ·by_cases mr:ys.length=1
      ·obtain⟨y,rfl⟩:=List.length_eq_one_iff.1 mr
       have oO:Hid (Rl d [y]=sEq y d):=rfl;obtain⟨b',o',rfl,pA,NY,d1⟩:=tq.strU 0 ZE;simp only[dA,dL]at d1;clear tq NY mr;have ld:=(aF w6.heap.size w6).drew;have HCD:Hid (∀W,Below w6.heap.size w6 W→Calls aB 28 #[.int .i64 k] W fun e w'=>e=.returned (.string (dgB k))∧Below W.heap.size W w'):=fun W _=>AqT ab
       have DH:∀W,(Op.stringOp .add p (dgB k)).run aB W=.ok (.string (p++dgB k)) W:=fun W=>run_string_add (w:=W) p (dgB k) ZA ZA
       clear EL;cases qI:sEq y d
       ·have yw:Hid (Ab1 net s (g+1) p (k+1)=false):=by show _=_;rw[nz.out,oO.out,qI];rfl
        have NZ:(y.toList==(p++dgB k).toList)=false:=by rw[EN.out];exact qI
        exact ZPj
       ·have yw:Hid (Ab1 net s (g+1) p (k+1)=true):=by show _=_;rw[nz.out,oO.out,qI];rfl
        have NZ:(y.toList==(p++dgB k).toList)=true:=by rw[EN.out];exact qI
        exact ZPj
      ·have EP:((ys.length:Int)==1)=false:=ZH
       have yw:Hid (Ab1 net s (g+1) p (k+1)=false):=by show _=_;rw[nz.out,AkL mr];rfl
       clear tq mr;exact ZPi
    ·obtain rfl:k=10:=ZA
     have kA:=aA (P9 (net:=net) (i:=s) (f:=g+1) cg.out);rw[HZ.out]at kA;obtain⟨A3,n3,c3,rfl,pz,_,_,_⟩:=ho.rd;subst pz;cases vt:Ab1 net s (g+1) p 10
     ·have HF:Hid (Dt net s (g+1+1) p=zs):=by show _=_;rw[kA.out,vt];rfl
      clear vt ho
      refine' ZI;exact⟨_,rfl,ZDx,lq⟩
     ·have HF:Hid (Dt net s (g+1+1) p=[p]):=by show _=_;rw[kA.out,aP vt]
      refine' ZPg;clear vt ho
      refine' ZI;exact⟨_,rfl,ZDx,Ae lq _⟩
theorem AtB{net s}{q:Nat}(h:Di net=true)(hq:Gq net s=q):fpS net s=Dt net q 8 ⟨#[]⟩:=by unfold fpS;rw[h,hq,aJ ZA,bE];rfl
theorem Ax6{net s}(h:(Di net&&decide (0≤Gq net s))=false):fpS net s=[]:=by unfold fpS;rw[h];rfl
theorem Ww(v net s w)(hv:rd w w.heap.size v net):
 Calls aB 235 #[v,.string s] w fun e w'=>∃v',e=.returned v'∧own 9 w.heap.size w' v' (fpS net s)∧Below w.heap.size w w':=by
 refine' ZPk;go_enter Tryz.func235,Tryz.ntmps235
 refine' ZC;refine(Hx _ net s _ HV.out).mono ?_;rw[aj.out];refine' ZT;refine' ZC;refine(Js _ net _ (HV.out.on b1)).mono ?_;refine' zK;have l2:=Aa b1 b2;cases h1:Di net
 ·have HF:Hid (fpS net s=[]):=bw.out (by rw[h1];rfl)
  clear h1
  refine' ZI;exact⟨_,rfl,ZIS,l2⟩
 refine' zS;by_cases f9:r<0
 ·have HF:Hid (fpS net s=[]):=bw.out ZBK
  refine' ZI;exact⟨_,rfl,ZIS,l2⟩
 refine' ZFa;have HF:=aA (AtB H1.out aj.out);clear ot f9
 refine' ZC;refine(AbD net q H1.out kI 8 ⟨#[]⟩ _ _ rfl ZA (HV.out.on l2)).mono ?_;rw[←HF.out];refine' ZAW;have fg:=aA (o3.base_ l2.size);clear o3;refine' YC;obtain⟨A3,n3,c3,rfl,pz,_,_,_⟩:=fg.out.rd;subst pz
 refine' ZI;exact⟨_,rfl,fg.out,l3⟩
theorem Oa(v net s w)(hv:rd w w.heap.size v net):
 Calls aB 110 #[v,.string s] w fun e w'=>∃v',e=.returned v'∧own 9 w.heap.size w' v' (fpS net s)∧Below w.heap.size w w':=by
 refine' ZPk;refine' ZIU;have ky:=aA jj;clear jj;go_enter Tryz.func110,Tryz.ntmps110
 refine' ZC;refine(Mm _ net _ HV.out).mono ?_;refine' zo;cases h1:Di net
 ·have HF:Hid (fpS net s=[]):=bw.out (by rw[h1];rfl)
  clear h1
  refine' ZI;exact⟨_,rfl,ZIV,Ae l0 _⟩
 refine' zP;refine(H7 _ net s _ HV.out).mono ?_;rw[aj.out];refine' ZW;by_cases f9:r<0
 ·have HF:Hid (fpS net s=[]):=bw.out ZBK
  refine' ZI;exact⟨_,rfl,ZIV,Ae l0 _⟩
 refine' ZFa;have vu:Hid (Bw net q=s):=by show _=_;rw[Kl kI,ot]
 have HF:=aA (AtB H1.out aj.out);clear ot f9
 refine' ZC;refine(Aj2 net q s H1.out kI vu.out 8 ⟨#[]⟩ _ _ rfl ZA HV.out).mono ?_;rw[←HF.out];refine' ZAW;have fg:=aA o3;clear o3;obtain⟨A3,n3,c3,rfl,pz,_,_,_⟩:=fg.out.rd;subst pz
 refine' ZI;exact⟨_,rfl,fg.out,b3⟩
section
variable{T1 T2 base G n c:Nat}{w w1:World}{net:List Ofc}{os:List OfV}
theorem isN.snoc{v u g m cap nm ys}(h:isN T1 T2 base w v net os)(ho:own T2 base w u ys)(hf:apart u v)(hfs:∀k (hk:k<os.length),apart u os[k].val)
 (hn:own T1 base w1 (.slice (some ⟨g,0,none⟩) m cap) (os++[⟨nm,u⟩])) (hg:w.grownBy w1 v.ownBlock) (ha:some g=v.ownBlock∨g=w.heap.size):
 isN T1 T2 base w1 (.slice (some ⟨g,0,none⟩) m cap) (net++[⟨nm,ys⟩]) (os++[⟨nm,u⟩]):=by
 refine' ZAV;have MW:∀k (hk:k<(os++[(⟨nm,u⟩:OfV)]).length),apart (os++[(⟨nm,u⟩:OfV)])[k].val v:=fun k hk=>by
  by_cases kv:k<os.length
  ·rw[bN kv];exact h5 k kv
  ·refine' ZCC;have:k - os.length=0:=zW
   refine' ZEM;exact hf
 have ab:∀k (hk:k<(os++[(⟨nm,u⟩:OfV)]).length) j,(os++[(⟨nm,u⟩:OfV)])[k].val.ownBlock=some j→j<w.heap.size:=fun k hk j=>by
  by_cases kv:k<os.length
  ·rw[bN kv];exact fun e=>((h3 k kv ZA).2.blk j e).2
  ·refine' ZCC;have:k - os.length=0:=zW
   refine' ZEM;exact fun e=>(ho.blk j e).2
 refine⟨hn,by simp[h2],fun k hk fu=>?_,fun j k hj hk bj=>?_,fun k hk=>?_⟩
 ·by_cases kv:k<os.length
  ·rw[bN kv,bN ZA]
   exact⟨(h3 k kv ZA).1,(h3 k kv ZA).2.grown hg (h5 k kv)⟩
  ·have e1:k - os.length=0:=zW
   have e2:k - net.length=0:=ZA
   refine' ZGi;simp only[e1,e2,dL];exact⟨trivial,ho.grown hg hf⟩
 ·by_cases vd:j<os.length
  ·by_cases kv:k<os.length
   exact ZKi
   ·have e1:k - os.length=0:=zW
    refine' ZKj;exact Br (hfs j vd)
  ·have e1:j - os.length=0:=ZDA
   by_cases kv:k<os.length
   ·refine' ZKk;exact hfs k kv
   ·exfalso;simp at hj hk;omega
 ·exact Br (Dg (Br (MW k hk)) ha fun j hj=>ab k hk j hj)
end
theorem isN.keepBlk{T1 T2 base:Nat}{w w' v net os}(h:isN T1 T2 base w v net os)(hk:∀k,base≤k→k<w.heap.size→w'.heap[k]? =w.heap[k]?):isN T1 T2 base w' v net os:=
 ⟨h.1.keepBlk fun k e=>hk k (h.1.blk k e).1 (h.1.blk k e).2,h.2.1,fun k a b=>⟨(h.2.2.1 k a b).1,(h.2.2.1 k a b).2.keepBlk fun j e=>hk j ((h.2.2.1 k a b).2.blk j e).1 ((h.2.2.1 k a b).2.blk j e).2⟩,h.2.2.2.1,h.2.2.2.2⟩
theorem isN.none_{T1 T2 base:Nat}{w v}(h:own (α:=OfV) T1 base w v []):isN T1 T2 base w v [] []:=
 ⟨h,rfl,fun k h=>absurd h (aX k),fun j _ h=>absurd h (aX j),fun k h=>absurd h (aX k)⟩
theorem AkQ{net}(h:Di net=true){c}:∀(f:Nat) (p:List Nat) (i:Nat),Uj net f p i→0≤(Fc net c f p i).2∧(Fc net c f p i).2≤2
 |0,p,i,ho=>by obtain⟨g,hg⟩:=Qg ho;omega
 |f+1,p,i,ho=>by
  unfold Fc;by_cases hm:i∈p
  ·rw[aP hm];exact⟨ZE,ZE⟩
  rw[aL hm]
  split
  ·exact⟨ZE,ZE⟩
  ·split
   ·exact⟨ZE,ZE⟩
   ·rename_i h1 h2
    obtain⟨j,hj,e,_⟩:=AsP h ho.2.2.1 h1 h2;rw[e,bE];exact AkQ h (c:=c) f (p++[i]) j (Py ho hm hj)
def Na(net:List Ofc)(s c:ByteArray):Bool:=Di net&&decide (0≤Gq net s)&&Ap c
def Cs(net:List Ofc)(s c:ByteArray):List Nat×Int:=if Na net s c=true then Ht net c (Gq net s).toNat else([],3)
theorem Zp{net s c}(h:Na net s c=false):Cs net s c=([],3):=by unfold Cs;rw[h];rfl
theorem Ab0{net s c}{q:Nat}(h:Di net=true)(hq:Gq net s=q)(hc:Ap c=true):Cs net s c=Ht net c q:=by unfold Cs Na;rw[h,hq,hc,aJ ZA,bE];rfl
theorem Vj(v net s c w)(hv:rd w w.heap.size v net)(jf:c.size≤maxLen):
 Calls aB 242 #[v,.string s,.string c] w fun e w'=>∃v',e=.returned (.tuple #[v',.int .i64 (Cs net s c).2])∧own 9 w.heap.size w' v' ((Cs net s c).1.map (Bw net))∧Below w.heap.size w w':=by
 refine' zQ;obtain⟨A,n0,c0,rfl,jw,xW,sU,f9⟩:=hv;subst jw;unfold maxLen at sU;have HR:=aA f9;clear f9;refine' YF;refine' zh;have bw:Hid (Na net s c=false→Cs net s c=([],3)):=fun h=>Zp h
 have HQ:Hid (Na net s c=(Di net&&decide (0≤Gq net s)&&Ap c)):=rfl;obtain⟨r,hr⟩:∃r,Gq net s=r:=⟨_,rfl⟩;rw[hr]at HQ;refine' ZCh;go_enter Tryz.func242,Tryz.ntmps242
 refine' ZC;refine(Hx _ net s _ (HV.out.on l0)).mono ?_;rw[aj.out];rintro e w1 ⟨rfl,b⟩;have l1:=Aa l0 b;clear b
 refine' ZC;refine(Js _ net _ (HV.out.on l1)).mono ?_;rintro e w2 ⟨rfl,b⟩;have l2:=Aa l1 b;clear b;cases h1:Di net
 ·have HF:=aA (bw.out (by rw[HQ.out,h1];rfl))
  clear h1
  exact ZIP
 refine' zS;by_cases f9:r<0
 ·have HF:=aA (bw.out (by rw[HQ.out,aO ZA];simp))
  exact ZIP
 refine' ZFa;clear ot f9
 refine' ZC;refine(Cw c _ jf).mono ?_;refine' ZAq;cases h2:Ap c
 ·have HF:=aA (bw.out (by rw[HQ.out,h2];simp))
  clear h2
  exact ZIP
 have HF:=aA (Ab0 H1.out aj.out h2);clear h2
 refine' ZC;refine(Zw _ net q c _ (HV.out.on l2) H1.out kI jf).mono ?_;have bn:=AbM H1.out (c:=c) (net.length+1) [] q (Ml kI);have GH:=(D1.1 H1.out).1;have ce:Ht net c q=Fc net c (net.length+1) [] q:=rfl;rw[←ce]at bn;clear ce;obtain⟨rQ,KJ,yd⟩:=bn;have pX:=aA yd;clear yd;generalize Ht net c q=R at *;simp only[cK]at rQ;rintro e w5 ⟨v5,rfl,o5,b5⟩;have l5:=Aa l2 b5;clear b5 l2;rcases o5.form with⟨_,h0⟩|⟨g5,c5,rfl,ap,tY,KO,xp⟩
 ·have:=aT List.length h0
  rw[Jm]at this;simp at this;rw[this]at rQ;simp at rQ
 rw[Jm]at *;have LV:=aA (AnT o5);clear o5;unfold maxLen at xp;have hlR:R.1.length≤9:=ZA
 obtain⟨z,hz⟩:∃z,R.1.length=z:=⟨_,rfl⟩;have ez:=Ed (P:=aB) 28 9 i0 _ aW hi ah z zf ZA;have HZ:=aA hz;rw[hz]at rQ KJ hlR KO⊢;clear hz
 refine' ZC;have kF:Ck 9 (w5.alloc (aC (madeCells #[.string ⟨#[]⟩] z) 9)) w5.heap.size z 0 (R.1.map (Bw net)):=Ck.made w5 _ _ _ ZAK _;have bg:Below w5.heap.size w5 (w5.alloc (aC (madeCells #[.string ⟨#[]⟩] z) 9)):=(aF _ _).alloc (aD _) _;generalize w5.alloc (aC (madeCells #[.string ⟨#[]⟩] z) 9)=w0 at *;clear ez;have DA:=l5.size
 go_loopw[41] (fun i wr=>∃k:Nat,k≤z∧i=.int .i64 k∧Below w5.heap.size w5 wr∧Ck 9 wr w5.heap.size z k (R.1.map (Bw net))) (fun i _=>z - (intOf i).toNat)
 case atStart=>exact ZBE
 case round=>
  obtain⟨k,hk,rfl,au,hf⟩:=hrel;obtain⟨w6,rfl⟩:∃w6:World,w6=wr:=⟨_,rfl⟩;clear kF bg;by_cases ab:k<z
  ·have MT:k<R.1.length:=by rw[HZ.out];exact ab
   have EA:=pX.out R.1[k] (aU MT);have cP:=LV.out k (by rw[Jm];exact MT) w6 au;rw[show(S8 R.1)[k]'(by rw[Jm];exact MT)=((R.1[k]:Nat):Int) by simp[S8]]at cP;have lN:(R.1.map (Bw net))[k]'(by simpa using MT)=Bw net R.1[k]:=ZE
   refine' ZPN;obtain⟨bo,oo,A',c',rfl,x9,uG,_,c1,_⟩:=HR.out.ofcU R.1[k] EA;have c1:=c1 w6 (Aa l5 au);have fe:=aA (fun(W:World) (hF:Ck 9 W w5.heap.size z k (R.1.map (Bw net)))=>hF.step zY ZAs (ecs:=[.string net[R.1[k]].name]) (by rw[lN,Kl EA];exact⟨uG,rfl⟩));clear lN;generalize net[R.1[k]].name=x at *;generalize R.1[k]=j at *;obtain⟨u0,g0⟩:=hf.cell (j:=k) ZCP;have f0:=hf.free k;have mK:=aA hf;clear hf;have ko:(j:Int)<(net.length:Int):=ZA
   refine' ZFb;go_wp2
   go_roundw
   case rel=> have:=fe.out w6 mK.out;rw[show k*El.size ByteArray=k from dZ k]at this;exact⟨k+1,ZA,ZJ,au.trans (I6 [.string x] w6 k _ (aD _)),this⟩
   case measure=>exact ZK
  ·have HE:=aA (show k=z by omega)
   have mK:=aA hf;clear hf;refine' ZPN;go_wp2;go_ret2;rw[HF.out];exact⟨_,rfl,((HE.out▸mK.out:Ck _ _ _ _ z _).own cg.out.symm (aD _) ZN).base_ DA,Aa l5 au⟩
theorem AuS{net s c}(h:Di net=false∨Gq net s<0∨Ap c=false):Cs net s c=([],3):=by
 refine Zp ?_;unfold Na;rcases h with h|h|h
 ·rw[h];rfl
 ·exact ZBK
 ·rw[h];simp
theorem As5{v a b}(h:b=a):Ending.returned (.tuple #[v,.int .i64 a])=.returned (.tuple #[v,.int .i64 b]):=ZAb
theorem Mt(v net s c w)(hv:rd w w.heap.size v net)(jf:c.size≤maxLen):
 Calls aB 188 #[v,.string s,.string c] w fun e w'=>∃v',e=.returned (.tuple #[v',.int .i64 (Cs net s c).2])∧own 9 w.heap.size w' v' ((Cs net s c).1.map (Bw net))∧Below w.heap.size w w':=by
 refine' zQ;clear hv;refine' YF;obtain⟨r,hr⟩:∃r,Gq net s=r:=⟨_,rfl⟩;have ma:=aA (fun h=>AuS (net:=net) (s:=s) (c:=c) h);rw[hr]at ma;refine' ZCh;refine' ZIU;have ky:=aA jj;clear jj;obtain⟨P,hP⟩:∃P,Cs net s c=P:=⟨_,rfl⟩;have HP:=aA hP;rw[hP];clear hP;go_enter Tryz.func188,Tryz.ntmps188
 refine' ZC;refine(Mm _ net _ HV.out).mono ?_;refine' zo;cases h1:Di net
 ·have HF:Hid (P=([],3)):=by show _=_;rw[←HP.out];exact ma.out (.inl h1)
  clear h1
  exact ZJ9
 refine' zP;refine(H7 _ net s _ HV.out).mono ?_;rw[aj.out];refine' ZW;by_cases f9:r<0
 ·have HF:Hid (P=([],3)):=by show _=_;rw[←HP.out];exact ma.out (.inr (.inl f9))
  exact ZJ9
 refine' ZC;refine(Cm c _ jf).mono ?_;refine' ZAq;cases h2:Ap c
 ·have HF:Hid (P=([],3)):=by show _=_;rw[←HP.out];exact ma.out (.inr (.inr h2))
  clear h2
  exact ZJ9
 refine' zA;refine' ZFa;have vu:Hid (Bw net q=s):=by show _=_;rw[Kl kI,ot]
 have HF:Hid (P=Ht net c q):=by show _=_;rw[←HP.out];exact Ab0 H1.out aj.out H2.out
 clear ot f9
 refine' ZC;refine(AcX _ net q s c _ HV.out H1.out kI vu.out jf).mono ?_;rw[←HF.out];refine' ZAW;have fg:=aA o3;clear o3;obtain⟨A3,n3,c3,rfl, -, -, -, -⟩:=fg.out.rd
 refine' ZQ;exact⟨_,rfl,fg.out,b3⟩
end Go.Proofs.YtfadhdacjpmmeaaGreatDoor
