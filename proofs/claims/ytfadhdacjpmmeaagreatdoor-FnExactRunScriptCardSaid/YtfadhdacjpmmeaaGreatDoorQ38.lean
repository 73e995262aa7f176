/- Parts. -/
import Derived.Test.YtfadhdacjpmmeaaGreatDoorQ34
import Derived.Test.YtfadhdacjpmmeaaGreatDoorQ35
set_option linter.unusedVariables false
set_option linter.unusedSimpArgs false
namespace Go.Proofs.YtfadhdacjpmmeaaGreatDoor
set_option maxRecDepth 100000
set_option maxHeartbeats 3200000
open Go.IntKind renaming i64→aI
open Go.Obj renaming cells→aC
open Go.Proofs.Tryz renaming prog→aB
open Go.Value renaming string→aK,int→bC
open Go.RowKit
theorem AgQ(n):1≤(Cl n).size:=by
 unfold Cl Pg
 split
 ·exact aD 1
 ·rename_i h
  obtain⟨b,l,e,_⟩:=Ag5 n ZA;rw[e];show 1≤(b::l).toArray.size;simp
theorem Ag9{n}(h:0≤n):G1 n=Cl n.toNat∧1≤(G1 n).size:=by obtain⟨m,rfl⟩:=aQ h;rw[AnF,bE];exact⟨rfl,AgQ m⟩
theorem Al3{p}(h:Bq p=true):1≤(E7 p).size:=by rw[Ov h];refine' YY;show 1≤_+1+_+1+_;omega
theorem V5{fs}(h:Be fs=true):1≤(C5 fs).size:=by
 by_cases h0:fs.length=0
 ·unfold C5;rw[aP h,aP h0];decide
 ·rw[Pe h h0]
  refine Uk ZH9 fun p hp=>?_
  obtain⟨x,_,rfl⟩:=List.mem_map.1 hp;unfold Ek;exact ZAz
theorem Al1{p xs}(h:M4 p xs=true):0≤F5 p xs:=by have h1:=Qj p xs;rw[Az5 h]at h1;rw[Aw7 h];omega
theorem Ay9{hs}(h:Ee hs=true):1≤(Cb hs).size:=by refine' ZIJ;exact(Sh h.1 h.2).2
theorem Az4{s}(h:Inv s)(wd):1≤(Rh s wd).2.size:=by
 have lL {p:Prop} [Decidable p] {a b:Dsk×ByteArray} (h1:1≤a.2.size) (h2:1≤b.2.size):1≤(if p then a else b).2.size:=by
  split
  ·exact h1
  ·exact h2
 have hR:1≤(Sx (Dh s.day s.letters)).size:=AwI (AzU h.rd);unfold Rh
 with_reducible refine lL (Ui h.bs) ?_
 with_reducible refine lL (Ui (AcW (Oe _) h.bs)) ?_
 with_reducible refine lL ?_ ?_
 ·exact ZAz
 with_reducible refine lL ?_ ?_
 ·exact ZAz
 with_reducible refine lL (Al3 h.plan) ?_
 with_reducible refine lL (Ag9 (Al1 h.rp)).2 ?_
 with_reducible refine lL (V5 h.fwds) ?_
 with_reducible refine lL (V5 (Ad8 h.fwds)) ?_
 with_reducible refine lL (Q6 fun p hp=>by have:=(Cp (Aa0 _ p hp)).1;omega) ?_
 with_reducible refine lL (Ay9 h.held) ?_
 with_reducible refine lL hR ?_
 with_reducible refine lL (AtO (Wn h.rd).2).2 ?_
 with_reducible refine lL (AyK h.net) ?_
 show 1≤Hg.size;decide
theorem AwQ{t}(h:0<t.size):Kn t=(t[0]==45):=by
 have hl:0<t.data.toList.length:=zG
 unfold Kn Lib.hasPrefix;obtain⟨b,l,au⟩:∃b l,t.data.toList=b::l:=by
  cases hq:t.data.toList with
  |nil=>rw[hq]at hl;simp at hl
  |cons b l=>exact⟨b,l,rfl⟩
 have e:t[0]=t.data.toList[0]:=rfl;rw[e];simp only[au];refine' ZAU;simp[List.isPrefixOf];exact eq_comm
theorem AtP{t}(h:t.size=0):Kn t=false:=by have hl:t.data.toList=[]:=List.length_eq_zero_iff.1 zG;unfold Kn Lib.hasPrefix;rw[hl];rfl
theorem BaM{t}(h:Kn t=true):Mj t=t.extract 1 t.size:=by apply Cv;rw[J3];unfold Kn at h;unfold Mj Lib.trimPrefix;rw[h];rfl
theorem AfB{d ng}(h0:d.size≠0)(ML:d.size≤17)(hz:(Pu d&&(decide (1<d.size)||ng))=false):nOk d ng=Ea d.data.toList:=by unfold nOk;rw[hz,aJ h0,aJ ML];simp
theorem AhS(d w)(hz:d.size≤maxLen)(h0:d.size≠0)(hn:Kn d=false):
 Calls aB 89 #[.string d] w fun e w'=>e=.returned (.tuple #[.int .i64 (N5 d false),.bool (nOk d false)])∧w=w':=by
 unfold maxLen at hz;have qV:=AwQ (t:=d) ZA;rw[hn]at qV;obtain⟨bs,kO⟩:∃b,d[0]' ZA=b:=⟨_,rfl⟩;rw[kO]at qV;have BW:((bs.toNat:Int)==45)=false:=beq_eq_false_iff_ne.2 fun h=>ZSI
 have hsj:¬(bs.toNat:Int)=45:=fun h=>ZSI
 have hdp:(0:Int)<(d.size:Int):=ZA
 clear qV hn;have TA:((d.size:Int)==0)=false:=beq_eq_false_iff_ne.2 ZA;by_cases ML:17<d.size
 ·have HO:Hid (nOk d false=false):=ZHn
  refine' ZAM;have uv:(17:Int)<(d.size:Int):=ZA
  refine' ZB3;exact ZB4
 refine' ZSJ;rw[kO]at ah;by_cases bg:bs=48
 ·have HZ:Hid (Pu d=true):=by show _=_;rw[ah,bg];rfl
  have rM:((bs.toNat:Int)==48)=true:=by rw[bg];rfl
  have TC:(bs.toNat:Int)=48:=by rw[bg];rfl
  by_cases h1:1<d.size
  ·have HO:Hid (nOk d false=false):=by show _=_;unfold nOk;rw[HZ.out,aJ h1];simp
   refine' ZAM;have h1i:(1:Int)<(d.size:Int):=ZA
   clear ah bg;refine' ZB3;exact ZB4
  have HT:Hid (nOk d false=Ea d.data.toList):=AfB ZA ZA (by rw[aO h1];simp);have h1i:¬(1:Int)<(d.size:Int):=ZA
  exact ZSK
 have HZ:Hid (Pu d=false):=ZSL
 have rM:((bs.toNat:Int)==48)=false:=beq_eq_false_iff_ne.2 fun h=>bg (UInt8.toNat_inj.1 (by show bs.toNat=48;omega))
 have TC:¬(bs.toNat:Int)=48:=fun h=>bg (UInt8.toNat_inj.1 (by show bs.toNat=48;omega))
 have HT:Hid (nOk d false=Ea d.data.toList):=AfB ZA ZA (by rw[HZ.out];rfl);exact ZSK
theorem AfZ(t w)(hz:t.size≤maxLen)(h0:t.size≠0)(hn:Kn t=true):
 Calls aB 89 #[.string t] w fun e w'=>e=.returned (.tuple #[.int .i64 (N5 (t.extract 1 t.size) true),.bool (nOk (t.extract 1 t.size) true)])∧w=w':=by
 unfold maxLen at hz;have qV:=AwQ (t:=t) ZA;rw[hn]at qV;obtain⟨bs,kO⟩:∃b,t[0]' ZA=b:=⟨_,rfl⟩;rw[kO]at qV;have qI:bs=45:=eq_of_beq qV.symm;have hsj:(bs.toNat:Int)=45:=by rw[qI];rfl
 have hdp:(0:Int)<(t.size:Int):=ZA
 have h1s:(1:Int)≤(t.size:Int):=ZA
 have rV:(t.extract 1 t.size).size=t.size - 1:=zc
 clear qV hn qI;obtain⟨d,hd⟩:∃d,t.extract 1 t.size=d:=⟨_,rfl⟩;rw[hd]at rV⊢;have kN:d.size+1=t.size:=ZA
 clear rV;by_cases h0:d.size=0
 ·have HO:Hid (nOk d true=false):=by show _=_;unfold nOk;simp[h0]
  refine' ZAM;have TA:(d.size:Int)=0:=ZA
  refine' ZB3;exact ZB4
 have TA:((d.size:Int)==0)=false:=beq_eq_false_iff_ne.2 ZA;have h0j:¬(d.size:Int)=0:=ZA
 by_cases ML:17<d.size
 ·have HO:Hid (nOk d true=false):=ZHn
  refine' ZAM;have uv:(17:Int)<(d.size:Int):=ZA
  refine' ZB3;exact ZB4
 refine' ZSJ;obtain⟨b0,TD⟩:∃b,d[0]=b:=⟨_,rfl⟩;rw[TD]at ah;by_cases bg:b0=48
 ·have HZ:Hid (Pu d=true):=by show _=_;rw[ah,bg];rfl
  have rM:((b0.toNat:Int)==48)=true:=by rw[bg];rfl
  have TC:(b0.toNat:Int)=48:=by rw[bg];rfl
  have HO:Hid (nOk d true=false):=by show _=_;unfold nOk;rw[HZ.out];simp
  refine' ZAM;clear ah bg;refine' ZB3;go_wp2_with fail
  all_goals go_ret2;exact⟨ZJN,rfl⟩
 have HZ:Hid (Pu d=false):=ZSL
 have rM:((b0.toNat:Int)==48)=false:=beq_eq_false_iff_ne.2 fun h=>bg (UInt8.toNat_inj.1 (by show b0.toNat=48;omega))
 have TC:¬(b0.toNat:Int)=48:=fun h=>bg (UInt8.toNat_inj.1 (by show b0.toNat=48;omega))
 have HT:Hid (nOk d true=Ea d.data.toList):=AfB ZA ZA (by rw[HZ.out];rfl);refine' ZSM
 ·obtain⟨k,hk,rfl,lg,rfl⟩:=hrel;by_cases ab:k<d.size
  ·refine' ZSN;by_cases bt:b.toNat<48
   ·have HO:Hid (nOk d true=false):=ZF5
    refine' ZAM;have mf:(b.toNat:Int)<48:=ZA
    exact ZB4
   by_cases dj:57<b.toNat
   ·have HO:Hid (nOk d true=false):=ZF5
    exact ZSO
   exact ZSP
  ·refine' ZSQ;have HO:Hid (nOk d true=true):=by show _=_;rw[HT.out];exact lg
   have HV:Hid (N5 d true= -(Fe d.data.toList:Int)):=by show _=_;unfold N5;rw[HO.out];rfl
   exact ZSR
theorem AaZ(t w)(h0:t.size=0):
 Calls aB 89 #[.string t] w fun e w'=>e=.returned (.tuple #[.int .i64 0,.bool false])∧w=w':=by refine' ZB3;refine' ZQ;exact ZV
theorem Tb(t w)(hz:t.size≤maxLen):
 Calls aB 89 #[.string t] w fun e w'=>e=.returned (.tuple #[.int .i64 (Hp t),.bool (Ic t)])∧w=w':=by
 unfold Hp Ic;by_cases h0:t.size=0
 ·have hn:=AtP h0
  have ho:nOk (Mj t) (Kn t)=false:=by rw[AmA hn];unfold nOk;simp[h0]
  rw[I7 ho,ho];exact AaZ t w h0
 ·cases hn:Kn t
  ·rw[AmA hn];exact AhS t w hz h0 hn
  ·rw[BaM hn];exact AfZ t w hz h0 hn
theorem Gh(t w)(hz:t.size≤maxLen):
 Calls aB 93 #[.string t] w fun e w'=>e=.returned (.int .i64 (Am t))∧w=w':=by
 have HN:=aA (fun W=>Tb t W hz);have HF:Hid (Am t=if Ic t then Hp t else -1):=rfl;generalize Am t=F at *;generalize Hp t=n at *;cases ho:Ic t
 exact ZSS;exact ZSS
theorem Fa(a w):
 Calls aB 43 #[.bool false,.string a] w fun e w'=>e=.returned (.string ⟨#[110,111,10]⟩)∧w=w':=by
 go_enter Tryz.func43,Tryz.ntmps43
 refine' ZI;exact ZV
theorem D4(a w)(hz:a.size≤4000000000):
 Calls aB 43 #[.bool true,.string a] w fun e w'=>e=.returned (.string (a++⟨#[10]⟩))∧w=w':=by
 have h1:¬9223372036854775807<a.size+1:=ZA
 go_enter Tryz.func43,Tryz.ntmps43
 refine' ZI;exact ZV
theorem Lt(o a w)(hz:a.size≤4000000000)(hp:o=true→1≤a.size):
 Calls aB 43 #[.bool o,.string a] w fun e w'=>e=.returned (.string (Em (if o then a else⟨#[]⟩)))∧w=w':=by
 cases o
 ·rw[aL ZE,Jw]
  exact Fa a w
 ·rw[aP rfl,Fh (hp rfl)]
  exact D4 a w hz
theorem Xl(ps)(h:∀p∈ps,1≤p.size):(if(Cg ps spT).size=0 then⟨#[45]⟩else Cg ps spT)=Cb ps:=by
 unfold Cb;by_cases h0:ps.length=0
 ·have:ps=[]:=List.length_eq_zero_iff.1 h0
  subst this;rw[Km];rfl
 ·have:=Uk (sep:=spT) h0 h
  rw[aL ZA,aL h0]
theorem Fn(v ps w)(hv:rd w w.heap.size v ps)(hp:∀p∈ps,1≤p.size∧p.size≤1000)(hl:ps.length≤1000000000):
 Calls aB 31 #[v] w fun e w'=>e=.returned (.string (Cb ps))∧w=w':=by
 refine' ZBy;have HP:=aA hp;have HJ:=aA (Xl ps fun p h=>(hp p h).1);have kT:Hid (∀k,(Cg (ps.take k) spT).size≤ps.length*1001):=fun k=>
  aG (Dw (ps.take k) spT 1000 fun p h=>(hp p (dY h)).2) (cC zF (aD _))
 clear hp;go_enter Tryz.func31,Tryz.ntmps31
 refine' ZC;go_loop[3,4] (fun t i=>∃k:Nat,k≤ps.length∧i=.int .i64 k∧t=.string (Cg (ps.take k) spT)) (fun _ i=>ps.length - (intOf i).toNat)
 case atStart=>exact⟨0,aM _,rfl,by rw[dD,Km]⟩
 case round=>
  refine' ZBp;by_cases ab:k<ps.length
  ·obtain⟨b,o,rfl,hb,oa,y1⟩:=rdA.strU HR.out k ab
   have y1:=y1 w (aF _ _);have oy:=(HP.out _ (aU ab)).2;have ct:=kT.out k;have lY:Hid (ps.take (k+1)=ps.take k++[ps[k]]):=aH ab;have rA:Hid (0<k→ps.take k≠[]):=fun h e=>ZIm
   have TE:Hid (0<k→Cg (ps.take (k+1)) spT=Cg (ps.take k) spT++spT++ps[k]):=fun h=>by rw[lY.out,G5 _ _ _ (rA.out h)]
   have HJ0:Hid (k=0→Cg (ps.take (k+1)) spT=ps[k]):=fun h=>by subst h;rw[lY.out,dD,bV,Kp]
   have jP:Hid (k=0→Cg (ps.take k) spT=⟨#[]⟩):=fun h=>by subst h;rw[dD,Km]
   obtain⟨P,hP⟩:∃P,Cg (ps.take k) spT=P:=⟨_,rfl⟩;obtain⟨N,hN⟩:∃P,Cg (ps.take (k+1)) spT=P:=⟨_,rfl⟩;rw[hP]at ct TE jP⊢;rw[hN]at TE HJ0;have HN:=aA hN;generalize ps[k]=x at *;clear hP hN;refine' ZAw;refine' zO;refine' ZST;have qD:¬9223372036854775807<P.size+x.size:=ZA
   by_cases gx:k=0
   ·subst gx
    simp only[fD,bW,dA,iL]at y1;have lv:Hid (P++x=N):=by show _=_;rw[jP.out rfl,HJ0.out rfl];apply Cv;simp
    clear bc ei;have bc:(0:Int)<(ps.length:Int):=ZA
    refine' ZC;go_round
    case rel=>exact⟨0+1,ZA,ZJ,ZF6⟩
    case measure=>exact ZK
   ·have kX:(0:Int)<(k:Int):=ZA
    have lv:Hid (P++⟨#[32]⟩++x=N):=(TE.out ZA).symm
    refine' ZC;go_round
    case rel=>exact⟨k+1,ZA,ZJ,ZF6⟩
    case measure=>exact ZK
  ·have HE:Hid (ps.take k=ps):=bA ZA
   rw[HE.out];generalize Cg ps spT=P at *;refine' ZBF;rw[HJ.out]at HD
   refine' ZC;refine(HD.out _).mono ?_;refine' ZP;refine' ZI;exact ZV
def Wv(cs:List ByteArray)(k:Nat):ByteArray:=if k=0 then⟨#[]⟩else spT++Cg (cs.take k) spT
theorem Av4(cs):Wv cs 0=⟨#[]⟩:=rfl
theorem Aw0{cs k}(hk:k<cs.length):Wv cs (k+1)=Wv cs k++spT++cs[k]:=by
 unfold Wv;rw[aL ZA,aH hk];by_cases h0:k=0
 ·subst h0
  rw[aP rfl,dD,bV,Kp];apply Cv;simp
 ·rw[aL h0,G5]
  ·apply Cv
   simp
  ·intro e
   exact ZIm
theorem AtU{p}(h:Bq p=true)(k):(Wv p.order k).size≤481:=by
 unfold Wv
 split
 ·exact ZZ
 ·have h1:=Dw (p.order.take k) spT 7 fun c hc=>eJ (Cp (Xx h c (dY hc))).1
  have h2:=(De.1 h).2.1.2;have h3:(p.order.take k).length*(7+spT.size)≤60*8:=cC zF (aD _);refine' ZAk;show 1+_≤_;omega
theorem Ax5{p}(h:Bq p=true):Cl p.bins.toNat++⟨#[32]⟩++Cl p.passes.toNat++Wv p.order p.order.length=E7 p:=by have h1:=(De.1 h).2.1.1;rw[Ov h];unfold Wv;rw[aL ZA,aY];apply Cv;simp only[B6,bY];rfl
theorem Lc(v p w)(hv:rdP w w.heap.size v p):
 Calls aB 26 #[v] w fun e w'=>e=.returned (.string (E7 p))∧Below w.heap.size w w':=by
 refine' ZOL;have lH:=aA (Fo _ p w0 (hv.on jS));refine' ZOM;refine' ZH2;clear jS bg hv;obtain⟨R,aj⟩:∃R,Hid (E7 p=R):=⟨_,rfl⟩;rw[aj.out];go_enter Tryz.func26,Tryz.ntmps26
 refine' ZDc;cases hp:Bq p
 ·refine' ZT;have HF:Hid (R=⟨#[]⟩):=by show _=_;rw[←aj.out,AhB hp]
  exact ZON
 ·refine' ZH3;have jp:=aA (AtU hp);have rK:=aA (Ax5 hp);have HF:Hid (Cl p.bins.toNat++⟨#[32]⟩++Cl p.passes.toNat++Wv p.order p.order.length=R):=by show _=_;rw[←aj.out];exact rK.out
  obtain⟨⟨x1,x2,x3,x4⟩,⟨x5,x6⟩,_⟩:=De.1 hp;obtain⟨bi,pa,od⟩:=p;simp only at x1 x2 x3 x4 x5 x6 q0 q1 q2 bt fi HF jp qU⊢;refine' ZOO;have AQ:Hid (∀W,Calls aB 28 #[.int .i64 (bi:Int)] W fun e w'=>e=.returned (.string (Cl bi))∧Below W.heap.size W w'):=fun W=>Hy bi W ZA
  have DD:Hid (∀W,Calls aB 28 #[.int .i64 (pa:Int)] W fun e w'=>e=.returned (.string (Cl pa))∧Below W.heap.size W w'):=fun W=>Hy pa W ZA
  have s1:=(C9 (n:=bi) ZA).1;have s2:=(C9 (n:=pa) ZA).1;have s8:Hid (Cl bi++⟨#[32]⟩++Cl pa++Wv od od.length=R):=HF.out;clear HF rK aj;generalize Cl bi=B1 at *;generalize Cl pa=B2 at *;refine' ZOP;refine' ZFM;clear hp b1 q0 q1 q2 x1 x2 x3 x4;refine' ZOQ;go_region_held3 (fun W=>Below w1.heap.size w1 W) (first|exact ld|exact k2|exact k1|fail) (first|(go_at_call 28;first|((with_reducible refine(AQ.out _).mono ?_);refine' YW;have k1:=Aa ld z1)|((with_reducible refine(DD.out _).mono ?_);refine' YX;have k2:=Aa k1 z2)|fail)|fail)
  all_goals
   have DS:=aA k2;have q3:=q2 _ DS.out;have K3:=aA (Aa cy.out DS.out);have hr:=qU.out _ K3.out;obtain⟨A',n',c',yW,jk,f8,xP,ce⟩:=hr;injection yW with e1 e2 e3;subst e1 e2 e3;have aj:=aA ce;clear jk f8 xP;clear k1 k2 z1 z2 ld q0 q1 q2 ce;have RA:(B1++(⟨#[32]⟩:ByteArray)++B2).size≤9:=ZBT
   refine' ZC;generalize B1++(⟨#[32]⟩:ByteArray)++B2=HD at *
   go_loop[3,4] (fun t i=>∃k:Nat,k≤od.length∧i=.int .i64 k∧t=.string (HD++Wv od k)) (fun _ i=>od.length - (intOf i).toNat)
   case atStart=>exact⟨0,aM _,rfl,by rw[Av4];congr 1;apply Cv;simp⟩
   case round=>
    refine' ZBp;by_cases ab:k<od.length
    ·obtain⟨b,o,rfl,hb,oa,y1⟩:=rdA.strU aj.out k ab
     have y1:=y1 _ (aF _ _);have AT:=aA (Aw0 ab);have oy:=jp.out k;have AU:=jp.out (k+1);rw[AT.out]at AU;have pu:(od[k]).size≤481:=by rw[bG]at AU;omega
     obtain⟨P,hP⟩:∃P,HD++Wv od k=P:=⟨_,rfl⟩;have lv:Hid (P++⟨#[32]⟩++od[k]=HD++Wv od (k+1)):=by show _=_;rw[AT.out,←hP];apply Cv;simp only[B6,bY];rfl
     have hPz:P.size≤490:=by rw[←hP,bG];omega
     rw[hP];obtain⟨X,hX⟩:∃X,HD++Wv od (k+1)=X:=⟨_,rfl⟩;rw[hX]at lv;have HX:=aA hX;generalize od[k]=x at *;clear hP hX oy AU AT;refine' ZST;have bc:(k:Int)<(od.length:Int):=ZA
     refine' zO;refine' ZC;go_round
     case rel=>exact⟨k+1,ZA,ZJ,by rw[HX.out];exact aT aK lv.out⟩
     case measure=>exact ZK
    ·have HE:Hid (k=od.length):=by show _=_;omega
     have lv:Hid (HD++Wv od k=R):=by show _=_;rw[HE.out];exact s8.out
     generalize HD++Wv od k=P at *
     refine' ZI;exact⟨B8 lv.out,K3.out⟩
theorem Ai7(v p c w)(hv:rdP w w.heap.size v p):
 Calls aB 103 #[v,.string c] w fun e w'=>e=.returned (.int .i64 (Hl p c))∧Below w.heap.size w w':=by
 obtain⟨A,cp,rfl⟩:=Gx hv;obtain⟨w0,ac⟩:∃u,u=w.alloc (aC #[.int .i64 p.bins,.int .i64 p.passes,.slice A p.order.length cp] 30):=⟨_,rfl⟩;have bg:w0.heap[w.heap.size]? =some (.cells #[.int .i64 p.bins,.int .i64 p.passes,.slice A p.order.length cp] 30 (0,0)):=ZJQ
 have jS:Below w.heap.size w w0:=ZSe
 have lH:=aA (Fo _ p w0 (hv.on jS));have qU:Hid (∀W,Below w.heap.size w W→rd W W.heap.size (.slice A p.order.length cp) p.order):=fun W hW=>ZSf
 have pE:Hid (Hl p c=if Bq p then rkI p.order c else -1):=rfl;refine' ZH2;clear jS bg hv;generalize Hl p c=R at *;go_enter Tryz.func103,Tryz.ntmps103
 refine' ZDc;cases hp:Bq p
 ·refine' ZT;have cy:=aA (Aa j6.out b1);rw[hp]at pE;clear hp b1
  refine' ZI;exact⟨Bo pE.out.symm,cy.out⟩
 ·refine' ZH3;rw[hp]at pE;have LQ:=aA (Lw _ p.order c w1 (qU.out w1 cy.out));clear hp b1 q0 q1 q2;obtain⟨c0,c1,c2,_,_,_⟩:=B7 bt;generalize rkI p.order c=n at *
  refine' ZC;refine LQ.out.mono ?_;refine' ZP;refine' ZI;exact⟨Bo pE.out.symm,cy.out⟩
def AlU(n:Nat)(v:Value):Prop:=v=.slice none 0 0∨∃g o m c,v=.slice (some ⟨g,o,none⟩) m c∧n≤g
theorem Uq(t w)(ht:t.size≤1000000):
 Calls aB 42 #[.string t] w fun e w'=>∃vo,e=.returned (.tuple #[.agg #[.int .i64 (Ey t).bins,.int .i64 (Ey t).passes,vo],.bool (Ge t)])∧rd w' w'.heap.size vo (Ey t).order∧Below w.heap.size w w'∧AlU w.heap.size vo:=by
 have RC:Hid (3≤(Aj 32 t).length→sEq (E7 (I8 t)) t=Ge t):=BaQ;have bw:Hid (¬3≤(Aj 32 t).length→Ge t=false):=fun h=>by unfold Ge;rw[aO h];simp
 refine' ZOR;have RD:Hid (∀W:World,Calls aB 9 #[.string t,.int .u8 32] W fun e w'=>∃v,e=.returned v∧own (α:=ByteArray) 9 W.heap.size w' v (Aj 32 t)∧Below W.heap.size W w'):=fun W=>I9 t 32 W ZA
 refine' ZOS;have pN:=aA (Pj t);refine' ZOT;go_enter Tryz.func42,Tryz.ntmps42
 refine' ZBL;refine(RD.out wA).mono ?_;rintro e w1 ⟨v,rfl,o1,b1⟩;refine' ZOU;rcases o1.form with⟨_,tX⟩|⟨g,cc,rfl,hgB,bv,wN,bd⟩
 ·exact absurd tX pN.out
 by_cases h3:3≤ps.length
 case neg=>
  have GE:(ps.length:Int)<3:=ZA
  have HQ:Hid (Ge t=false):=bw.out h3;refine' ZDm;clear o1
  exact ZSg
 have HGF:Hid (w.heap.size≤g):=ZA8
 have GE:¬(ps.length:Int)<3:=ZA
 have IL:=aA (RC.out h3);refine' ZOV;rw[g0,g1]at pd;refine' ZOW;have kC:¬cc=2:=ZA
 have qU:Hid (∀W,own 9 wA.heap.size W (.slice (some ⟨g,0,none⟩) ps.length cc) ps→rd W W.heap.size (.slice (some ⟨g,2,none⟩) (ps.length - 2) (cc - 2)) (ps.drop 2)):=fun W h=>by have:=h.rd.drop (k:=2) ZA;rw[aL kC]at this;exact this
 have lu:=aA o1;generalize ps[0]=p0 at *;generalize ps[1]=p1 at *;have rA:=aA (fun W=>Tb p0 W z0);have pL:=aA (fun W=>Tb p1 W z1);refine' ZOX;have h2i:(2:Int)≤(ps.length:Int):=ZA
 refine' ZFN;have GG:=bt;obtain⟨u2,qd⟩:∃u,u=w1.alloc (aC #[.int .i64 v0,.int .i64 v1,.slice (some ⟨g,2,none⟩) (ps.length - 2) (cc - 2)] 30):=⟨_,rfl⟩;have sf:u2.heap[w1.heap.size]? =some (.cells #[.int .i64 v0,.int .i64 v1,.slice (some ⟨g,2,none⟩) (ps.length - 2) (cc - 2)] 30 (0,0)):=by rw[qd];exact bD w1 _
 refine' ZOY;have uT:Below w.heap.size w u2:=by rw[qd];exact lJ.alloc lJ.size _
 have aq:u2.heap.size=w1.heap.size+1:=by rw[qd];simp
 have kG:own 9 wA.heap.size u2 (.slice (some ⟨g,0,none⟩) ps.length cc) ps:=by rw[qd];exact lu.out.alloc _
 have HP:Hid (rdP u2 u2.heap.size (.agg #[.int .i64 v0,.int .i64 v1,.slice (some ⟨g,2,none⟩) (ps.length - 2) (cc - 2)]) (I8 t)):=by show rdP _ _ _ _;rw[pd.out];exact⟨_,rfl,(show Bj v0 by exact zL),(show Bj v1 by exact zL),qU.out _ kG⟩
 have ww:=aA qd;clear qd;have s7:=aA (Lc _ _ u2 HP.out);have ja:=aA kG;clear kG GG bt lJ;obtain⟨c0,c1,nU,f0,f1,f2⟩:=B7 sf;obtain⟨F,hF⟩:∃F,E7 (I8 t)=F:=⟨_,rfl⟩;rw[hF]at s7 IL;clear hF
 refine' ZC;rw[←ww.out];refine s7.out.mono ?_;cases jl:sEq F t
 ·refine' zH;rw[jl]at IL;have qL:(F.toList==t.toList)=false:=jl;refine' ZFO;refine' ZFP;clear c0 c1 nU f0 f1 f2 jl;have HQ:Hid (Ge t=false):=IL.out.symm;have HR:Hid (Ey t=⟨0,0,[]⟩):=Sm HQ.out;refine' ZH5;exact ZSg
 ·refine' zH;rw[jl]at IL;have qL:(F.toList==t.toList)=true:=jl;refine' ZFO;have DJ:=(b3.block w1.heap.size ZA).trans sf;refine' ZFP;have HQ:Hid (Ge t=true):=IL.out.symm;refine' ZOZ;refine⟨.slice (some ⟨g,2,none⟩) (ps.length - 2) (cc - 2),by rw[HR.out,HQ.out,pd.out];rfl,?_,Ai (Ai (Ai lK.out (aD _) _) (aD _) _) (aD _) _,.inr ⟨g,2,_,_,rfl,HGF.out⟩⟩;rw[HR.out,pd.out];exact qU.out _ (Bd (Bd (Bd fg.out ⟨w.heap.size,0,none⟩ _ ZJR) ⟨w.heap.size,1,none⟩ _ ZJR) ⟨w.heap.size,2,none⟩ _ ZJR)
def Ct(R:Nat→Prop)(w W:World):Prop:=w.heap.size≤W.heap.size∧∀k,R k→k<w.heap.size→W.heap[k]? =w.heap[k]?
theorem Ct.refl(R:Nat→Prop)(w):Ct R w w:=⟨aD _,fun _ _ _=>rfl⟩
theorem Ct.below(R:Nat→Prop){w W}(h:Below w.heap.size w W):Ct R w W:=⟨h.size,fun k _ hk=>h.block k hk⟩
theorem Ct.trans{R:Nat→Prop}{w W U}(h:Ct R w W)(h2:Ct R W U):Ct R w U:=⟨aG h.1 h2.1,fun k hr hk=>(h2.2 k hr (bU hk h.1)).trans (h.2 k hr hk)⟩
theorem Ct.mono{R R':Nat→Prop}{w W}(h:Ct R w W)(hr:∀k,k<w.heap.size→R' k→R k):Ct R' w W:=⟨h.1,fun k hk hl=>h.2 k (hr k hl hk) hl⟩
theorem Ct.set(R:Nat→Prop)(w b i u)(hb:¬R b):Ct R w (w.setCell ⟨b,i,none⟩ u):=
 ⟨ZE,fun k hr _=>bP _ _ _ _ (fun e=>hb (by have e:k=b:=e;rw[←e];exact hr))⟩
theorem Ct.cell{R:Nat→Prop}{w W}(h:Ct R w W){p}(hr:R p.block)(hl:p.block<w.heap.size):W.cell? p=w.cell? p:=by have:=h.2 _ hr hl;unfold World.cell?;rw[this]
def rdN{α:Type}[El α](R:Nat→Prop)(w:World)(v:Value)(xs:List α):Prop:=∀W,Ct R w W→rd W W.heap.size v xs
section
variable{α:Type}[El α]{R R':Nat→Prop}{w W:World}{v:Value}{xs:List α}
theorem rdN.rd(h:rdN R w v xs):rd w w.heap.size v xs:=h w (Ct.refl _ _)
theorem rdN.on(h:rdN R w v xs)(hk:Ct R w W):rdN R W v xs:=fun U hU=>h U (hk.trans hU)
theorem rdN.mono(h:rdN R w v xs)(hr:∀k,k<w.heap.size→R k→R' k):rdN R' w v xs:=fun U hU=>h U (hU.mono hr)
theorem rdN.of_rd(h:Go.Proofs.YtfadhdacjpmmeaaGreatDoor.rd w w.heap.size v xs)(hr:∀k,k<w.heap.size→R k):rdN R w v xs:=fun U hU=>
 (h.keep fun _ hp=>hU.cell (hr _ hp) hp).more hU.1
theorem rdN.of_block{α:Type}[Flat α]{xs:List α}{g o n c}(h:Go.Proofs.YtfadhdacjpmmeaaGreatDoor.rd w w.heap.size (.slice (some ⟨g,o,none⟩) n c) xs)(hr:R g):rdN R w (.slice (some ⟨g,o,none⟩) n c) xs:=fun U hU=>by obtain⟨A,n',c',e,h2,h3,h4,h5⟩:=h;cases e;refine⟨_,_,_,rfl,h2,h3,h4,fun k hk=>?_⟩;obtain⟨b,o',cs,hA,hb,he,hc⟩:=h5 k hk;cases hA;exact⟨_,_,cs,rfl,bU hb hU.1,Flat.free he,fun j u hu=>(hU.cell (p:=⟨g,_,none⟩) hr hb).trans (hc j u hu)⟩
theorem rdN.of_own{α:Type}[Flat α]{T:TypeId}{base}{xs:List α}(h:own T base w v xs)(hr:∀k,base≤k→R k):rdN R w v xs:=by
 rcases h.form with⟨rfl,rfl⟩|⟨g,c,rfl,hg,bv,hc,hm⟩
 ·exact fun U hU=>Go.Proofs.YtfadhdacjpmmeaaGreatDoor.rd.nil_
 ·exact rdN.of_block h.rd (hr g hg)
end
theorem rdN.of_fresh{α:Type}[Flat α]{R:Nat→Prop}{w v}{xs:List α}{n}(h:Go.Proofs.YtfadhdacjpmmeaaGreatDoor.rd w w.heap.size v xs)(hf:AlU n v)(hr:∀k,n≤k→R k):rdN R w v xs:=by
 rcases hf with rfl|⟨g,o,m,c,rfl,hg⟩
 ·intro U _
  obtain⟨A,n',c',e,h2,h3,h4,h5⟩:=h;cases e;have:xs=[]:=List.length_eq_zero_iff.1 h2.symm;subst this;exact Go.Proofs.YtfadhdacjpmmeaaGreatDoor.rd.nil_
 ·exact rdN.of_block h (hr g hg)
theorem rdN.of_ownN{R:Nat→Prop}{T1 T2 base:Nat}{w v net}(h:AoW T1 T2 base w v net)(hr:∀k,base≤k→R k):rdN R w v net:=fun U hU=>by obtain⟨os,h⟩:=h;exact(h.keepBlk fun k hb hk=>hU.2 k (hr k hb) hk).rd
structure stN (R:Nat→Prop) (w:World) (vL vO vF vH vN:Value) (s:Dsk):Prop where
 l:rdN R w vL s.letters
 o:rdN R w vO s.day.plan.order
 f:rdN R w vF s.day.fwds
 h:rdN R w vH s.day.held
 n:rdN R w vN s.net
def stV(vL vO vF vH vN:Value)(s:Dsk):Value:=.agg #[vL,.int .i64 s.day.plan.bins,.int .i64 s.day.plan.passes,vO,vF,vH,.int .i64 s.day.size,vN]
theorem stN.on{R:Nat→Prop}{w W vL vO vF vH vN s}(h:stN R w vL vO vF vH vN s)(hk:Ct R w W):stN R W vL vO vF vH vN s:=⟨h.l.on hk,h.o.on hk,h.f.on hk,h.h.on hk,h.n.on hk⟩
theorem stN.mono{R R':Nat→Prop}{w vL vO vF vH vN s}(h:stN R w vL vO vF vH vN s)(hr:∀k,k<w.heap.size→R k→R' k):stN R' w vL vO vF vH vN s:=⟨h.l.mono hr,h.o.mono hr,h.f.mono hr,h.h.mono hr,h.n.mono hr⟩
theorem stN.opened{R:Nat→Prop}{w vL vO vF vH vN s}(h:stN R w vL vO vF vH vN s):∃AL cL AO cO AF cF AH cH AN cN,vL=.slice AL s.letters.length cL∧vO=.slice AO s.day.plan.order.length cO∧vF=.slice AF s.day.fwds.length cF∧vH=.slice AH s.day.held.length cH∧vN=.slice AN s.net.length cN:=by obtain⟨A0,n0,c0,rfl,rfl,_⟩:=h.l.rd;obtain⟨A1,n1,c1,rfl,rfl,_⟩:=h.o.rd;obtain⟨A2,n2,c2,rfl,rfl,_⟩:=h.f.rd;obtain⟨A3,n3,c3,rfl,rfl,_⟩:=h.h.rd;obtain⟨A4,n4,c4,rfl,rfl,_⟩:=h.n.rd;exact⟨A0,c0,A1,c1,A2,c2,A3,c3,A4,c4,rfl,rfl,rfl,rfl,rfl⟩
def plus(R:Nat→Prop)(n:Nat)(k:Nat):Prop:=R k∨n≤k
theorem stN.plus{R:Nat→Prop}{w W vL vO vF vH vN s}(h:stN R w vL vO vF vH vN s)(hb:Below w.heap.size w W):stN (plus R w.heap.size) W vL vO vF vH vN s:=
 (h.on (Ct.below R hb)).mono fun _ _=>.inl
def Bs(R:Nat→Prop)(s':Dsk)(a:ByteArray)(w:World)(e:Ending)(w':World):Prop:=
 ∃vL vO vF vH vN,e=.returned (.tuple #[stV vL vO vF vH vN s',.string (Em a)])∧stN (plus R w.heap.size) w' vL vO vF vH vN s'∧Below w.heap.size w w'
theorem stN.setL{R:Nat→Prop}{w vL vO vF vH vN v s xs}(h:stN R w vL vO vF vH vN s)(hx:rdN R w v xs):stN R w v vO vF vH vN {s with letters:=xs}:=⟨hx,h.o,h.f,h.h,h.n⟩
theorem stN.setF{R:Nat→Prop}{w vL vO vF vH vN v s xs}(h:stN R w vL vO vF vH vN s)(hx:rdN R w v xs):stN R w vL vO v vH vN {s with day:={s.day with fwds:=xs}}:=⟨h.l,h.o,hx,h.h,h.n⟩
theorem stN.setH{R:Nat→Prop}{w vL vO vF vH vN v s xs}(h:stN R w vL vO vF vH vN s)(hx:rdN R w v xs):stN R w vL vO vF v vN {s with day:={s.day with held:=xs}}:=⟨h.l,h.o,h.f,hx,h.n⟩
theorem stN.setN{R:Nat→Prop}{w vL vO vF vH vN v s xs}(h:stN R w vL vO vF vH vN s)(hx:rdN R w v xs):stN R w vL vO vF vH v {s with net:=xs}:=⟨h.l,h.o,h.f,h.h,hx⟩
def cut(R:Nat→Prop)(n m:Nat)(k:Nat):Prop:=(R k∧k<n)∨m≤k
theorem Ct.cut{R:Nat→Prop}{w W0 W m}(hb:Below w.heap.size w W0)(h:Ct (cut R w.heap.size m) W0 W):Ct R w W:=
 ⟨aG hb.size h.1,fun k hr hk=>(h.2 k (.inl ⟨hr,hk⟩) (bU hk hb.size)).trans (hb.block k hk)⟩
theorem rdN.cut{α:Type}[El α]{R:Nat→Prop}{w W0 v}{xs:List α}{m}(h:rdN R w v xs)(hb:Below w.heap.size w W0):rdN (cut R w.heap.size m) W0 v xs:=fun W hW=>h W (hW.cut hb)
theorem stN.cut{R:Nat→Prop}{w W0 vL vO vF vH vN s m}(h:stN R w vL vO vF vH vN s)(hb:Below w.heap.size w W0):stN (cut R w.heap.size m) W0 vL vO vF vH vN s:=
 ⟨h.l.cut hb,h.o.cut hb,h.f.cut hb,h.h.cut hb,h.n.cut hb⟩
theorem Ct.set_cut(R:Nat→Prop)(w n m b i u)(h1:n≤b)(h2:b<m):Ct (Go.Proofs.YtfadhdacjpmmeaaGreatDoor.cut R n m) w (w.setCell ⟨b,i,none⟩ u):=
 Ct.set _ w b i u fun h=>by
  rcases h with⟨_,h⟩|h
  ·exact absurd h (Nat.not_lt.2 h1)
  ·exact absurd h2 (Nat.not_lt.2 h)
theorem Ct.set8(R:Nat→Prop)(w n m b x0 x1 x2 x3 x4 x5 x6 x7)(h1:n≤b)(h2:b<m):Ct (Go.Proofs.YtfadhdacjpmmeaaGreatDoor.cut R n m) w ((((((((w.setCell ⟨b,0,none⟩ x0).setCell ⟨b,1,none⟩ x1).setCell ⟨b,2,none⟩ x2).setCell ⟨b,3,none⟩ x3).setCell ⟨b,4,none⟩ x4).setCell ⟨b,5,none⟩ x5).setCell ⟨b,6,none⟩ x6).setCell ⟨b,7,none⟩ x7):=
 ((((((((Ct.set_cut R _ n m b 0 x0 h1 h2).trans (Ct.set_cut R _ n m b 1 x1 h1 h2)).trans (Ct.set_cut R _ n m b 2 x2 h1 h2)).trans (Ct.set_cut R _ n m b 3 x3 h1 h2)).trans (Ct.set_cut R _ n m b 4 x4 h1 h2)).trans (Ct.set_cut R _ n m b 5 x5 h1 h2)).trans (Ct.set_cut R _ n m b 6 x6 h1 h2)).trans (Ct.set_cut R _ n m b 7 x7 h1 h2))
theorem AwU{R:Nat→Prop}{n m k}(h:n≤m)(hk:cut R n m k):plus R n k:=hk.elim (fun h=>.inl h.1) fun h2=>.inr (aG h h2)
theorem Bs.of{R:Nat→Prop}{m vL vO vF vH vN s' a w W W'}(hS:stN (cut R w.heap.size m) W vL vO vF vH vN s')(hm:w.heap.size≤m)(hk:Ct (cut R w.heap.size m) W W')(hb:Below w.heap.size w W'):
 Bs R s' a w (.returned (.tuple #[stV vL vO vF vH vN s',.string (Em a)])) W':=⟨_,_,_,_,_,rfl,(hS.on hk).mono fun _ _ h=>AwU hm h,hb⟩
structure duo (w:World) (T:TypeId) (cs:Array Value) (b:Bool) (W:World):Prop where
 lay:Below w.heap.size w W
 box:W.heap[w.heap.size]? =some (.cells cs T (0,0))
 res:∃u0 u1 u2 u3 u4 u5 u6 u7,W.heap[w.heap.size+1]? =some (.cells #[u0,u1,u2,u3,u4,u5,u6,u7] T (0,0))
 fin:b=true→W.heap[w.heap.size+1]? =some (.cells cs T (0,0))
theorem duo.made{w wA wB}{T:TypeId}{cs u0 u1 u2 u3 u4 u5 u6 u7}(hA:wA=w.alloc (.cells cs T))(hB:wB=wA.alloc (.cells #[u0,u1,u2,u3,u4,u5,u6,u7] T)):duo w T cs false wB:=by
 refine' ZS9;refine⟨((aF _ _).alloc (aD _) _).alloc (by rw[hz];exact fG _) _,?_,⟨u0,u1,u2,u3,u4,u5,u6,u7,?_⟩,nofun⟩
 ·exact(dH _ _ _ (by rw[hz];exact fS _)).trans (bD w _)
 ·have:=bD (w.alloc (.cells cs T)) (.cells #[u0,u1,u2,u3,u4,u5,u6,u7] T)
  rwa [hz]at this
section
variable{w W W':World}{T:TypeId}{cs:Array Value}{b:Bool}
theorem duo.lt(h:duo w T cs b W):w.heap.size+1<W.heap.size:=by obtain⟨_,_,_,_,_,_,_,_,h⟩:=h.res;exact(Array.getElem?_eq_some_iff.1 h).1
theorem duo.drew(h:duo w T cs b W):duo w T cs b W.drew:=⟨h.lay.drew,h.box,h.res,h.fin⟩
theorem duo.below(h:duo w T cs b W)(hb:Below W.heap.size W W'):duo w T cs b W':=by have hl:=h.lt;have e:=hb.block (w.heap.size+1) hl;exact⟨h.lay.trans (hb.mono h.lay.size),(hb.block w.heap.size (Nat.lt_of_succ_lt hl)).trans h.box,by rw[e];exact h.res,fun hb=>by rw[e];exact h.fin hb⟩
theorem duo.frozenS(h:duo w T cs b W)(k):W.frozen? ⟨w.heap.size,k,none⟩=false:=by simp[World.frozen?,h.box]
theorem duo.put(h:duo w T cs b W)(i u):duo w T (cs.setIfInBounds i u) false (W.setCell ⟨w.heap.size,i,none⟩ u):=
 ⟨h.lay.setCell (aD _) u,Mu h.box i u,by rw[bP _ _ _ _ (Nat.succ_ne_self _)];exact h.res,nofun⟩
end
theorem AcR{w W}{T:TypeId}{b cs ds}(h:cs=ds)(k:duo w T cs b W):duo w T ds b W:=h▸k
theorem duo.set8{w W}{T:TypeId}{b x0 x1 x2 x3 x4 x5 x6 x7}(h:duo w T #[x0,x1,x2,x3,x4,x5,x6,x7] b W):
 duo w T #[x0,x1,x2,x3,x4,x5,x6,x7] true ((((((((W.setCell ⟨w.heap.size+1,0,none⟩ x0).setCell ⟨w.heap.size+1,1,none⟩ x1).setCell ⟨w.heap.size+1,2,none⟩ x2).setCell ⟨w.heap.size+1,3,none⟩ x3).setCell ⟨w.heap.size+1,4,none⟩ x4).setCell ⟨w.heap.size+1,5,none⟩ x5).setCell ⟨w.heap.size+1,6,none⟩ x6).setCell ⟨w.heap.size+1,7,none⟩ x7):=by refine' ZTA;refine⟨(((((((h.lay.setCell hl x0).setCell hl x1).setCell hl x2).setCell hl x3).setCell hl x4).setCell hl x5).setCell hl x6).setCell hl x7,?_,⟨_,_,_,_,_,_,_,_,h8⟩,fun _=>h8⟩;exact ZTB
theorem duo.set8f{w W}{T:TypeId}{cs b x0 x1 x2 x3 x4 x5 x6 x7}(h:duo w T cs b W):
 duo w T cs false ((((((((W.setCell ⟨w.heap.size+1,0,none⟩ x0).setCell ⟨w.heap.size+1,1,none⟩ x1).setCell ⟨w.heap.size+1,2,none⟩ x2).setCell ⟨w.heap.size+1,3,none⟩ x3).setCell ⟨w.heap.size+1,4,none⟩ x4).setCell ⟨w.heap.size+1,5,none⟩ x5).setCell ⟨w.heap.size+1,6,none⟩ x6).setCell ⟨w.heap.size+1,7,none⟩ x7):=by refine' ZTA;refine⟨(((((((h.lay.setCell hl x0).setCell hl x1).setCell hl x2).setCell hl x3).setCell hl x4).setCell hl x5).setCell hl x6).setCell hl x7,?_,⟨_,_,_,_,_,_,_,_,h8⟩,nofun⟩;exact ZTB
theorem Bs.read{R:Nat→Prop}{vL vO vF vH vN s a w W}(hS:stN R w vL vO vF vH vN s)(hb:Below w.heap.size w W)(hp:1≤a.size):
 Bs R s a w (.returned (.tuple #[stV vL vO vF vH vN s,.string (a++⟨#[10]⟩)])) W:=⟨_,_,_,_,_,by rw[Fh hp],hS.plus hb,hb⟩
theorem AsA(R:Nat→Prop)(vL vO vF vH vN s w)(hS:stN R w vL vO vF vH vN s)(hp:1≤(Co s.letters).size)(hz:(Co s.letters).size≤4000000000):
 Calls aB 11 #[stV vL vO vF vH vN s,.string Cf] w (Bs R s (Co s.letters) w):=by
 refine' zJ;show Calls aB _ #[.agg #[.slice AL s.letters.length cL,.int .i64 s.day.plan.bins,.int .i64 s.day.plan.passes,.slice AO s.day.plan.order.length cO,.slice AF s.day.fwds.length cF,.slice AH s.day.held.length cH,.int .i64 s.day.size,.slice AN s.net.length cN],.string Cf] w _;refine' ZBV;have HC:Hid (∀W,Below w.heap.size w W→Calls aB 23 #[.slice AL s.letters.length cL] W fun e w'=>e=.returned (.string (Co s.letters))∧Below W.heap.size W w'):=fun W hW=>D6 _ s.letters W (hS.l.rd.on hW)
 refine' ZBW;clear hS;generalize Co s.letters=F at *;refine' YA;refine' ZFw;refine' YB;go_region_law (first|(go_simp;go_at_call 23;refine' ZCr)|fail)
 all_goals exact ZD7
theorem AzI(R:Nat→Prop)(vL vO vF vH vN s w)(hS:stN R w vL vO vF vH vN s)(hp:1≤(E7 s.day.plan).size)(hz:(E7 s.day.plan).size≤4000000000)(hi:Bj s.day.plan.bins∧Bj s.day.plan.passes):
 Calls aB 11 #[stV vL vO vF vH vN s,.string Df] w (Bs R s (E7 s.day.plan) w):=by
 refine' zJ;show Calls aB _ #[.agg #[.slice AL s.letters.length cL,.int .i64 s.day.plan.bins,.int .i64 s.day.plan.passes,.slice AO s.day.plan.order.length cO,.slice AF s.day.fwds.length cF,.slice AH s.day.held.length cH,.int .i64 s.day.size,.slice AN s.net.length cN],.string Df] w _;refine' ZBV;refine' ZCs;have HC:Hid (∀W,Below w.heap.size w W→Calls aB 26 #[.agg #[.int .i64 s.day.plan.bins,.int .i64 s.day.plan.passes,.slice AO s.day.plan.order.length cO]] W fun e w'=>e=.returned (.string (E7 s.day.plan))∧Below W.heap.size W w'):=fun W hW=>Lc _ s.day.plan W (om.on hW)
 refine' ZBW;clear hS hi om;generalize E7 s.day.plan=F at *;refine' YA;refine' ZFt;have db:(Df.toList==[115,111,114,116])=false:=ZD
 refine' ZFu;refine' YB;go_region_law (first|(go_simp;go_at_call 26;refine' ZCr)|fail)
 all_goals exact ZD7
theorem ApX(R:Nat→Prop)(vL vO vF vH vN s w)(hS:stN R w vL vO vF vH vN s)(hp:1≤(C5 s.day.fwds).size)(hz:(C5 s.day.fwds).size≤4000000000):
 Calls aB 11 #[stV vL vO vF vH vN s,.string Bg] w (Bs R s (C5 s.day.fwds) w):=by
 refine' zJ;show Calls aB _ #[.agg #[.slice AL s.letters.length cL,.int .i64 s.day.plan.bins,.int .i64 s.day.plan.passes,.slice AO s.day.plan.order.length cO,.slice AF s.day.fwds.length cF,.slice AH s.day.held.length cH,.int .i64 s.day.size,.slice AN s.net.length cN],.string Bg] w _;refine' ZBV;have HC:Hid (∀W,Below w.heap.size w W→Calls aB 30 #[.slice AF s.day.fwds.length cF] W fun e w'=>e=.returned (.string (C5 s.day.fwds))∧Below W.heap.size W w'):=fun W hW=>Et _ s.day.fwds W (hS.f.rd.on hW)
 refine' ZBW;clear hS;generalize C5 s.day.fwds=F at *;refine' YA;refine' ZJH;have db:(Bg.toList==[115,111,114,116])=false:=ZD
 have d8:(Bg.toList==[112,108,97,110])=false:=ZD
 have fd:(Bg.toList==[115,101,113,117,101,110,99,101])=false:=ZD
 have gq:(Bg.toList==[109,111,118,101,100])=false:=ZD
 refine' ZJI;refine' YB;go_region_law (first|(go_simp;go_at_call 30;refine' ZCr)|fail)
 all_goals exact ZD7
theorem Bc2(R:Nat→Prop)(vL vO vF vH vN s w)(hS:stN R w vL vO vF vH vN s)(hp:1≤(Mx s.net).size)(hz:(Mx s.net).size≤4000000000):
 Calls aB 11 #[stV vL vO vF vH vN s,.string Es] w (Bs R s (Mx s.net) w):=by
 refine' zJ;show Calls aB _ #[.agg #[.slice AL s.letters.length cL,.int .i64 s.day.plan.bins,.int .i64 s.day.plan.passes,.slice AO s.day.plan.order.length cO,.slice AF s.day.fwds.length cF,.slice AH s.day.held.length cH,.int .i64 s.day.size,.slice AN s.net.length cN],.string Es] w _;refine' ZBV;have HC:Hid (∀W,Below w.heap.size w W→Calls aB 38 #[.slice AN s.net.length cN] W fun e w'=>e=.returned (.string (Mx s.net))∧Below W.heap.size W w'):=fun W hW=>Ph _ s.net W (hS.n.rd.on hW)
 refine' ZBW;clear hS;generalize Mx s.net=F at *;refine' YA;refine' ZJg;have db:(Es.toList==[115,111,114,116])=false:=ZD
 have d8:(Es.toList==[112,108,97,110])=false:=ZD
 have fd:(Es.toList==[115,101,113,117,101,110,99,101])=false:=ZD
 have gq:(Es.toList==[109,111,118,101,100])=false:=ZD
 have i8:(Es.toList==[102,111,114,119,97,114,100,115])=false:=ZD
 have jQ:(Es.toList==[101,110,100,108,101,115,115])=false:=ZD
 have kJ:(Es.toList==[100,105,114,101,99,116])=false:=ZD
 have lP:(Es.toList==[104,101,108,100])=false:=ZD
 have nK:(Es.toList==[100,97,121])=false:=ZD
 have kK:(Es.toList==[116,114,97,121,115])=false:=ZD
 refine' ZJh;refine' YB;go_region_law (first|(go_simp;go_at_call 38;refine' ZCr)|fail)
 all_goals exact ZD7
theorem BaK(R:Nat→Prop)(vL vO vF vH vN s w)(hS:stN R w vL vO vF vH vN s)(hp:1≤(Cb s.day.held).size)(hz:(Cb s.day.held).size≤4000000000)(hq:∀p∈s.day.held,1≤p.size∧p.size≤1000)(hl:s.day.held.length≤1000):
 Calls aB 11 #[stV vL vO vF vH vN s,.string Fm] w (Bs R s (Cb s.day.held) w):=by
 refine' zJ;show Calls aB _ #[.agg #[.slice AL s.letters.length cL,.int .i64 s.day.plan.bins,.int .i64 s.day.plan.passes,.slice AO s.day.plan.order.length cO,.slice AF s.day.fwds.length cF,.slice AH s.day.held.length cH,.int .i64 s.day.size,.slice AN s.net.length cN],.string Fm] w _;refine' ZBV;have HC:Hid (∀W,Below w.heap.size w W→Calls aB 31 #[.slice AH s.day.held.length cH] W fun e w'=>e=.returned (.string (Cb s.day.held))∧Below W.heap.size W w'):=fun W hW=>by refine(Fn _ s.day.held W (hS.h.rd.on hW) hq ZA).mono ?_;refine' ZP;exact z6
 refine' ZBW;clear hS hq hl;generalize Cb s.day.held=F at *;refine' YA;refine' ZR9;have d8:(Fm.toList==[112,108,97,110])=false:=ZD
 have fd:(Fm.toList==[115,101,113,117,101,110,99,101])=false:=ZD
 have gq:(Fm.toList==[109,111,118,101,100])=false:=ZD
 have i8:(Fm.toList==[102,111,114,119,97,114,100,115])=false:=ZD
 have jQ:(Fm.toList==[101,110,100,108,101,115,115])=false:=ZD
 have kJ:(Fm.toList==[100,105,114,101,99,116])=false:=ZD
 have cm:(Fm.toList==[104,101,108,100])=true:=ZD
 generalize Fm=wd at *;refine' YB;go_region_law (first|(go_simp;go_at_call 31;refine' ZCr)|fail)
 all_goals exact ZD7
theorem duo.madeR{w wA wB:World}{T:TypeId}{cs us}(hA:wA=w.alloc (.cells cs T))(hB:wB=wA.alloc (.cells us T)):wB.heap[w.heap.size+1]? =some (.cells us T (0,0)):=by
 refine' ZS9;have:=bD (w.alloc (.cells cs T)) (.cells us T)
 rwa [hz]at this
theorem Uh(R:Nat→Prop)(vL vO vF vH vN vb s w)(hS:stN R w vL vO vF vH vN s):
 Calls aB 25 #[stV vL vO vF vH vN s,vb,.bool false] w (Bs R s ⟨#[]⟩ w):=by
 refine' zJ;show Calls aB _ #[.agg #[.slice AL s.letters.length cL,.int .i64 s.day.plan.bins,.int .i64 s.day.plan.passes,.slice AO s.day.plan.order.length cO,.slice AF s.day.fwds.length cF,.slice AH s.day.held.length cH,.int .i64 s.day.size,.slice AN s.net.length cN],vb,.bool false] w _;refine' ZTE;clear k0 m0 hS;go_enter Tryz.func25,Tryz.ntmps25
 refine' ZBU;refine Ax rfl rfl M0.out gI rfl Tryz.sizeSt rfl ?_;have h:=Bs.of (m:=w.heap.size+2) (a:=⟨#[]⟩) (HS.out.cut K0.out.lay) ZA (Ct.refl _ _) K0.out.lay;rw[Jw]at h;exact h
theorem N3(R:Nat→Prop)(vL vO vF vH vN vb s xs w)(hS:stN R w vL vO vF vH vN s)(hb:rdN R w vb xs)(hp:1≤(Co xs).size):
 Calls aB 25 #[stV vL vO vF vH vN s,vb,.bool true] w (Bs R {s with letters:=xs} (Co xs) w):=by
 refine' ZAa;obtain⟨Ab,nb,cb,rfl, -, -, -, -⟩:=hb.rd;refine' zJ;show Calls aB _ #[.agg #[.slice AL s.letters.length cL,.int .i64 s.day.plan.bins,.int .i64 s.day.plan.passes,.slice AO s.day.plan.order.length cO,.slice AF s.day.fwds.length cF,.slice AH s.day.held.length cH,.int .i64 s.day.size,.slice AN s.net.length cN],.slice Ab nb cb,.bool true] w _;obtain⟨wA,ae⟩:∃u,u=w.alloc (aC #[.slice Ab nb cb,.int .i64 s.day.plan.bins,.int .i64 s.day.plan.passes,.slice AO s.day.plan.order.length cO,.slice AF s.day.fwds.length cF,.slice AH s.day.held.length cH,.int .i64 s.day.size,.slice AN s.net.length cN] 36):=⟨_,rfl⟩;refine' ZJj;refine' ZD8;have ao:=k0.drew;have HC:Hid (∀W,Below w.heap.size w W→Calls aB 23 #[.slice Ab nb cb] W fun e w'=>e=.returned (.string (Co xs))∧Below W.heap.size W w'):=fun W hW=>D6 _ xs W (hb.rd.on hW)
 have hz:=Du xs;have HP:=aA hp;have de:Hid (Em (Co xs)=Co xs++⟨#[10]⟩):=Fh hp;clear m0 hS hb hp;have p0:∀W,duo w 36 #[.slice Ab nb cb,.int .i64 s.day.plan.bins,.int .i64 s.day.plan.passes,.slice AO s.day.plan.order.length cO,.slice AF s.day.fwds.length cF,.slice AH s.day.held.length cH,.int .i64 s.day.size,.slice AN s.net.length cN] false W→W.cell? ⟨w.heap.size,0,none⟩=some (.slice Ab nb cb):=fun W h=>(Ac h.box).1.1
 have p1:∀W,duo w 36 #[.slice Ab nb cb,.int .i64 s.day.plan.bins,.int .i64 s.day.plan.passes,.slice AO s.day.plan.order.length cO,.slice AF s.day.fwds.length cF,.slice AH s.day.held.length cH,.int .i64 s.day.size,.slice AN s.net.length cN] false W→W.cell? ⟨w.heap.size,1,none⟩=some (.int .i64 s.day.plan.bins):=fun W h=>(Ac h.box).1.2.1
 have p2:∀W,duo w 36 #[.slice Ab nb cb,.int .i64 s.day.plan.bins,.int .i64 s.day.plan.passes,.slice AO s.day.plan.order.length cO,.slice AF s.day.fwds.length cF,.slice AH s.day.held.length cH,.int .i64 s.day.size,.slice AN s.net.length cN] false W→W.cell? ⟨w.heap.size,2,none⟩=some (.int .i64 s.day.plan.passes):=fun W h=>(Ac h.box).1.2.2.1
 have p3:∀W,duo w 36 #[.slice Ab nb cb,.int .i64 s.day.plan.bins,.int .i64 s.day.plan.passes,.slice AO s.day.plan.order.length cO,.slice AF s.day.fwds.length cF,.slice AH s.day.held.length cH,.int .i64 s.day.size,.slice AN s.net.length cN] false W→W.cell? ⟨w.heap.size,3,none⟩=some (.slice AO s.day.plan.order.length cO):=fun W h=>(Ac h.box).1.2.2.2.1
 have p4:∀W,duo w 36 #[.slice Ab nb cb,.int .i64 s.day.plan.bins,.int .i64 s.day.plan.passes,.slice AO s.day.plan.order.length cO,.slice AF s.day.fwds.length cF,.slice AH s.day.held.length cH,.int .i64 s.day.size,.slice AN s.net.length cN] false W→W.cell? ⟨w.heap.size,4,none⟩=some (.slice AF s.day.fwds.length cF):=fun W h=>(Ac h.box).1.2.2.2.2.1
 have p5:∀W,duo w 36 #[.slice Ab nb cb,.int .i64 s.day.plan.bins,.int .i64 s.day.plan.passes,.slice AO s.day.plan.order.length cO,.slice AF s.day.fwds.length cF,.slice AH s.day.held.length cH,.int .i64 s.day.size,.slice AN s.net.length cN] false W→W.cell? ⟨w.heap.size,5,none⟩=some (.slice AH s.day.held.length cH):=fun W h=>(Ac h.box).1.2.2.2.2.2.1
 have p6:∀W,duo w 36 #[.slice Ab nb cb,.int .i64 s.day.plan.bins,.int .i64 s.day.plan.passes,.slice AO s.day.plan.order.length cO,.slice AF s.day.fwds.length cF,.slice AH s.day.held.length cH,.int .i64 s.day.size,.slice AN s.net.length cN] false W→W.cell? ⟨w.heap.size,6,none⟩=some (.int .i64 s.day.size):=fun W h=>(Ac h.box).1.2.2.2.2.2.2.1
 have p7:∀W,duo w 36 #[.slice Ab nb cb,.int .i64 s.day.plan.bins,.int .i64 s.day.plan.passes,.slice AO s.day.plan.order.length cO,.slice AF s.day.fwds.length cF,.slice AH s.day.held.length cH,.int .i64 s.day.size,.slice AN s.net.length cN] false W→W.cell? ⟨w.heap.size,7,none⟩=some (.slice AN s.net.length cN):=fun W h=>(Ac h.box).1.2.2.2.2.2.2.2
 obtain⟨F,hF⟩:∃F,Co xs=F:=⟨_,rfl⟩;rw[hF]at HC HP de hz⊢;refine' YA;clear hF;go_enter Tryz.func25,Tryz.ntmps25
 refine' ZBU;go_region_law (first|(go_simp;go_at_call 23;refine' ZCr)|fail)
 all_goals
  have HF:=aA (duo.set8 k1);clear ao k1
  refine' ZC;refine' ZJk;rw[←de.out];exact Bs.of (m:=w.heap.size+2) (vL:=.slice Ab nb cb) (s':={s with letters:=xs}) ((HS.out.cut HF.out.lay).setL (HB.out.cut HF.out.lay)) ZA (Ct.refl _ _) HF.out.lay
theorem AdT(v xss w)(hv:rd w w.heap.size v xss)(hn:xss.length≤60)(ht:∀t∈xss,1≤t.length∧t.length≤20)(hb:okB xss.flatten=true):
 Calls aB 85 #[v,.int .i64 20] w fun e w'=>e=.returned (.bool true)∧Below w.heap.size w w':=by
 have hl6:=Cq hb;refine' zQ;refine' ZGn;have HT:=aA ht;refine' ZAa;clear ht hb;have kl:(xss.length:Int)≤60:=ZA
 have kT:Hid (∀W:World,Calls aB 92 #[.int .i64 20] W fun e w'=>e=.returned (.bool true)∧W=w'):=fun W=>Nm 20 W
 go_enter Tryz.func85,Tryz.ntmps85
 refine' ZC;go_loop[5] (fun i=>∃k:Nat,k≤xss.length∧i=.int .i64 k) (fun i=>xss.length - (intOf i).toNat)
 case atStart=>exact⟨0,aM _,rfl⟩
 case round=>
  obtain⟨k,hk,rfl⟩:=hrel;by_cases ab:k<xss.length
  ·refine' ZCD;have c1:=c1 w (aF _ _);obtain⟨t1,t2⟩:=HT.out _ (aU ab);refine' ZES;subst nI;clear kq;refine' ZDF;refine' zO;have pX:Hid (∀W:World,Calls aB 167 #[.int .i64 (ys.length:Int),.int .i64 1,.int .i64 20] W fun e w'=>e=.returned (.bool true)∧W=w'):=fun W=>by have:=D0 (ys.length:Int) 1 20 W;rw[aJ (show(1:Int)≤(ys.length:Int) by omega),aJ (show(ys.length:Int)≤20 by omega)]at this;exact this
   go_wp2_with (refine' ZF8)
   go_round
   case rel=>exact⟨k+1,ZA,ZJ⟩
   case measure=>exact ZK
  ·have bc:¬(k:Int)<(xss.length:Int):=ZA
   have EK:=aA (Im _ xss w HV.out ZA)
   go_wp2_with (first|(go_at_call 92;refine(kT.out _).mono ?_;refine' ZP)|(go_at_call 75;refine EK.out.mono ?_;refine' ZAm;have qr:=aA (C6 _ xss.flatten w2 o2.rd);rw[HB.out]at qr;obtain⟨A2,n2,c2,rfl, -, -, -, -⟩:=o2.rd)|(go_at_call 69;refine qr.out.mono ?_;refine' zH))
   have l3:=Aa b2 b3;go_ret;exact⟨rfl,l3⟩
theorem AlT(v xs w)(hv:rd w w.heap.size v xs)(h0:xs.length≠0)(ag:okB xs=true):
 Calls aB 86 #[v] w fun e w'=>e=.returned (.string (AaU xs))∧Below w.heap.size w w':=by
 refine' ZOy;have sU:(0:Int)≤(m:Int):=ZA
 refine' ZOz;go_enter Tryz.func86,Tryz.ntmps86
 go_wp2_with (go_at_call 69;refine(C6 _ xs _ HV.out).mono ?_;rw[HO.out];refine' ZT)
 have d1:=tg.out w1 b1;have d2:=kw.out w1 b1;simp only[fD,bW,dA]at d1
 go_quiet (fail)
 refine' ZI;exact⟨B8 HL.out.symm,Ba b1 _⟩
def Ti(xss:List (List Ltr))(k:Nat):ByteArray:=Cg ((xss.map Ih).take k) spT
theorem Ac2(v xss w)(hv:rd w w.heap.size v xss)(hk:Vr xss):
 Calls aB 37 #[v] w fun e w'=>e=.returned (.string (Qq xss))∧Below w.heap.size w w':=by
 refine' zQ;have RQ:=aA (AdT v xss w hv hk.1 hk.2.1 hk.2.2);have kl:=hk.1;refine' ZAd;refine' ZBy;have cg:Hid ((xss.map Ih).length=xss.length):=ZBD
 have kT:Hid (∀k,(Ti xss k).size≤1260):=fun k=>by
  have h1:=Dw ((xss.map Ih).take k) spT 20 fun p hp=>(M3 HK.out p (dY hp)).1
  have h2:((xss.map Ih).take k).length*(20+spT.size)≤60*21:=cC (by rw[bH,cg.out];omega) (aD _);unfold Ti;omega
 have HF:Hid ((if(Ti xss xss.length).size=0 then⟨#[45]⟩else Ti xss xss.length)=Qq xss):=by
  show _=_;have h:=Xl (xss.map Ih) fun p hp=>(M3 HK.out p hp).2
  unfold Ti;rw[bA ZAs,h];unfold Cb Qq;rw[cg.out]
 clear hk;go_enter Tryz.func37,Tryz.ntmps37
 refine' ZC;refine RQ.out.mono ?_;rintro e w1 ⟨rfl,l1⟩
 refine' ZC;go_loopw[3,4] (fun t i wr=>∃k:Nat,k≤xss.length∧i=.int .i64 k∧t=.string (Ti xss k)∧Below w.heap.size w wr) (fun _ i _=>xss.length - (intOf i).toNat)
 case atStart=>exact⟨0,aM _,rfl,by unfold Ti;rw[dD,Km],l1⟩
 case round=>
  refine' ZDZ;by_cases ab:k<xss.length
  ·refine' ZCD;obtain⟨t1,t2,t3⟩:=HK.out.each _ (aU ab);have uI:k<(xss.map Ih).length:=zY
   have TY:(xss.map Ih)[k]=Ih xss[k]:=ZE
   have ti:Hid (k=0→Ti xss (k+1)=Ih xss[k]):=fun h=>by unfold Ti;rw[aH uI,TY];subst h;rw[dD,bV,Kp]
   have oJ:Hid (0<k→Ti xss (k+1)=Ti xss k++spT++Ih xss[k]):=fun h=>by unfold Ti;rw[aH uI,TY,G5];intro e;have:=aT List.length e;rw[bH,cg.out,cK]at this;omega
   have HZ:Hid (k=0→Ti xss k=⟨#[]⟩):=fun h=>by subst h;unfold Ti;rw[dD,Km]
   have d9:=kT.out k;have jY:Hid (Ih xss[k]=AaU xss[k]++⟨#[58]⟩++Cl xss[k].length):=rfl;have lF:Hid (∀W,Below w.heap.size w W→Calls aB 86 #[u] W fun e W'=>e=.returned (.string (AaU xss[k]))∧Below w.heap.size w W'):=fun W hW=>
    (AlT u xss[k] W (hu.on hW) t1 t3).mono fun e W' h=>⟨h.1,hW.trans (h.2.mono hW.size)⟩
   have rW:Hid (∀W,Below w.heap.size w W→Calls aB 28 #[.int .i64 (xss[k].length:Int)] W fun e W'=>e=.returned (.string (Cl xss[k].length))∧Below w.heap.size w W'):=fun W hW=>
    (Hy xss[k].length W ZA).mono fun e W' h=>⟨h.1,hW.trans (h.2.mono hW.size)⟩
   have sl:=eJ (AbY t1 t3);have sd:=(C9 (n:=xss[k].length) ZA).1;obtain⟨Au,nu,cu,rfl,RS,_,_,_⟩:=hu;subst RS;obtain⟨P,hP⟩:∃P,Ti xss k=P:=⟨_,rfl⟩;obtain⟨N,hN⟩:∃P,Ti xss (k+1)=P:=⟨_,rfl⟩;rw[hP]at oJ HZ d9⊢;rw[hN]at oJ ti;have HN:=aA hN;generalize AaU xss[k]=lb at *;generalize Cl xss[k].length=dl at *;generalize Ih xss[k]=pt at *;generalize xss[k].length=tl at *;clear hP hN TY uI;refine' ZDF;refine' zO;have ld:=Ag lr;by_cases gx:k=0
   ·subst gx
    simp only[fD,bW,dA]at c1;have lv:Hid (P++lb++⟨#[58]⟩++dl=N):=by show _=_;rw[ti.out rfl,jY.out,HZ.out rfl];apply Cv;simp
    clear bc ei;have bc:(0:Int)<(xss.length:Int):=ZA
    refine' ZSs;refine' ZC;refine' ZSt;all_goals
     refine' ZC;go_roundw
     case rel=>exact⟨0+1,ZA,ZJ,ZF6,by first|exact l4|exact l3⟩
     case measure=>exact ZK
   ·refine' ZEp;have lv:Hid (P++⟨#[32]⟩++lb++⟨#[58]⟩++dl=N):=by show _=_;rw[oJ.out ZA,jY.out];apply Cv;simp[spT]
    have KT:(P++(⟨#[32]⟩:ByteArray)).size≤1261:=ZCN
    refine' ZC;generalize P++(⟨#[32]⟩:ByteArray)=P at *;refine' ZSs;refine' ZSt;all_goals
     refine' ZC;go_roundw
     case rel=>exact⟨k+1,ZA,ZJ,ZF6,by first|exact l4|exact l3⟩
     case measure=>exact ZK
  ·refine' ZDH;have bc:¬(k:Int)<(xss.length:Int):=ZA
   have sI:Hid ((if(Ti xss k).size=0 then⟨#[45]⟩else Ti xss k)=Qq xss):=by show _=_;rw[HE.out];exact HF.out
   generalize Ti xss k=P at *;refine' ZBF;rw[sI.out]at HD
   refine' ZC;refine(HD.out _).mono ?_;refine' ZP;refine' ZI;exact⟨rfl,lr⟩
def AyZ:ByteArray:=⟨#[45,49]⟩
theorem AiT(w):Calls aB 28 #[.int .i64 (-1)] w fun e w'=>e=.returned (.string AyZ)∧Below w.heap.size w w':=by
 have HD:Hid (∀W,Calls aB 28 #[.int .i64 1] W fun e w'=>e=.returned (.string ⟨#[49]⟩)∧Below W.heap.size W w'):=fun W=>by
  have:=Hy 1 W ZA
  rwa [show Cl 1=⟨#[49]⟩ by exact ZS]at this
 go_enter Tryz.func28,Tryz.ntmps28
 go_wp2_with (go_at_call 28;refine(HD.out _).mono ?_;refine' ZT)
 go_ret;exact⟨rfl,b1⟩
def AcA(n:Int):ByteArray:=if 0≤n then Cl n.toNat else AyZ
theorem Ji(n w)(h0: -1≤n)(h1:n≤9999):Calls aB 28 #[.int .i64 n] w fun e w'=>e=.returned (.string (AcA n))∧Below w.heap.size w w':=by
 by_cases h:0≤n
 ·obtain⟨k,rfl⟩:=aQ h
  unfold AcA;rw[aP h];exact Hy k w ZA
 ·have:n= -1:=ZA
  subst this;exact AiT w
theorem Ap7(n)(h0: -1≤n):Em (if decide (0≤n)then AcA n else⟨#[]⟩)=Em (G1 n):=by
 by_cases h:0≤n
 ·rw[aP (aJ h),(Ag9 h).1]
  unfold AcA;rw[aP h]
 ·have:n= -1:=ZA
  subst this;rfl
theorem AhZ{n}(h:0≤n):AcA n=G1 n:=by unfold AcA;rw[aP h,(Ag9 h).1]
theorem We(n)(h1:n≤9999):1≤(AcA n).size∧(AcA n).size≤20:=by
 unfold AcA
 split
 ·rename_i h
  have:=AgQ n.toNat;refine⟨this,?_⟩;have h2:=(C9 (n:=n.toNat) ZA).1;omega
 ·decide
theorem AfI(v)(ns:List Nat)(w)(hv:rd w w.heap.size v (ns.map fun n:Nat=>(n:Int)))(hl:ns.length≤1000)(hb:∀n∈ns,n≤9999):
 Calls aB 105 #[v] w fun e w'=>e=.returned (.string (Cb (ns.map Cl)))∧Below w.heap.size w w':=by
 refine' ZAh;rw[bF]at hn;subst hn;refine' ZA7;refine' ZAa;clear hb;have hp:∀p∈ns.map Cl,1≤p.size∧p.size≤1000:=fun p hp=>by obtain⟨k,hk,rfl⟩:=List.mem_map.1 hp;have h1:=AgQ k;have h2:=(C9 (n:=k) (by have:=HB.out k hk;omega)).1;omega
 have s9:=aA (fun(v:Value) (W:World) (h:rd W W.heap.size v (ns.map Cl))=>Fn v (ns.map Cl) W h hp ZCd);have cg:Hid ((ns.map Cl).length=ns.length):=bF _;have sS:=aA hp;clear hp;obtain⟨w0,ac⟩:∃u,u=w.alloc (aC #[] 9):=⟨_,rfl⟩;have o0:own (α:=ByteArray) 9 w.heap.size w0 (.slice (some ⟨w.heap.size,0,none⟩) 0 0) []:=by rw[ac];exact own.made0 w _ (aD _)
 have l0:Below w.heap.size w w0:=by rw[ac];exact ZAf
 refine' zX;clear ac;refine' zh;go_enter Tryz.func105,Tryz.ntmps105
 refine' zD;go_loopw[3,4] (fun t i wr=>∃j:Nat,j≤ns.length∧i=.int .i64 j∧Below w.heap.size w wr∧own 9 w.heap.size wr t ((ns.map Cl).take j)) (fun _ i _=>ns.length - (intOf i).toNat)
 case atStart=>exact⟨0,aM _,rfl,l0,by rw[dD];exact o0⟩
 case round=>
  obtain⟨j,hj,rfl,lr,ho⟩:=hrel;refine' zl;clear l0 o0;by_cases ab:j<ns.length
  ·obtain⟨b,o,rfl,hb,RP,y1⟩:=rdA.intU HR.out j (by refine' za;exact ab)
   rw[eZ]at y1;have y2:=y1 w2 lr;have lY:Hid ((ns.map Cl).take (j+1)=(ns.map Cl).take j++[Cl ns[j]]):=by show _=_;rw[aH zY,eZ]
   have OG:=HB.out _ (aU ab);have rV:=sS.out _ (List.mem_map.2 ⟨_,aU ab,rfl⟩);generalize ns[j]=k at *;have rW:=aA (Hy k w2 ZA);generalize Cl k=x at *;have MC:x.size≤maxLen:=ZN
   have jb:((ns.map Cl).take j).length≤1000:=zF
   generalize(ns.map Cl).take j=D at *;refine' ZJS;have ko:(j:Int)<(ns.length:Int):=ZA
   refine' ZFb;clear ho RP y1
   refine' ZC;refine rW.out.mono ?_;refine' zH;have l3:=lr.trans (b3.mono lr.size);have oN:=l3.size;have fg:=aA (HO.out.below b3);have L3:=aA l3;clear b3 l3 lr y2
   go_wp2_with (at_builtin;refine An (α:=ByteArray) rfl (.tmp 12) (.tmp 18) 28 rfl w.heap.size 9 i0 _ 16 aW hi ah aw aq rfl ZF (.slice Ad D.length cd) D x rfl (fg.out.alloc _) ⟨w3.heap.size,0,none⟩ 1 [.string x] rfl ⟨MC,rfl⟩ (Bz w3 _ [.string x]) ZN ZA ZH ?_;refine' zI)
   have l5:Below w.heap.size w w5:=(L3.out.alloc L3.out.size (aC #[.string x] 9)).grown ap ZH fun r e=>(fg.out.blk r e).1
   refine' ZBQ;clear bz ap cn
   go_roundw
   case rel=>exact⟨j+1,ZA,ZJ,l5,by rw[lY.out];exact jT.out⟩
   case measure=>exact ZK
  ·have FZ:Hid ((ns.map Cl).take j=ns.map Cl):=bA ZCQ
   have ko:¬(j:Int)<(ns.length:Int):=ZA
   rw[FZ.out]at ho;have wP:=aA (s9.out _ w2 ho.rd);refine' ZJT;refine' ZC;refine wP.out.mono ?_;refine' ZP;refine' ZI;exact⟨rfl,lr⟩
theorem Aj4(ns:List Nat)(hl:ns.length≤1000)(hb:∀n∈ns,n≤9999):1≤(Cb (ns.map Cl)).size∧(Cb (ns.map Cl)).size≤10000:=by
 have hp:∀p∈ns.map Cl,1≤p.size∧p.size≤4:=fun p hp=>by obtain⟨k,hk,rfl⟩:=List.mem_map.1 hp;have h2:=C9 (n:=k) (hb k hk);omega
 refine⟨Q6 fun p h=>(hp p h).1,?_⟩;have h:(Cg (ns.map Cl) spT).size≤(ns.map Cl).length*5:=Dw (ns.map Cl) spT 4 fun p h=>(hp p h).2
 rw[bF]at h;unfold Cb
 split
 ·decide
 ·omega
theorem BaE(R:Nat→Prop)(vL vO vF vH vN s w)(hS:stN R w vL vO vF vH vN s)(hp:1≤(G1 (Gy (okB s.letters) (sL s.letters))++⟨#[32]⟩++G1 (Gy (okB s.letters) (osL s.letters))).size)(h0:0≤Gy (okB s.letters) (sL s.letters))(h1:Gy (okB s.letters) (sL s.letters)≤9999)(g0:0≤Gy (okB s.letters) (osL s.letters))(g1:Gy (okB s.letters) (osL s.letters)≤9999):
 Calls aB 11 #[stV vL vO vF vH vN s,.string F4] w (Bs R s (G1 (Gy (okB s.letters) (sL s.letters))++⟨#[32]⟩++G1 (Gy (okB s.letters) (osL s.letters))) w):=by
 refine' zJ;show Calls aB _ #[.agg #[.slice AL s.letters.length cL,.int .i64 s.day.plan.bins,.int .i64 s.day.plan.passes,.slice AO s.day.plan.order.length cO,.slice AF s.day.fwds.length cF,.slice AH s.day.held.length cH,.int .i64 s.day.size,.slice AN s.net.length cN],.string F4] w _;refine' ZBV;have HC:Hid (∀W,Below w.heap.size w W→Calls aB 39 #[.slice AL s.letters.length cL] W fun e w'=>e=.returned (.int .i64 (Gy (okB s.letters) (sL s.letters)))∧Below W.heap.size W w'):=fun W hW=>ApI _ s.letters W (hS.l.rd.on hW)
 have HD:Hid (∀W,Below w.heap.size w W→Calls aB 28 #[.int .i64 (Gy (okB s.letters) (sL s.letters))] W fun e w'=>e=.returned (.string (G1 (Gy (okB s.letters) (sL s.letters))))∧Below W.heap.size W w'):=fun W hW=>by
  have:=Ji (Gy (okB s.letters) (sL s.letters)) W ZA h1
  rwa [AhZ h0]at this
 have kw:Hid (∀W,Below w.heap.size w W→Calls aB 40 #[.slice AL s.letters.length cL] W fun e w'=>e=.returned (.int .i64 (Gy (okB s.letters) (osL s.letters)))∧Below W.heap.size W w'):=fun W hW=>AfJ _ s.letters W (hS.l.rd.on hW)
 have jR:Hid (∀W,Below w.heap.size w W→Calls aB 28 #[.int .i64 (Gy (okB s.letters) (osL s.letters))] W fun e w'=>e=.returned (.string (G1 (Gy (okB s.letters) (osL s.letters))))∧Below W.heap.size W w'):=fun W hW=>by
  have:=Ji (Gy (okB s.letters) (osL s.letters)) W ZA g1
  rwa [AhZ g0]at this
 have hz:=H9 ZA h1;have aq:=H9 ZA g1;refine' ZBW;clear hS h0 h1 g0 g1;generalize G1 (Gy (okB s.letters) (sL s.letters))=F at *;generalize G1 (Gy (okB s.letters) (osL s.letters))=G at *;generalize Gy (okB s.letters) (sL s.letters)=n at *;generalize Gy (okB s.letters) (osL s.letters)=m at *;refine' ZTD;refine' ZOo;have d8:(F4.toList==[112,108,97,110])=false:=ZD
 have fd:(F4.toList==[115,101,113,117,101,110,99,101])=false:=ZD
 have gq:(F4.toList==[109,111,118,101,100])=false:=ZD
 have i8:(F4.toList==[102,111,114,119,97,114,100,115])=false:=ZD
 have jQ:(F4.toList==[101,110,100,108,101,115,115])=false:=ZD
 have kJ:(F4.toList==[100,105,114,101,99,116])=false:=ZD
 have lP:(F4.toList==[104,101,108,100])=false:=ZD
 have nK:(F4.toList==[100,97,121])=false:=ZD
 have kK:(F4.toList==[116,114,97,121,115])=false:=ZD
 have mX:(F4.toList==[110,101,116])=false:=ZD
 have cm:(F4.toList==[115,101,97,108])=true:=ZD
 generalize F4=wd at *;refine' YB;go_region_held3 (fun W=>duo w 36 cs false W) (first|(with_reducible exact ao)|(with_reducible exact k1)|(with_reducible exact k2)|(with_reducible exact k3)|(with_reducible exact k4)|(exact duo.set8f k4)|fail) (first|(go_at_call 39;refine' ZB5;refine' YW;have k1:=ao.below z1)|(refine' ZTC)|(go_at_call 40;(with_reducible refine(kw.out _ k2.lay).mono ?_);refine' YI;have k3:=k2.below z3)|(go_at_call 28;(with_reducible refine(jR.out _ k3.lay).mono ?_);rintro e u4 ⟨rfl,z4⟩;have k4:=k3.below z4;obtain⟨r0,r1,r2,r3,r4,r5,r6,r7,hr⟩:=k4.res;refine' ZCu)|fail)
 all_goals have HF:=aA (duo.set8 (AcR q9.out k4));exact ZGB
attribute [local go_sem] Oper.semAt_some
theorem Bc8{ps:List ByteArray}{k}(hk:k≤ps.length)(jl:k≤61)(ge:k=ps.length∨60<k):ps.take 61=ps.take k:=by
 refine' ZFk
 ·rw[show k=61 by omega]
theorem Au3{ps:List ByteArray}{k}(hk:k<ps.length)(h:Ik Hk (ps.take k)=true):Ik Hk (ps.take (k+1))=(Hk ps[k]).isSome:=ZQl
theorem AyV{ps:List ByteArray}{k}(hk:k<ps.length)(jl:k≤60)(h:Ik Hk (ps.take (k+1))=false):Ik Hk (ps.take 61)=false:=
 Vl (fW ZA) h
theorem Tn(t w)(ht:t.size≤1000000000000):
 Calls aB 41 #[.string t] w fun e w'=>∃v',e=.returned (.tuple #[v',.bool (Mv t)])∧own 119 w.heap.size w' v' (pbL t)∧Below w.heap.size w w':=by
 obtain⟨i0,ji,dp,dq,dr⟩:=eA Tryz.infoLt;have lA:Below w.heap.size w (w.alloc (aC #[] 119)):=(aF _ _).alloc (aD _) _;have rL:own (α:=Ltr) 119 w.heap.size (w.alloc (aC #[] 119)) (.slice (some ⟨w.heap.size,0,none⟩) 0 0) []:=own.made0 w _ (aD _);refine' ZIa;go_enter Tryz.func41,Tryz.ntmps41;by_cases ci:sEq t ⟨#[45]⟩=true
 ·refine' ZOA;exact ZIb
 ·refine' ZIc;have kj:=aA (BcQ ob);have HO:Hid (Mv t=Vg t):=by show _=_;rw[kj.out.1];unfold Mv;rw[ob];rfl
  have HR:Hid (pbL t=if Vg t then Gl Hk ((Aj 32 t).take 61)else []):=by show _=_;rw[kj.out.1];unfold pbL;exact ZId
  refine' ZIe;obtain⟨wA,ug⟩:∃W,w.alloc (aC #[] 119)=W:=⟨_,rfl⟩;refine' ZIf;have dw:Hid (Vg t=(Ik Hk (ps.take 61)&&sEq (Co (Gl Hk (ps.take 61))) t)):=by show _=_;unfold Vg;rw[d9]
  clear d9;subst hn
  refine' ZC;go_loopw[4,6,7] (fun v i _ wr=>∃k:Nat,k≤ps.length∧k≤61∧i=.int .i64 k∧Ik Hk (ps.take k)=true∧own 119 w.heap.size wr v (Gl Hk (ps.take k))∧own 9 wA.heap.size wr (.slice A ps.length c) ps∧apart v (.slice A ps.length c)∧Below w.heap.size w wr) (fun _ i _ _=>61 - (intOf i).toNat)
  case atStart=>exact ZIg
  case round=>
   obtain⟨k,hk,RM,rfl,cw,ho,hop,m7,lw⟩:=hrel;refine' ZFl;by_cases ge:k=ps.length∨60<k
   ·have HT:=aA (Bc8 hk RM ge)
    refine' ZFm;have HF:=D6 _ _ w2 j8.out.rd;clear ho hm;by_cases fy:k=ps.length
    ·refine' ZFn;exact ZSc
    ·refine' ZAw;have rf:¬((k:Int)≤60):=ZA
     exact ZSc
   ·have fy:k<ps.length:=ZA
    have ui:k≤60:=ZA
    refine' ZAw;have rf:(k:Int)≤60:=ZA
    refine' ZIh;have rK:=aA (Au3 fy jg.out);have ma:=aA (AyV fy ui);refine' ZIi;have kZ:=fun W=>Nq x 58 W oa
    by_cases az:Lib.indexByte x.data.toList 58<0
    ·have nz:=aA (Ri az)
     have HB:Hid (Vg t=false):=by show _=_;rw[dw.out,ma.out (by rw[rK.out];unfold Hk;rw[nz.out];rfl)];rfl
     clear ho
     refine' ZBz;generalize Lib.indexByte x.data.toList 58=j at *
     exact ZIj
    ·obtain⟨i,jt⟩:∃i:Nat,Lib.indexByte x.data.toList 58=(i:Int):=⟨(Lib.indexByte x.data.toList 58).toNat,ZA⟩
     refine' ZIp;have DF:=aA (fun W=>Tb (x.extract 0 i) W (aG jf.1 oa));have hnv:=Lp (d:=Mj (x.extract 0 i)) (ng:=Kn (x.extract 0 i));have KP:Hid (Hp (x.extract 0 i)=N5 (Mj (x.extract 0 i)) (Kn (x.extract 0 i))):=rfl;rw[←KP.out]at hnv;have qz:Hid (Hk x=some ⟨Hp (x.extract 0 i),x.extract (i+1) x.size⟩):=by show _=_;unfold Hk;rw[ax];rfl
     have AZ:(x.extract (i+1) x.size).size≤maxLen:=aG jf.2 oa;have nJ:Hid (Ik Hk (ps.take (k+1))=true):=ZIq
     have gu:Hid (Gl Hk (ps.take (k+1))=Gl Hk (ps.take k)++[⟨Hp (x.extract 0 i),x.extract (i+1) x.size⟩]):=by show _=_;rw[lY.out];exact AbL qz.out
     have bv:(Gl Hk (ps.take k)).length=k:=by rw[Un _ jg.out,bH];omega
     clear jt az iu ax jf KP;refine' ZIr;refine' ZF7;rw[bv]at hm;subst hm;clear ho;generalize Gl Hk (ps.take m)=gs at *;generalize Hp (x.extract 0 i)=nv at *
     refine' ZBz;refine' ZC;refine(DF.out _).mono ?_;refine' ZP;clear DF;have hnq:Bj nv:=zL
     obtain⟨cd,oe⟩:∃cd,x.extract (i+1) x.size=cd:=⟨_,rfl⟩;rw[oe]at AZ gu
     go_wp2_with (at_builtin;refine An (α:=Ltr) rfl (.tmp 44) (.tmp 54) 27 rfl w.heap.size 119 i0 _ 24 aV ji dp dq dr rfl ZF (.slice Av m cp) gs ⟨nv,cd⟩ rfl (j8.out.alloc _) ⟨w2.heap.size,0,none⟩ 1 (Ltr.cells ⟨nv,cd⟩) rfl ⟨⟨hnq,AZ⟩,rfl⟩ (Bz w2 _ (Ltr.cells ⟨nv,cd⟩)) ZN ZA ZH ?_;refine' ZAi)
     have fq:Below w2.heap.size w2 (w2.alloc (aC #[bC .i64 nv,aK cd] 119)):=Ae (aF _ _) _;have kB:Below w.heap.size w2 w4:=(fq.mono aq).trans (Ay (j8.out.alloc _) ep ZH);have ul:=(uZ.out.alloc (aC #[bC .i64 nv,aK cd] 119)).grown ep (Br et.out);have cn:=Dg (n:=m+1) (c:=cap) et.out kR (fun j hj=>((uZ.out.alloc (aC #[bC .i64 nv,aK cd] 119)).blk j hj).2);refine' ZIk;exact ZIl
theorem stS.made{w wA}{T:TypeId}{cs}(h:wA=w.alloc (.cells cs T)):stS w w.heap.size T cs wA:=by subst h;exact⟨(aF _ _).alloc (aD _) _,bD w _⟩
theorem BaH(R:Nat→Prop)(vL vO vF vH vN s f B g c w)(hS:stN R w vL vO vF vH vN s)(hf:own 9 B w (.slice (some ⟨g,0,none⟩) 1 c) [f])(hz:f.size≤maxLen)(hp:Ap f=true→1≤(Kz f).size)(hl:(Kz f).size≤1000)(hi:(if Ap f then Kz f else⟨#[]⟩)=Kz f):
 Calls aB 48 #[stV vL vO vF vH vN s,.string Gn,.slice (some ⟨g,0,none⟩) 1 c] w fun e w'=>e=.returned (.string (Em (Kz f)))∧Below w.heap.size w w':=by
 refine' ZA0;show Calls aB _ #[.agg #[.slice AL s.letters.length cL,.int .i64 s.day.plan.bins,.int .i64 s.day.plan.passes,.slice AO s.day.plan.order.length cO,.slice AF s.day.fwds.length cF,.slice AH s.day.held.length cH,.int .i64 s.day.size,.slice AN s.net.length cN],.string Gn,.slice (some ⟨g,0,none⟩) 1 c] w _;refine' YN;have HC:Hid (∀W,stS w w.heap.size 36 #[.slice AL s.letters.length cL,.int .i64 s.day.plan.bins,.int .i64 s.day.plan.passes,.slice AO s.day.plan.order.length cO,.slice AF s.day.fwds.length cF,.slice AH s.day.held.length cH,.int .i64 s.day.size,.slice AN s.net.length cN] W→Calls aB 66 #[.string f] W fun e w'=>e=.returned (.tuple #[.string (Kz f),.bool (Ap f)])∧Below W.heap.size W w'):=fun W h0=>have hW:=h0.lay;ApD f W hz
 have dy:Hid (∀W,Calls aB 43 #[.bool (Ap f),.string (Kz f)] W fun e w'=>e=.returned (.string (Em (if Ap f then Kz f else⟨#[]⟩)))∧W=w'):=fun W=>Lt (Ap f) (Kz f) W ZA hp
 refine' ZA1;rw[hi]at dy;clear hz hp hl hi;generalize Kz f=V at *;generalize Ap f=O at *;refine' ZAP;have ca:(Gn.toList==[99,111,100,101])=false:=ZD
 refine' ZHh;refine' ZAQ;go_wp2_with (go_at_call 66;refine' ZJq)
 refine' ZGF;exact⟨rfl,K.out⟩
theorem BaU(R:Nat→Prop)(vL vO vF vH vN s f B g c w)(hS:stN R w vL vO vF vH vN s)(hf:own 9 B w (.slice (some ⟨g,0,none⟩) 1 c) [f])(hz:f.size≤maxLen)(hp:Fb f=true→1≤(Hr f).size)(hl:(Hr f).size≤1000)(hi:(if Fb f then Hr f else⟨#[]⟩)=Hr f):
 Calls aB 48 #[stV vL vO vF vH vN s,.string Ga,.slice (some ⟨g,0,none⟩) 1 c] w fun e w'=>e=.returned (.string (Em (Hr f)))∧Below w.heap.size w w':=by
 refine' ZA0;show Calls aB _ #[.agg #[.slice AL s.letters.length cL,.int .i64 s.day.plan.bins,.int .i64 s.day.plan.passes,.slice AO s.day.plan.order.length cO,.slice AF s.day.fwds.length cF,.slice AH s.day.held.length cH,.int .i64 s.day.size,.slice AN s.net.length cN],.string Ga,.slice (some ⟨g,0,none⟩) 1 c] w _;refine' YN;have HC:Hid (∀W,stS w w.heap.size 36 #[.slice AL s.letters.length cL,.int .i64 s.day.plan.bins,.int .i64 s.day.plan.passes,.slice AO s.day.plan.order.length cO,.slice AF s.day.fwds.length cF,.slice AH s.day.held.length cH,.int .i64 s.day.size,.slice AN s.net.length cN] W→Calls aB 101 #[.string f] W fun e w'=>e=.returned (.tuple #[.string (Hr f),.bool (Fb f)])∧Below W.heap.size W w'):=fun W h0=>have hW:=h0.lay;AbN f W
 have dy:Hid (∀W,Calls aB 43 #[.bool (Fb f),.string (Hr f)] W fun e w'=>e=.returned (.string (Em (if Fb f then Hr f else⟨#[]⟩)))∧W=w'):=fun W=>Lt (Fb f) (Hr f) W ZA hp
 refine' ZA1;rw[hi]at dy;clear hz hp hl hi;generalize Hr f=V at *;generalize Fb f=O at *;refine' ZAP;refine' ZTJ;refine' ZAQ;go_wp2_with (go_at_call 101;refine' ZJq)
 refine' ZGF;exact⟨rfl,K.out⟩
theorem BaA(R:Nat→Prop)(vL vO vF vH vN s f B g c w)(hS:stN R w vL vO vF vH vN s)(hf:own 9 B w (.slice (some ⟨g,0,none⟩) 1 c) [f])(hz:f.size≤maxLen):
 Calls aB 48 #[stV vL vO vF vH vN s,.string He,.slice (some ⟨g,0,none⟩) 1 c] w fun e w'=>e=.returned (.string (Em (Ad3 f)))∧Below w.heap.size w w':=by
 refine' ZA0;show Calls aB _ #[.agg #[.slice AL s.letters.length cL,.int .i64 s.day.plan.bins,.int .i64 s.day.plan.passes,.slice AO s.day.plan.order.length cO,.slice AF s.day.fwds.length cF,.slice AH s.day.held.length cH,.int .i64 s.day.size,.slice AN s.net.length cN],.string He,.slice (some ⟨g,0,none⟩) 1 c] w _;refine' YN;have HC:Hid (∀W,Calls aB 99 #[.string f] W fun e w'=>∃p:Plc,e=.returned (.tuple #[.agg #[.int .i64 p.area,.int .i64 p.walk,.int .i64 p.point],.bool (Fk f)])∧(Fk f=true→Hf p=c3 f)∧Jk p=true∧Below W.heap.size W w'):=fun W=>AeA f W
 have EK:Hid (∀(p:Plc) W,Jk p=true→Calls aB 100 #[.agg #[.int .i64 p.area,.int .i64 p.walk,.int .i64 p.point]] W fun e w'=>e=.returned (.tuple #[.string (Hf p),.bool true])∧Below W.heap.size W w'):=fun p W h=>Tu p W h
 have dy:Hid (∀(p:Plc) W,Calls aB 43 #[.bool (Fk f),.string (Hf p)] W fun e w'=>e=.returned (.string (Em (if Fk f then Hf p else⟨#[]⟩)))∧W=w'):=fun p W=>Lt (Fk f) (Hf p) W (by have:=Se p;omega) (fun _=>by have:=Se p;omega)
 have HV:Hid (∀p:Plc,(Fk f=true→Hf p=c3 f)→(if Fk f then Hf p else⟨#[]⟩)=Ad3 f):=fun p h=>by
  unfold Ad3
  split
  ·rename_i h2;exact h h2
  ·rfl
 refine' ZA1;clear hz;generalize Fk f=O at *;refine' ZAP;refine' ZHf;refine' ZAQ;go_wp2_with (go_at_call 99;go_loud (refine' ZBq;rintro e u1 ⟨p,rfl,hcp,ag,z1⟩;have k1:=k0.below z1;obtain⟨uP,hP⟩:∃u,u=u1.alloc (aC #[.int .i64 p.area,.int .i64 p.walk,.int .i64 p.point] 147):=⟨_,rfl⟩;have kH:uP.heap[u1.heap.size]? =some (.cells #[.int .i64 p.area,.int .i64 p.walk,.int .i64 p.point] 147 (0,0)):=(by subst hP;exact bD u1 _);have k2:stS w w.heap.size 36 #[.slice AL s.letters.length cL,.int .i64 s.day.plan.bins,.int .i64 s.day.plan.passes,.slice AO s.day.plan.order.length cO,.slice AF s.day.fwds.length cF,.slice AH s.day.held.length cH,.int .i64 s.day.size,.slice AN s.net.length cN] uP:=(by subst hP;exact k1.alloc _);obtain⟨c0,c1,c2,f0,f1,f2⟩:=B7 kH;have HUP:=aA hP;clear hP))
 rw[←HUP.out];refine(EK.out p _ ag).mono ?_;refine' YI;have k3:=k2.below z3;have DD:=aA (dy.out p);rw[HV.out p hcp]at DD;clear k2 c0 c1 c2 f0 f1 f2 kH hcp ag
 go_wp2_with (go_at_call 43;refine(DD.out _).mono ?_;refine' ZP)
 have K:=aA k3.lay;exact ZB6
theorem AyB(R:Nat→Prop)(vL vO vF vH vN s f B g c w)(hS:stN R w vL vO vF vH vN s)(hf:own 9 B w (.slice (some ⟨g,0,none⟩) 1 c) [f])(hz:f.size≤maxLen)(jw: -1≤Fw s.letters f)(ef:Fw s.letters f≤9999):
 Calls aB 48 #[stV vL vO vF vH vN s,.string Eo,.slice (some ⟨g,0,none⟩) 1 c] w fun e w'=>e=.returned (.string (Em (G1 (Fw s.letters f))))∧Below w.heap.size w w':=by
 refine' ZA0;show Calls aB _ #[.agg #[.slice AL s.letters.length cL,.int .i64 s.day.plan.bins,.int .i64 s.day.plan.passes,.slice AO s.day.plan.order.length cO,.slice AF s.day.fwds.length cF,.slice AH s.day.held.length cH,.int .i64 s.day.size,.slice AN s.net.length cN],.string Eo,.slice (some ⟨g,0,none⟩) 1 c] w _;refine' YN;have HC:Hid (∀W,stS w w.heap.size 36 #[.slice AL s.letters.length cL,.int .i64 s.day.plan.bins,.int .i64 s.day.plan.passes,.slice AO s.day.plan.order.length cO,.slice AF s.day.fwds.length cF,.slice AH s.day.held.length cH,.int .i64 s.day.size,.slice AN s.net.length cN] W→Calls aB 102 #[.slice AL s.letters.length cL,.string f] W fun e w'=>e=.returned (.int .i64 (Fw s.letters f))∧Below W.heap.size W w'):=fun W h0=>have hW:=h0.lay;AcC _ s.letters f W (hS.l.rd.on hW) hz
 have rW:=aA (fun W=>Ji (Fw s.letters f) W jw ef);have dy:=aA (fun W=>Lt (decide (0≤Fw s.letters f)) (AcA (Fw s.letters f)) W (by have:=(We _ ef).2;omega) (fun _=>(We _ ef).1));rw[Ap7 _ jw]at dy;refine' ZCx;refine' ZBZ;refine' ZA1;clear hz jw ef;generalize G1 (Fw s.letters f)=NT at *;generalize Fw s.letters f=n at *;generalize AcA n=D at *;refine' ZAP;refine' ZTK;refine' ZAQ;go_region_held3 (fun W=>stS w w.heap.size 36 #[.slice AL s.letters.length cL,.int .i64 s.day.plan.bins,.int .i64 s.day.plan.passes,.slice AO s.day.plan.order.length cO,.slice AF s.day.fwds.length cF,.slice AH s.day.held.length cH,.int .i64 s.day.size,.slice AN s.net.length cN] W) (first|exact ao|exact k1|fail) (first|(go_at_call 102;refine' ZGG)|fail)
 all_goals refine' ZJr
 all_goals have K:=aA k2.lay;exact ZB6
theorem AzN(R:Nat→Prop)(vL vO vF vH vN s f B g c w)(hS:stN R w vL vO vF vH vN s)(hf:own 9 B w (.slice (some ⟨g,0,none⟩) 1 c) [f])(hz:f.size≤maxLen)(hi:Bj s.day.plan.bins∧Bj s.day.plan.passes)(jw: -1≤Hl s.day.plan f)(ef:Hl s.day.plan f≤9999):
 Calls aB 48 #[stV vL vO vF vH vN s,.string Fj,.slice (some ⟨g,0,none⟩) 1 c] w fun e w'=>e=.returned (.string (Em (G1 (Hl s.day.plan f))))∧Below w.heap.size w w':=by
 refine' ZA0;show Calls aB _ #[.agg #[.slice AL s.letters.length cL,.int .i64 s.day.plan.bins,.int .i64 s.day.plan.passes,.slice AO s.day.plan.order.length cO,.slice AF s.day.fwds.length cF,.slice AH s.day.held.length cH,.int .i64 s.day.size,.slice AN s.net.length cN],.string Fj,.slice (some ⟨g,0,none⟩) 1 c] w _;refine' YN;refine' ZCs;have HC:Hid (∀W,stS w w.heap.size 36 #[.slice AL s.letters.length cL,.int .i64 s.day.plan.bins,.int .i64 s.day.plan.passes,.slice AO s.day.plan.order.length cO,.slice AF s.day.fwds.length cF,.slice AH s.day.held.length cH,.int .i64 s.day.size,.slice AN s.net.length cN] W→Calls aB 103 #[.agg #[.int .i64 s.day.plan.bins,.int .i64 s.day.plan.passes,.slice AO s.day.plan.order.length cO],.string f] W fun e w'=>e=.returned (.int .i64 (Hl s.day.plan f))∧Below W.heap.size W w'):=fun W h0=>have hW:=h0.lay;Ai7 _ s.day.plan f W (om.on hW)
 have rW:=aA (fun W=>Ji (Hl s.day.plan f) W jw ef);have dy:=aA (fun W=>Lt (decide (0≤Hl s.day.plan f)) (AcA (Hl s.day.plan f)) W (by have:=(We _ ef).2;omega) (fun _=>(We _ ef).1));rw[Ap7 _ jw]at dy;refine' ZCx;refine' ZBZ;refine' ZA1;clear hz jw ef hi om;generalize G1 (Hl s.day.plan f)=NT at *;generalize Hl s.day.plan f=n at *;generalize AcA n=D at *;refine' ZAP;refine' ZTL;refine' ZAQ;go_region_held3 (fun W=>stS w w.heap.size 36 #[.slice AL s.letters.length cL,.int .i64 s.day.plan.bins,.int .i64 s.day.plan.passes,.slice AO s.day.plan.order.length cO,.slice AF s.day.fwds.length cF,.slice AH s.day.held.length cH,.int .i64 s.day.size,.slice AN s.net.length cN] W) (first|exact ao|exact k1|fail) (first|(go_at_call 103;refine' ZGG)|fail)
 all_goals refine' ZJr
 all_goals have K:=aA k2.lay;exact ZB6
theorem Aw8{L:List Nat}{LT}(h:LT=if L.length=0 then⟨#[]⟩else Cb (L.map Cl)):Em (if decide (0<L.length)then Cb (L.map Cl)else⟨#[]⟩)=Em LT:=by
 rw[h];by_cases h0:L.length=0
 ·rw[aP h0,aL (by simp[h0])]
 ·rw[aL h0,aP (aJ ZA)]
theorem BbU{b:ByteArray}(h:b.size=0):(b.toList==[])=true:=by rw[bR,dE];exact List.length_eq_zero_iff.1 zG
theorem AwO(R:Nat→Prop)(vL vO vF vH vN s f B g c w)(hS:stN R w vL vO vF vH vN s)(hf:own 9 B w (.slice (some ⟨g,0,none⟩) 1 c) [f])(hz:f.size≤maxLen)(hi:Bj s.day.plan.bins∧Bj s.day.plan.passes):
 Calls aB 48 #[stV vL vO vF vH vN s,.string Ds,.slice (some ⟨g,0,none⟩) 1 c] w fun e w'=>e=.returned (.string (Em (Vs s.day.plan s.letters (Am f))))∧Below w.heap.size w w':=by
 refine' ZA0;show Calls aB _ #[.agg #[.slice AL s.letters.length cL,.int .i64 s.day.plan.bins,.int .i64 s.day.plan.passes,.slice AO s.day.plan.order.length cO,.slice AF s.day.fwds.length cF,.slice AH s.day.held.length cH,.int .i64 s.day.size,.slice AN s.net.length cN],.string Ds,.slice (some ⟨g,0,none⟩) 1 c] w _;refine' YN;refine' ZCs;have HI:Hid (∀W,stS w w.heap.size 36 #[.slice AL s.letters.length cL,.int .i64 s.day.plan.bins,.int .i64 s.day.plan.passes,.slice AO s.day.plan.order.length cO,.slice AF s.day.fwds.length cF,.slice AH s.day.held.length cH,.int .i64 s.day.size,.slice AN s.net.length cN] W→Calls aB 93 #[.string f] W fun e w'=>e=.returned (.int .i64 (Am f))∧Below W.heap.size W w'):=fun W h0=>have hW:=h0.lay;by refine(Gh f W hz).mono ?_;refine' ZP;exact z6
 have HC:Hid (∀W,stS w w.heap.size 36 #[.slice AL s.letters.length cL,.int .i64 s.day.plan.bins,.int .i64 s.day.plan.passes,.slice AO s.day.plan.order.length cO,.slice AF s.day.fwds.length cF,.slice AH s.day.held.length cH,.int .i64 s.day.size,.slice AN s.net.length cN] W→Calls aB 104 #[.agg #[.int .i64 s.day.plan.bins,.int .i64 s.day.plan.passes,.slice AO s.day.plan.order.length cO],.slice AL s.letters.length cL,.int .i64 (Am f)] W fun e w'=>∃v',e=.returned v'∧own 3 W.heap.size w' v' ((Gs s.day.plan s.letters (Am f)).map fun n:Nat=>(n:Int))∧Below W.heap.size W w'):=fun W h0=>have hW:=h0.lay;AiV _ _ s.day.plan s.letters (Am f) W (om.on hW) (hS.l.rd.on hW)
 have pw:=Oy s.day.plan s.letters (Am f);have HNU:=aA (fun(v:Value) (W:World) (h:rd W W.heap.size v ((Gs s.day.plan s.letters (Am f)).map fun n:Nat=>(n:Int)))=>AfI v (Gs s.day.plan s.letters (Am f)) W h ZA (fun n hn=>by have:=pw.2 n hn;omega));have kQ:Hid (Vs s.day.plan s.letters (Am f)=if(Gs s.day.plan s.letters (Am f)).length=0 then⟨#[]⟩else Cb ((Gs s.day.plan s.letters (Am f)).map Cl)):=rfl;have qB:=Aj4 (Gs s.day.plan s.letters (Am f)) ZA (fun n hn=>by have:=pw.2 n hn;omega);refine' ZCx;refine' ZBZ;refine' ZA1;clear hz hi om;have dy:=aA (fun W=>Lt (decide (0<(Gs s.day.plan s.letters (Am f)).length)) (Cb ((Gs s.day.plan s.letters (Am f)).map Cl)) W ZA (fun _=>qB.1));rw[Aw8 kQ.out]at dy;generalize Vs s.day.plan s.letters (Am f)=LT at *;generalize Gs s.day.plan s.letters (Am f)=L at *;generalize Am f=k at *;refine' ZAP;refine' ZTM;refine' ZAQ;go_region_held3 (fun W=>stS w w.heap.size 36 #[.slice AL s.letters.length cL,.int .i64 s.day.plan.bins,.int .i64 s.day.plan.passes,.slice AO s.day.plan.order.length cO,.slice AF s.day.fwds.length cF,.slice AH s.day.held.length cH,.int .i64 s.day.size,.slice AN s.net.length cN] W) (first|exact ao|exact k2|exact k1|fail) (first|(go_at_call 93;first|((with_reducible refine(HI.out _ ZGH).mono ?_);refine' YW;have k1:=stS.below ZGH z1)|fail)|(go_at_call 104;first|((with_reducible refine(HC.out _ (by first|exact k1|exact ao)).mono ?_);rintro e u2 ⟨v5,rfl,o5,z2⟩;have k2:=stS.below (by first|exact k1|exact ao) z2;obtain⟨A5,n5,c5,rfl,ym,_,_,_⟩:=o5.rd;have EH:n5=L.length:=(by rw[ym,bF]);subst EH;have O5:=aA o5;clear o5 ym)|fail)|fail)
 all_goals
  have DA:=O5.out.rd;have KP:=aA (HNU.out _ _ DA);clear DA
  go_wp2_with (first|(go_at_call 105;refine KP.out.mono ?_;refine' YI;have k3:=k2.below z3)|(refine' ZGI))
 all_goals have K:=aA k3.lay;exact ZB6
theorem AqX(R:Nat→Prop)(vL vO vF vH vN s f B g c w)(hS:stN R w vL vO vF vH vN s)(hf:own 9 B w (.slice (some ⟨g,0,none⟩) 1 c) [f])(hz:f.size≤maxLen)(hk:Be s.day.fwds=true):
 Calls aB 48 #[stV vL vO vF vH vN s,.string Cc,.slice (some ⟨g,0,none⟩) 1 c] w fun e w'=>e=.returned (.string (Em (Nv s.day.fwds f)))∧Below w.heap.size w w':=by
 refine' ZA0;show Calls aB _ #[.agg #[.slice AL s.letters.length cL,.int .i64 s.day.plan.bins,.int .i64 s.day.plan.passes,.slice AO s.day.plan.order.length cO,.slice AF s.day.fwds.length cF,.slice AH s.day.held.length cH,.int .i64 s.day.size,.slice AN s.net.length cN],.string Cc,.slice (some ⟨g,0,none⟩) 1 c] w _;refine' YN;have HC:Hid (∀W,stS w w.heap.size 36 #[.slice AL s.letters.length cL,.int .i64 s.day.plan.bins,.int .i64 s.day.plan.passes,.slice AO s.day.plan.order.length cO,.slice AF s.day.fwds.length cF,.slice AH s.day.held.length cH,.int .i64 s.day.size,.slice AN s.net.length cN] W→Calls aB 106 #[.slice AF s.day.fwds.length cF,.string f] W fun e w'=>e=.returned (.tuple #[.string (Go.Proofs.YtfadhdacjpmmeaaGreatDoor.resolve s.day.fwds f).1,.int .i64 ((Go.Proofs.YtfadhdacjpmmeaaGreatDoor.resolve s.day.fwds f).2.1:Nat),.bool (Go.Proofs.YtfadhdacjpmmeaaGreatDoor.resolve s.day.fwds f).2.2])∧Below W.heap.size W w'):=fun W h0=>have hW:=h0.lay;AbP _ s.day.fwds f W (hS.f.rd.on hW) hz hk
 have h31:=Uw (c:=f) hk;have h7:=Sz (c:=f) hk;have xo:Hid (Nv s.day.fwds f=if(Go.Proofs.YtfadhdacjpmmeaaGreatDoor.resolve s.day.fwds f).2.2 then(Go.Proofs.YtfadhdacjpmmeaaGreatDoor.resolve s.day.fwds f).1++⟨#[32]⟩++Cl (Go.Proofs.YtfadhdacjpmmeaaGreatDoor.resolve s.day.fwds f).2.1 else⟨#[]⟩):=rfl;refine' ZTN;refine' ZA1;clear hz hk;generalize Nv s.day.fwds f=RT at *;generalize(Go.Proofs.YtfadhdacjpmmeaaGreatDoor.resolve s.day.fwds f).2.2=R3 at *;generalize(Go.Proofs.YtfadhdacjpmmeaaGreatDoor.resolve s.day.fwds f).2.1=R2 at *;generalize(Go.Proofs.YtfadhdacjpmmeaaGreatDoor.resolve s.day.fwds f).1=R1 at *;have rV:=C9 (n:=R2) ZA;have rW:=aA (fun W=>Hy R2 W ZA);have dy:=aA (fun W=>Lt R3 (R1++⟨#[32]⟩++Cl R2) W ZBT (fun _=>ZAz));rw[←xo.out]at dy;generalize Cl R2=D at *;have a1:¬9223372036854775807<R1.size+1:=ZA
 have a2:¬9223372036854775807<R1.size+1+D.size:=ZA
 refine' ZAP;refine' ZTO;refine' ZAQ;go_region_held3 (fun W=>stS w w.heap.size 36 #[.slice AL s.letters.length cL,.int .i64 s.day.plan.bins,.int .i64 s.day.plan.passes,.slice AO s.day.plan.order.length cO,.slice AF s.day.fwds.length cF,.slice AH s.day.held.length cH,.int .i64 s.day.size,.slice AN s.net.length cN] W) (first|exact ao|exact k1|fail) (first|(go_at_call 106;refine' ZGG)|fail)
 all_goals refine' ZJr
 all_goals have K:=aA k2.lay;exact ZB6
theorem Ba8(R:Nat→Prop)(vL vO vF vH vN s f B g c w)(hS:stN R w vL vO vF vH vN s)(hf:own 9 B w (.slice (some ⟨g,0,none⟩) 1 c) [f])(hz:f.size≤maxLen)(hi:Bj s.day.plan.bins∧Bj s.day.plan.passes∧Bj s.day.size)(hk:Be s.day.fwds=true):
 Calls aB 48 #[stV vL vO vF vH vN s,.string Dl,.slice (some ⟨g,0,none⟩) 1 c] w fun e w'=>e=.returned (.string (Em (Ad4 s.day f)))∧Below w.heap.size w w':=by
 refine' ZA0;show Calls aB _ #[.agg #[.slice AL s.letters.length cL,.int .i64 s.day.plan.bins,.int .i64 s.day.plan.passes,.slice AO s.day.plan.order.length cO,.slice AF s.day.fwds.length cF,.slice AH s.day.held.length cH,.int .i64 s.day.size,.slice AN s.net.length cN],.string Dl,.slice (some ⟨g,0,none⟩) 1 c] w _;refine' YN;refine' ZJo;have HC:Hid (∀W,stS w w.heap.size 36 #[.slice AL s.letters.length cL,.int .i64 s.day.plan.bins,.int .i64 s.day.plan.passes,.slice AO s.day.plan.order.length cO,.slice AF s.day.fwds.length cF,.slice AH s.day.held.length cH,.int .i64 s.day.size,.slice AN s.net.length cN] W→Calls aB 107 #[.agg #[.int .i64 s.day.plan.bins,.int .i64 s.day.plan.passes,.slice AO s.day.plan.order.length cO,.slice AF s.day.fwds.length cF,.slice AH s.day.held.length cH,.int .i64 s.day.size],.string f] W fun e w'=>e=.returned (.tuple #[.string (Nh s.day f).1,.string (Nh s.day f).2])∧Below W.heap.size W w'):=fun W h0=>have hW:=h0.lay;ApT _ s.day f W (xq.on hW) hz
 have h7:=AbA (c:=f) hk;have xo:Hid (Ad4 s.day f=if(Nh s.day f).2.size=0 then⟨#[]⟩else(Nh s.day f).1++⟨#[32]⟩++(Nh s.day f).2):=rfl;refine' ZTP;refine' ZJs;refine' ZA1;clear hz hk hi xq;generalize Ad4 s.day f=RT at *;generalize(Nh s.day f).2=R2 at *;generalize(Nh s.day f).1=R1 at *;have a1:¬9223372036854775807<R1.size+1:=ZA
 have a2:¬9223372036854775807<R1.size+1+R2.size:=ZA
 refine' ZAP;refine' ZTQ;refine' ZAQ;go_region_held3 (fun W=>stS w w.heap.size 36 #[.slice AL s.letters.length cL,.int .i64 s.day.plan.bins,.int .i64 s.day.plan.passes,.slice AO s.day.plan.order.length cO,.slice AF s.day.fwds.length cF,.slice AH s.day.held.length cH,.int .i64 s.day.size,.slice AN s.net.length cN] W) (first|exact ao|exact k1|fail) (first|(go_at_call 107;refine' ZGG)|fail)
 all_goals
  cases hq:(R2.toList==[])
  ·have bj:¬R2.size=0:=fun h=>by rw[BbU h]at hq;cases hq
   have dy:=aA (fun W=>D4 (R1++⟨#[32]⟩++R2) W ZBT);have yq:Hid (Em RT=R1++⟨#[32]⟩++R2++⟨#[10]⟩):=by show _=_;rw[xo.out,aL bj];exact Fh ZAz
   clear bj
   refine' ZGF;exact⟨B8 (by rw[yq.out]),K.out⟩
  ·have ah:R2.size=0:=by rw[bR,dE]at hq;have:=aT List.length hq;exact zT
   have dy:=aA (fun W=>Fa (R1++⟨#[32]⟩++R2) W);have yq:Hid (Em RT=⟨#[110,111,10]⟩):=by show _=_;rw[xo.out,aP ah];exact Jw
   clear ah
   refine' ZGF;exact⟨B8 (by rw[yq.out]),K.out⟩
end Go.Proofs.YtfadhdacjpmmeaaGreatDoor
