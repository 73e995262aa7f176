/- Parts. -/
import Derived.Test.YtfadhdacjpmmeaaGreatDoorQ19
import Derived.Shelf.SlSortCmp.KitK
set_option linter.unusedVariables false
set_option linter.unusedSimpArgs false
namespace Go.Proofs.YtfadhdacjpmmeaaGreatDoor
set_option maxRecDepth 1000000
set_option maxHeartbeats 16000000
open Go.IntKind renaming i64→aI
open Go.Obj renaming cells→aC
open Go.Proofs.Tryz renaming prog→aB
open Go.Value renaming string→aK,int→bC
open Go.Shelf Go.RowKit Go.Lib Go.Sort
variable{P:Program}{α:Type}[Inhabited α]
theorem Af5(L:SlLaysF0.n20 P Tryz.laysIns_ren)(F:P.funcs[(368:Nat)]? =some Tryz.f368)(k)(aE:∀w,(isAgg 119).run P w=.ok true w)(zE:∀w,(Go.sizeOf 119).run P w=.ok k w)(enc:α→List Value)(g:Nat)(cb)(blk av cap a b n:Nat)(d0 d w0 w)
 (R:RowK enc k w0 blk av d0) (hs:d0.size=d.size) (S:SWK enc k w0 blk av d w) (ou:a+n≤b) (hb:b+n≤d.size) (ct:d.size<4611686018427387904):
 Calls P 368 #[.slice (some ⟨blk,av,none⟩) d.size cap,.int .i64 a,.int .i64 b,.int .i64 n,.func (.func g) #[] cb] w fun e w'=>e=.returned (.tuple #[])∧∃d',AeE a b n d d'∧SWK enc k w0 blk av d' w':=by
 refine' ZFp;have a0:∀w,(isAgg 0).run P w=_:=L.a0;have z0:∀w,(Go.sizeOf 0).run P w=_:=L.z0;have v0:∀w,(zeroValue 0).run P w=_:=L.v0;have t3:P.underlying 3=_:=L.t3;have a3:∀w,(isAgg 3).run P w=_:=L.a3;have z3:∀w,(Go.sizeOf 3).run P w=_:=L.z3;have v3:∀w,(zeroValue 3).run P w=_:=L.v3;have t4:P.underlying 4=_:=L.t4;have a4:∀w,(isAgg 4).run P w=_:=L.a4;have z4:∀w,(Go.sizeOf 4).run P w=_:=L.z4;have v4:∀w,(zeroValue 4).run P w=_:=L.v4;refine' ZFq;have a22:∀w,(isAgg 27).run P w=_:=L.a22;have z22:∀w,(Go.sizeOf 27).run P w=_:=L.z22;have v22:∀w,(zeroValue 27).run P w=_:=L.v22;have t25:P.underlying 207=_:=L.t25;have a25:∀w,(isAgg 207).run P w=_:=L.a25;have z25:∀w,(Go.sizeOf 207).run P w=_:=L.z25;have v25:∀w,(zeroValue 207).run P w=_:=L.v25;have S0:Aside (SWK enc k w0 blk av d w):=S;clear S;go_enter F,Tryz.ntmps368;go_wp2
 go_loopg [10] n (fun kx FE wr=>∃(t:Nat) (dk:Array α),FE=.int .i64 t∧t≤n∧n - t≤kx∧dk.size=d.size∧Aside (SWK enc k w0 blk av dk wr)∧Aside (AeE a b t d dk))
 case atStart=>exact⟨0,d,rfl,aM _,aD _,rfl,S0,AeE.zero a b d⟩
 case round=>
  clear S0;obtain⟨t,dk,rfl,FF,FG,kN,S1,Q1⟩:=hrel;by_cases ab:t<n
  ·have pV:(t:Int)<(n:Int):=ZA
   have rt:aI.wrap ((t:Int)+1)=(t:Int)+1:=ZY
   have ea44:((a:Int)+(t:Int)).toNat=a+t:=ZA
   have pa44:(0:Int)≤(a:Int)+(t:Int):=ZA
   have ba44:(a:Int)+(t:Int)<(d.size:Int):=ZA
   have ra44:aI.wrap ((a:Int)+(t:Int))=(a:Int)+(t:Int):=ZY
   have ec44:((b:Int)+(t:Int)).toNat=b+t:=ZA
   have pc44:(0:Int)≤(b:Int)+(t:Int):=ZA
   have bc44:(b:Int)+(t:Int)<(d.size:Int):=ZA
   have rc44:aI.wrap ((b:Int)+(t:Int))=(b:Int)+(t:Int):=ZY
   have S2:Aside (SWK enc k w0 blk av (swp dk (a+t) (b+t)) ((wr.drew.setCells blk (av+(a+t)*k) (enc dk[b+t]!)).setCells blk (av+(b+t)*k) (enc dk[a+t]!))):=S1.out.swapped R (a+t) (b+t) ZA ZA;have FH:=S1.out.ld1 R ZA P (a+t) ZA;have FI:=S1.out.ld1 R ZA P (b+t) ZA;have FJ:=S1.out.st1 R ZA P (a+t) ZA dk[b+t]!;have yT:=S1.out.st2 R ZA P (a+t) (b+t) ZA ZA dk[b+t]! dk[a+t]!;have PD:(enc dk[a+t]!).length=k:=R.hk _;have PE:(enc dk[b+t]!).length=k:=R.hk _;generalize enc dk[a+t]! =PF at S2 FH yT PD;generalize enc dk[b+t]! =PG at S2 FI FJ yT PE;clear S1
   refine' ZC;go_big_region_o
   all_goals
    clear FH FI FJ yT;generalize(wr.drew.setCells blk (av+(a+t)*k) PG).setCells blk (av+(b+t)*k) PF=w2 at S2⊢;go_wp2
    go_roundg (n - (t+1))
    case measure=>omega
    case rel=>exact⟨t+1,swp dk (a+t) (b+t),ZJ,ab,aD _,by rw[size_swp];exact kN,S2,Q1.out.step ZA ZA⟩
  ·have pV:¬(t:Int)<(n:Int):=ZA
   obtain rfl:t=n:=ZA
   go_wp2
   go_end0
   exact⟨rfl,dk,Q1.out,S1.out⟩
theorem AoG(L:SlLaysF0.n20 P Tryz.laysIns_ren)(F0:P.funcs[(368:Nat)]? =some Tryz.f368)(F:P.funcs[(351:Nat)]? =some Tryz.f351)(k)(aE:∀w,(isAgg 119).run P w=.ok true w)(zE:∀w,(Go.sizeOf 119).run P w=.ok k w)(enc:α→List Value)(g:Nat)(cb blk av cap a m b d0 d w0 w)
 (R:RowK enc k w0 blk av d0) (hs:d0.size=d.size) (S:SWK enc k w0 blk av d w) (xK:a<m) (tK:m<b) (hb:b≤d.size) (ct:d.size<4611686018427387904):
 Calls P 351 #[.slice (some ⟨blk,av,none⟩) d.size cap,.int .i64 a,.int .i64 m,.int .i64 b,.func (.func g) #[] cb] w fun e w'=>e=.returned (.tuple #[])∧∃d',Jq a m b d d'∧SWK enc k w0 blk av d' w':=by
 refine' ZFp;have a0:∀w,(isAgg 0).run P w=_:=L.a0;have z0:∀w,(Go.sizeOf 0).run P w=_:=L.z0;have v0:∀w,(zeroValue 0).run P w=_:=L.v0;have t3:P.underlying 3=_:=L.t3;have a3:∀w,(isAgg 3).run P w=_:=L.a3;have z3:∀w,(Go.sizeOf 3).run P w=_:=L.z3;have v3:∀w,(zeroValue 3).run P w=_:=L.v3;have t4:P.underlying 4=_:=L.t4;have a4:∀w,(isAgg 4).run P w=_:=L.a4;have z4:∀w,(Go.sizeOf 4).run P w=_:=L.z4;have v4:∀w,(zeroValue 4).run P w=_:=L.v4;refine' ZFq;have a22:∀w,(isAgg 27).run P w=_:=L.a22;have z22:∀w,(Go.sizeOf 27).run P w=_:=L.z22;have v22:∀w,(zeroValue 27).run P w=_:=L.v22;have t25:P.underlying 207=_:=L.t25;have a25:∀w,(isAgg 207).run P w=_:=L.a25;have z25:∀w,(Go.sizeOf 207).run P w=_:=L.z25;have v25:∀w,(zeroValue 207).run P w=_:=L.v25;have e0:∀args w,(callFunc 368 args).run P w=.ok (.enter 368 args) w:=iC F0 ZB rfl;have HC:Aside (∀(a b n:Nat) (d:Array α) (w:World),d0.size=d.size→SWK enc k w0 blk av d w→a+n≤b→b+n≤d.size→d.size<4611686018427387904→Calls P 368 #[.slice (some ⟨blk,av,none⟩) d.size cap,.int .i64 a,.int .i64 b,.int .i64 n,.func (.func g) #[] cb] w fun e w'=>e=.returned (.tuple #[])∧∃d',AeE a b n d d'∧SWK enc k w0 blk av d' w'):=
  fun a b n d w h1 h2 h3 h4 h5=>Af5 L F0 k aE zE enc g cb blk av cap a b n d0 d w0 w R h1 h2 h3 h4 h5
 have S0:Aside (SWK enc k w0 blk av d w):=S;clear S;have r1:aI.wrap ((m:Int) - (a:Int))=((m - a:Nat):Int):=ZY
 have r2:aI.wrap ((b:Int) - (m:Int))=((b - m:Nat):Int):=ZY
 go_enter F,Tryz.ntmps351;go_wp2;clear r1 r2
 go_loopg [10,11] (b - a) (fun kx FE PH wr=>∃(i j:Nat) (dk:Array α),FE=.int .i64 i∧PH=.int .i64 j∧1≤i∧1≤j∧i≤m∧m+j≤d.size∧i+j≤kx∧dk.size=d.size∧Aside (SWK enc k w0 blk av dk wr)∧Aside (Mp m (AgE a m b d) d.size i j dk))
 case atStart=>exact⟨m - a,b - m,d,rfl,rfl,ZA,ZA,ZA,ZA,ZA,rfl,S0,Mp.start ZA ZA hb⟩
 case round=>
  clear S0;obtain⟨i,j,dk,rfl,rfl,jO,FK,sg,FL,FG,kN,S1,Q1⟩:=hrel;have r3:aI.wrap ((m:Int) - (i:Int))=((m - i:Nat):Int):=ZY
  by_cases bj:i=j
  ·subst bj
   have h:=HC.out (m - i) m i dk wr ZA S1.out ZA ZA ZA;rw[kN]at h;have H:=aA h;clear h
   go_wp2_with (go_at_call 368;refine H.out.mono ?_;rintro e w1 ⟨rfl,d1,q1,s1⟩)
   go_end0
   exact⟨rfl,d1,Bb3 ZA ZA (Q1.out.eq q1),s1⟩
  ·have xw:¬(i:Int)=(j:Int):=ZA
   by_cases FM:j<i
   ·have PI:(j:Int)<(i:Int):=ZA
    have h:=HC.out (m - i) m j dk wr ZA S1.out ZA ZA ZA;rw[kN]at h;have H:=aA h;clear h;have r4:aI.wrap ((i:Int) - (j:Int))=((i - j:Nat):Int):=ZY
    refine' ZQy;have Q2:Aside (Mp m (AgE a m b d) d.size (i - j) j d1):=Q1.out.gt FM q1;clear s1 q1
    go_roundg (i - j+j)
    case measure=>omega
    case rel=>exact⟨i - j,j,d1,rfl,rfl,ZA,FK,ZA,FL,aD _,tt,S2,Q2⟩
   ·have PI:¬(j:Int)<(i:Int):=ZA
    have h:=HC.out (m - i) (m+j - i) i dk wr ZA S1.out ZA ZA ZA;rw[kN]at h;have H:=aA h;clear h;have r4:aI.wrap ((j:Int) - (i:Int))=((j - i:Nat):Int):=ZY
    have r5:aI.wrap ((m:Int)+(j:Int))=(m:Int)+(j:Int):=ZY
    have r6:aI.wrap ((m:Int)+(j:Int) - (i:Int))=((m+j - i:Nat):Int):=ZY
    refine' ZQy;have Q2:Aside (Mp m (AgE a m b d) d.size i (j - i) d1):=Q1.out.lt ZA q1;clear s1 q1
    go_roundg (i+(j - i))
    case measure=>omega
    case rel=>exact⟨i,j - i,d1,rfl,rfl,jO,ZA,sg,ZA,aD _,tt,S2,Q2⟩
variable{P:Program}{α:Type}[Inhabited α]
structure UintFacts (P:Program):Prop where
 t:P.underlying 229=some (TypeDesc.int IntKind.u64)
 a:∀w,(isAgg 229).run P w=.ok false w
 z:∀w,(Go.sizeOf 229).run P w=.ok 1 w
 v:∀w,(zeroValue 229).run P w=.ok (bC IntKind.u64 0) w
theorem V3{i j n:Nat}(hi:i≤n)(hj:j≤n)(hn:n<4611686018427387904):aI.wrap ((i:Int)+(j:Int))=(i:Int)+(j:Int)∧IntKind.u64.wrap ((i:Int)+(j:Int))=(i:Int)+(j:Int)∧aI.wrap (((i:Int)+(j:Int))/2)=(((i+j)/2:Nat):Int)∧((i:Int)+(j:Int))/2=(((i+j)/2:Nat):Int):=by refine⟨ZY,ZCR,ZY,ZA⟩
theorem Mrg.kept{α:Type}[Inhabited α]{lt:α→α→Bool}{G:α→α→Prop}{m e b d d'}(h:Mrg lt G m e b d)(hk:∀x,m≤x→d'[x]! =d[x]!)(he:m≤e):Mrg lt G m e b d':=
 ⟨fun i j h1 h2 h3=>by rw[hk i h1,hk j ZA];exact h.l i j h1 h2 h3,fun i j h1 h2 h3=>by rw[hk i ZA,hk j ZA];exact h.r i j h1 h2 h3,
   fun i j h1 h2 h3 h4=>by rw[hk i h1,hk j ZA];exact h.g i j h1 h2 h3 h4⟩
theorem AiO(L:SlLaysF0.n20 P Tryz.laysIns_ren)(U:UintFacts P)(F0:P.funcs[(368:Nat)]? =some Tryz.f368)(F1:P.funcs[(351:Nat)]? =some Tryz.f351)(F:P.funcs[(315:Nat)]? =some Tryz.f315)(k)(aE:∀w,(isAgg 119).run P w=.ok true w)(zE:∀w,(Go.sizeOf 119).run P w=.ok k w)(enc:α→List Value)(cf:α→α→Int)(lt:α→α→Bool)(G:α→α→Prop)(g:Nat)(cb blk av cap d0 w0)
 (eg:∀args w,(callFunc g args).run P w=.ok (.enter g args) w) (pQ:CmpLays P g cb enc k cf blk av d0.size w0) (R:RowK enc k w0 blk av d0) (hw:SWO lt) (hG:∀x y,G x y→(cf y x<0↔lt y x=true)) (ct:d0.size<4611686018427387904):
 ∀(N a m b:Nat) (d:Array α) (w:World),b - a≤N→d.size=d0.size→SWK enc k w0 blk av d w→a<m→m<b→b≤d.size→Mrg lt G a m b d→
 Calls P 315 #[.slice (some ⟨blk,av,none⟩) d.size cap,.int .i64 a,.int .i64 m,.int .i64 b,.func (.func g) #[] cb] w fun e w'=>e=.returned (.tuple #[])∧∃d',(PermIn a b d d'∧SortedIn lt a b d')∧SWK enc k w0 blk av d' w':=by
 refine' ZFp;have a0:∀w,(isAgg 0).run P w=_:=L.a0;have z0:∀w,(Go.sizeOf 0).run P w=_:=L.z0;have v0:∀w,(zeroValue 0).run P w=_:=L.v0;have t3:P.underlying 3=_:=L.t3;have a3:∀w,(isAgg 3).run P w=_:=L.a3;have z3:∀w,(Go.sizeOf 3).run P w=_:=L.z3;have v3:∀w,(zeroValue 3).run P w=_:=L.v3;have t4:P.underlying 4=_:=L.t4;have a4:∀w,(isAgg 4).run P w=_:=L.a4;have z4:∀w,(Go.sizeOf 4).run P w=_:=L.z4;have v4:∀w,(zeroValue 4).run P w=_:=L.v4;refine' ZFq;have a22:∀w,(isAgg 27).run P w=_:=L.a22;have z22:∀w,(Go.sizeOf 27).run P w=_:=L.z22;have v22:∀w,(zeroValue 27).run P w=_:=L.v22;have t25:P.underlying 207=_:=L.t25;have a25:∀w,(isAgg 207).run P w=_:=L.a25;have z25:∀w,(Go.sizeOf 207).run P w=_:=L.z25;have v25:∀w,(zeroValue 207).run P w=_:=L.v25;have tU:P.underlying 229=_:=U.t;have e1:∀args w,(callFunc 351 args).run P w=.ok (.enter 351 args) w:=iC F1 ZB rfl;have e2:∀args w,(callFunc 315 args).run P w=.ok (.enter 315 args) w:=iC F ZB rfl;have sX:Aside (∀(a m b:Nat) (d:Array α) (w:World),d0.size=d.size→SWK enc k w0 blk av d w→a<m→m<b→b≤d.size→Calls P 351 #[.slice (some ⟨blk,av,none⟩) d.size cap,.int .i64 a,.int .i64 m,.int .i64 b,.func (.func g) #[] cb] w fun e w'=>e=.returned (.tuple #[])∧∃d',Jq a m b d d'∧SWK enc k w0 blk av d' w'):=
  fun a m b d w h1 h2 h3 h4 h5=>AoG L F0 F1 k aE zE enc g cb blk av cap a m b d0 d w0 w R h1 h2 h3 h4 h5 ZA
 have HC:Aside (CmpLays P g cb enc k cf blk av d0.size w0):=pQ;have HW:Aside (SWO lt):=hw;have HG:Aside (∀x y,G x y→(cf y x<0↔lt y x=true)):=hG;clear pQ hw hG;intro N
 induction N with
 |zero=>intro a m b d w h1 h2 h3 h4 h5;omega
 |succ N ih=>
  intro a m b d w hN qt S xK tK hb M;have hs:d0.size=d.size:=qt.symm;clear qt;have HI:Aside _:=ih;clear ih;have S0:Aside (SWK enc k w0 blk av d w):=S;have M0:Aside (Mrg lt G a m b d):=M;clear S M;have kN:d.size<4611686018427387904:=ZA
  have r1:aI.wrap ((m:Int) - (a:Int))=(m:Int) - (a:Int):=ZY
  have r2:aI.wrap ((b:Int) - (m:Int))=(b:Int) - (m:Int):=ZY
  go_enter F,Tryz.ntmps315;by_cases sY:m=a+1
  ·have aw:(m:Int) - (a:Int)=1:=ZA
   have hma:m≤a+1:=ZA
   have tg:Aside (m=a+1):=sY;clear sY;go_wp2;clear r1 r2
   go_loopg [10,11] (b - m) (fun kx FE PH wr=>∃(i j:Nat),FE=.int .i64 i∧PH=.int .i64 j∧m≤i∧i≤j∧j≤b∧j - i≤kx∧Aside (SWK enc k w0 blk av d wr)∧Aside (i=m∨lt d[i - 1]! d[a]! =true)∧Aside (j=b∨lt d[j]! d[a]! =false))
   case atStart=>exact⟨m,b,rfl,rfl,aD _,ZA,aD _,aD _,S0,aZ rfl,aZ rfl⟩
   case round=>
    clear S0;obtain⟨i,j,rfl,rfl,uJ,pU,hjb,FG,S1,hL,hR⟩:=hrel;by_cases ab:i<j
    ·refine' ZQz;have ea:((a:Int)).toNat=a:=ZA
     have pa:(0:Int)≤(a:Int):=ZA
     have ba:(a:Int)<(d.size:Int):=ZA
     have wa:aI.wrap ((a:Int))=(a:Int):=ZY
     have rh:aI.wrap ((h:Int)+1)=(h:Int)+1:=ZY
     have hg:=HG.out _ _ (M0.out.g a h (aD _) ZA ZA ZA);by_cases hv:cf d[h]! d[a]! <0
     ·have HL:Aside (lt d[h+1 - 1]! d[a]! =true):=hg.1 hv
      refine' ZQ0;have ub:decide (cf d[h]! d[a]! <0)=true:=aJ hv;refine' ZQ1;go_roundg (j - (h+1))
      case measure=>omega
      case rel=>exact⟨h+1,j,ZJ,rfl,ZA,ZA,hjb,aD _,S2,gQ HL.out,hR⟩
     ·have HL:Aside (lt d[h]! d[a]! =false):=by
       show _=_;cases hq:lt d[h]! d[a]! with
       |false=>rfl
       |true=>exact absurd (hg.2 hq) hv
      refine' ZQ0;have ub:decide (cf d[h]! d[a]! <0)=false:=aO hv;refine' ZQ1;go_roundg (h - i)
      case measure=>omega
      case rel=>exact⟨i,h,rfl,rfl,uJ,Io,ZA,aD _,S2,hL,gQ HL.out⟩
    ·obtain rfl:i=j:=ZA
     obtain⟨ip,rfl⟩:∃ip,i=ip+1:=⟨i - 1,ZA⟩;have hwp:aI.wrap (ip:Int)=(ip:Int):=ZY
     clear ab;go_wp2
     go_loopg [13] (ip - a) (fun kx s13 wr=>∃(kk:Nat) (dk:Array α),s13=.int .i64 kk∧a≤kk∧kk≤ip∧ip - kk≤kx∧dk.size=d.size∧Aside (SWK enc k w0 blk av dk wr)∧Aside (Jq a (a+1) (kk+1) d dk))
     case atStart=>exact⟨a,d,rfl,aD _,ZA,aD _,rfl,S1,(Jq.none ZA).2⟩
     case round=>
      clear S1;obtain⟨kk,dk,rfl,hak,bc,QM,lg,S1,Q1⟩:=hrel;by_cases ab:kk<ip
      ·have pV:(kk:Int)<(ip:Int):=ZA
       have ek:((kk:Int)).toNat=kk:=ZA
       have pk:(0:Int)≤(kk:Int):=ZA
       have bk:(kk:Int)<(d.size:Int):=ZA
       have wk:aI.wrap ((kk:Int))=(kk:Int):=ZY
       have el:((kk:Int)+1).toNat=kk+1:=ZA
       have pl:(0:Int)≤(kk:Int)+1:=ZA
       have bl:(kk:Int)+1<(d.size:Int):=ZA
       have wl:aI.wrap ((kk:Int)+1)=(kk:Int)+1:=ZY
       have S2:Aside (SWK enc k w0 blk av (swp dk (kk) (kk+1)) ((wr.drew.setCells blk (av+(kk)*k) (enc dk[kk+1]!)).setCells blk (av+(kk+1)*k) (enc dk[kk]!))):=S1.out.swapped R (kk) (kk+1) ZA ZA;have lA:=S1.out.ld1 R ZA P (kk) ZA;have lB:=S1.out.ld1 R ZA P (kk+1) ZA;have sA:=S1.out.st1 R ZA P (kk) ZA dk[kk+1]!;have sB:=S1.out.st2 R ZA P (kk) (kk+1) ZA ZA dk[kk+1]! dk[kk]!;have nA:(enc dk[kk]!).length=k:=R.hk _;have nB:(enc dk[kk+1]!).length=k:=R.hk _;generalize enc dk[kk]! =cI at S2 lA sB nA;generalize enc dk[kk+1]! =cJ at S2 lB sA sB nB;clear S1
       refine' ZC;go_big_region_o
       all_goals
        clear lA lB sA sB;generalize(wr.drew.setCells blk (av+kk*k) cJ).setCells blk (av+(kk+1)*k) cI=w2 at S2⊢;go_wp2
        go_roundg (ip - (kk+1))
        case measure=>omega
        case rel=>exact⟨kk+1,swp dk kk (kk+1),ZJ,ZA,ab,aD _,by rw[size_swp];exact lg,S2,Q1.out.up hak ZA⟩
      ·have pV:¬(kk:Int)<(ip:Int):=ZA
       obtain rfl:kk=ip:=ZA
       go_wp2
       refine' ZIw;have sY:=tg.out;subst sY;exact⟨rfl,dk,Mrg.left1 HW.out M0.out hb ZA hjb hL.out hR.out Q1.out,S1.out⟩
  ·have aw:¬(m:Int) - (a:Int)=1:=ZA
   have hz1b:((m:Int) - (a:Int)==1)=false:=beq_eq_false_iff_ne.2 aw;by_cases kC:b=m+1
   ·have aq:(b:Int) - (m:Int)=1:=ZA
    have hbm:b≤m+1:=ZA
    have kw:Aside (b=m+1):=kC;clear kC;go_wp2;clear r1 r2
    go_loopg [14,15] (m - a) (fun kx s14 s15 wr=>∃(i j:Nat),s14=.int .i64 i∧s15=.int .i64 j∧a≤i∧i≤j∧j≤m∧j - i≤kx∧Aside (SWK enc k w0 blk av d wr)∧Aside (i=a∨lt d[m]! d[i - 1]! =false)∧Aside (j=m∨lt d[m]! d[j]! =true))
    case atStart=>exact⟨a,m,rfl,rfl,aD _,ZA,aD _,aD _,S0,aZ rfl,aZ rfl⟩
    case round=>
     clear S0;obtain⟨i,j,rfl,rfl,hai,pU,FL,FG,S1,hL,hR⟩:=hrel;by_cases ab:i<j
     ·refine' ZQz;have em:((m:Int)).toNat=m:=ZA
      have pm:(0:Int)≤(m:Int):=ZA
      have bm:(m:Int)<(d.size:Int):=ZA
      have wm:aI.wrap ((m:Int))=(m:Int):=ZY
      have rh:aI.wrap ((h:Int)+1)=(h:Int)+1:=ZY
      have hg:=HG.out _ _ (M0.out.g h m ZA ZA (aD _) tK);by_cases hv:cf d[m]! d[h]! <0
      ·have HL:Aside (lt d[m]! d[h]! =true):=hg.1 hv
       refine' ZQ2;have ub:decide (cf d[m]! d[h]! <0)=true:=aJ hv;refine' ZQ3;go_roundg (h - i)
       case measure=>omega
       case rel=>exact⟨i,h,rfl,rfl,hai,Io,ZA,aD _,S2,hL,gQ HL.out⟩
      ·have HL:Aside (lt d[m]! d[h+1 - 1]! =false):=by
        show lt d[m]! d[h]! =_;cases hq:lt d[m]! d[h]! with
        |false=>rfl
        |true=>exact absurd (hg.2 hq) hv
       refine' ZQ2;have ub:decide (cf d[m]! d[h]! <0)=false:=aO hv;refine' ZQ3;go_roundg (j - (h+1))
       case measure=>omega
       case rel=>exact⟨h+1,j,ZJ,rfl,ZA,ZA,FL,aD _,S2,gQ HL.out,hR⟩
     ·obtain rfl:i=j:=ZA
      have pV:¬(i:Int)<(i:Int):=ZA
      clear ab;go_wp2
      go_loopg [17] (m - i) (fun kx s17 wr=>∃(kk:Nat) (dk:Array α),s17=.int .i64 kk∧i≤kk∧kk≤m∧kk - i≤kx∧dk.size=d.size∧Aside (SWK enc k w0 blk av dk wr)∧Aside (Jq kk m (m+1) d dk))
      case atStart=>exact⟨m,d,rfl,FL,aD _,aD _,rfl,S1,(Jq.none ZA).1⟩
      case round=>
       clear S1;obtain⟨kk,dk,rfl,IA,uI,QM,lg,S1,Q1⟩:=hrel;by_cases ab:i<kk
       ·have IB:(i:Int)<(kk:Int):=ZA
        obtain⟨kp,rfl⟩:∃kp,kk=kp+1:=⟨kk - 1,ZA⟩;have hltz3:(i:Int)<(kp:Int)+1:=ZA
        have el:((kp:Int)+1).toNat=kp+1:=ZA
        have pl:(0:Int)≤(kp:Int)+1:=ZA
        have bl:(kp:Int)+1<(d.size:Int):=ZA
        have wl:aI.wrap ((kp:Int)+1)=(kp:Int)+1:=ZY
        have ek:((kp:Int)).toNat=kp:=ZA
        have pk:(0:Int)≤(kp:Int):=ZA
        have bk:(kp:Int)<(d.size:Int):=ZA
        have wk:aI.wrap ((kp:Int))=(kp:Int):=ZY
        have S2:Aside (SWK enc k w0 blk av (swp dk (kp+1) (kp)) ((wr.drew.setCells blk (av+(kp+1)*k) (enc dk[kp]!)).setCells blk (av+(kp)*k) (enc dk[kp+1]!))):=S1.out.swapped R (kp+1) (kp) ZA ZA;have lA:=S1.out.ld1 R ZA P (kp+1) ZA;have lB:=S1.out.ld1 R ZA P (kp) ZA;have sA:=S1.out.st1 R ZA P (kp+1) ZA dk[kp]!;have sB:=S1.out.st2 R ZA P (kp+1) (kp) ZA ZA dk[kp]! dk[kp+1]!;have nA:(enc dk[kp+1]!).length=k:=R.hk _;have nB:(enc dk[kp]!).length=k:=R.hk _;generalize enc dk[kp+1]! =cI at S2 lA sB nA;generalize enc dk[kp]! =cJ at S2 lB sA sB nB;clear S1
        refine' ZC;go_big_region_o
        all_goals
         clear lA lB sA sB;generalize(wr.drew.setCells blk (av+(kp+1)*k) cJ).setCells blk (av+kp*k) cI=w2 at S2⊢;go_wp2
         go_roundg (kp - i)
         case measure=>omega
         case rel=>exact⟨kp,swp dk (kp+1) kp,ZJ,ZA,ZA,aD _,by rw[size_swp];exact lg,S2,Q1.out.down uI ZA⟩
       ·have IB:¬(i:Int)<(kk:Int):=ZA
        obtain rfl:kk=i:=ZA
        go_wp2
        refine' ZIw;have kC:=kw.out;subst kC;exact⟨rfl,dk,Mrg.right1 HW.out M0.out hb hai FL hL.out hR.out Q1.out,S1.out⟩
   ·have aq:¬(b:Int) - (m:Int)=1:=ZA
    have hz2b:((b:Int) - (m:Int)==1)=false:=beq_eq_false_iff_ne.2 aq;obtain⟨q1,q2,q3,q4⟩:=V3 (show a≤d.size by omega) (show b≤d.size by omega) kN;obtain⟨mid,wL⟩:∃mid,(a+b)/2=mid:=⟨_,rfl⟩;rw[wL]at q3 q4;have QN:Aside (mid=(a+b)/2):=wL.symm;have sh:a<mid:=ZA
    have nI:mid<b:=ZA
    obtain⟨lo,uc⟩:∃lo,lo=if mid<m then mid+m - b else a:=⟨_,rfl⟩;obtain⟨hi,ud⟩:∃hi,hi=if mid<m then mid else m:=⟨_,rfl⟩;have DE:Aside (lo=if mid<m then mid+m - b else a):=uc;have HHI:Aside (hi=if mid<m then mid else m):=ud;have r3:aI.wrap ((mid:Int)+(m:Int))=(mid:Int)+(m:Int):=ZY
    have r4:aI.wrap ((mid:Int)+(m:Int) - (b:Int))=(mid:Int)+(m:Int) - (b:Int):=ZY
    have r5:aI.wrap ((mid:Int)+(m:Int) - 1)=(mid:Int)+(m:Int) - 1:=ZY
    have LU:a≤lo∧lo≤hi∧hi≤m∧hi≤mid∧mid+m - b≤lo∧(∀c,lo≤c→c<hi→m≤mid+m - 1 - c∧mid+m - 1 - c<b):=by
     by_cases hc:mid<m
     ·rw[aP hc]at uc ud;exact ZQ4
     ·rw[aL hc]at uc ud;exact ZQ4
    obtain⟨u1,u2,u3,u4,u5,u6⟩:=LU;have U6:Aside (∀c,lo≤c→c<hi→m≤mid+m - 1 - c∧mid+m - 1 - c<b):=u6;have uV:(mid<m∧(mid:Int)+(m:Int) - (b:Int)=(lo:Int)∧(mid:Int)=(hi:Int))∨(¬mid<m∧(a:Int)=(lo:Int)∧(m:Int)=(hi:Int)):=by
     by_cases hc:mid<m
     ·rw[aP hc]at uc ud;exact aZ ⟨hc,ZA,ZA⟩
     ·rw[aL hc]at uc ud;exact gQ ⟨hc,ZA,ZA⟩
    clear uc ud u6;have fe:Aside _:=uV;have ax:(mid:Int)<(m:Int)∨¬(mid:Int)<(m:Int):=ZA
    clear uV wL;rcases ax with ax|ax
    all_goals
     go_wp2;clear r1 r2 r3 r4 r5 q1 q2 q3 q4
     go_loopg [20,21] (hi - lo) (fun kx s20 s21 wr=>∃(s r:Nat),s20=.int .i64 s∧s21=.int .i64 r∧lo≤s∧s≤r∧r≤hi∧r - s≤kx∧Aside (SWK enc k w0 blk av d wr)∧Aside (s=lo∨lt d[mid+m - 1 - (s - 1)]! d[s - 1]! =false)∧Aside (r=hi∨lt d[mid+m - 1 - r]! d[r]! =true))
     case atStart=>
      refine⟨lo,hi,?_,?_,aD _,u2,aD _,aD _,S0,aZ rfl,aZ rfl⟩
      ·rcases fe.out with⟨_,h1,h2⟩|⟨_,h1,h2⟩
       ·first|rw[h1]|omega
       ·first|rw[h1]|omega
      ·rcases fe.out with⟨_,h1,h2⟩|⟨_,h1,h2⟩
       ·first|rw[h2]|omega
       ·first|rw[h2]|omega
     case round=>
      clear S0;obtain⟨s,r,rfl,rfl,pR,hsr,hrh,FG,S1,hL,hR⟩:=hrel;by_cases ab:s<r
      ·have pV:(s:Int)<(r:Int):=ZA
       obtain⟨q1,q2,q3,q4⟩:=V3 (show s≤d.size by omega) (show r≤d.size by omega) kN;obtain⟨c,hh⟩:∃c,(s+r)/2=c:=⟨_,rfl⟩;rw[hh]at q3 q4;have Io:s≤c:=ZA
       have hh2:c<r:=ZA
       clear hh;obtain⟨v1,v2⟩:=U6.out c ZA ZA;obtain⟨pc,QO⟩:∃pc,mid+m - 1 - c=pc:=⟨_,rfl⟩;have oy:(mid:Int)+(m:Int) - 1 - (c:Int)=(pc:Int):=ZA
       have LV:Aside (mid+m - 1 - c=pc):=QO;rw[QO]at v1 v2;have rpc:aI.wrap ((mid:Int)+(m:Int) - 1 - (c:Int))=(pc:Int):=ZY
       clear QO;have eh:((pc:Int)).toNat=pc:=ZA
       have ph:(0:Int)≤(pc:Int):=ZA
       have bh:(pc:Int)<(d.size:Int):=ZA
       have wh:aI.wrap ((pc:Int))=(pc:Int):=ZY
       have ea:((c:Int)).toNat=c:=ZA
       have pa:(0:Int)≤(c:Int):=ZA
       have ba:(c:Int)<(d.size:Int):=ZA
       have wa:aI.wrap ((c:Int))=(c:Int):=ZY
       have rh:aI.wrap ((c:Int)+1)=(c:Int)+1:=ZY
       have hg:=HG.out _ _ (M0.out.g c pc ZA ZA v1 v2);by_cases hv:cf d[pc]! d[c]! <0
       ·have HL:Aside (lt d[mid+m - 1 - c]! d[c]! =true):=by show _=_;rw[LV.out];exact hg.1 hv
        refine' ZQ5;have ub:decide (cf d[pc]! d[c]! <0)=true:=aJ hv;refine' ZQ6;go_roundg (c - s)
        case measure=>omega
        case rel=>exact⟨s,c,rfl,rfl,pR,Io,ZA,aD _,S2,hL,gQ HL.out⟩
       ·have HL:Aside (lt d[mid+m - 1 - (c+1 - 1)]! d[c+1 - 1]! =false):=by
         show lt d[mid+m - 1 - c]! d[c]! =_;rw[LV.out];cases hq:lt d[pc]! d[c]! with
         |false=>rfl
         |true=>exact absurd (hg.2 hq) hv
        refine' ZQ5;have ub:decide (cf d[pc]! d[c]! <0)=false:=aO hv;refine' ZQ6;go_roundg (r - (c+1))
        case measure=>omega
        case rel=>exact⟨c+1,r,ZJ,rfl,ZA,ZA,hrh,aD _,S2,gQ HL.out,hR⟩
      ·obtain rfl:s=r:=ZA
       have pV:¬(s:Int)<(s:Int):=ZA
       have SP:Aside (Split lt a m b mid s d):=Split.of HW.out xK tK QN.out DE.out HHI.out M0.out pR hrh hL.out hR.out;obtain⟨en,QP⟩:∃en,mid+m - s=en:=⟨_,rfl⟩;have hez:(mid:Int)+(m:Int) - (s:Int)=(en:Int):=ZA
       have rez:aI.wrap ((mid:Int)+(m:Int) - (s:Int))=(en:Int):=ZY
       have LW:Aside (mid+m - s=en):=QP;have x1:=SP.out.em;have x2:=SP.out.eb;have x3:=SP.out.sa;have x4:=SP.out.sm;have x5:=SP.out.sd;rw[QP]at x1 x2;clear QP ab hL hR DE HHI U6;have sq:Aside (∀d1,Jq s m en d d1→d1.size=d.size∧PermIn a b d d1∧Mrg lt G a s mid d1∧Mrg lt G mid en b d1∧(∀i j,a≤i→i<mid→mid≤j→j<b→le' lt d1[i]! d1[j]!)):=fun d1 hr=>by have hv:=Split.halves HW.out M0.out SP.out (by rw[LW.out];exact hr);rw[LW.out]at hv;exact⟨hr.1,permIn_mono _ _ _ _ _ _ ZA ZA hb (hr.permIn ZA ZA ZA),hv.1,hv.2.1,hv.2.2⟩
       have tg:Aside (∀d1 w1,Jq s m en d d1→SWK enc k w0 blk av d1 w1→a<s→s<mid→Calls P 315 #[.slice (some ⟨blk,av,none⟩) d.size cap,.int .i64 a,.int .i64 s,.int .i64 mid,.func (.func g) #[] cb] w1 fun e w'=>e=.returned (.tuple #[])∧∃d',(PermIn a mid d1 d'∧SortedIn lt a mid d')∧SWK enc k w0 blk av d' w'):=fun d1 w1 hr hS h1 h2=>by obtain⟨z1,_,z3,_,_⟩:=sq.out d1 hr;have h:=HI.out a s mid d1 w1 ZA ZA hS h1 h2 ZA z3;rw[z1]at h;exact h
       have kw:Aside (∀d1 d3 w3,Jq s m en d d1→PermIn a mid d1 d3→SWK enc k w0 blk av d3 w3→mid<en→en<b→Calls P 315 #[.slice (some ⟨blk,av,none⟩) d.size cap,.int .i64 mid,.int .i64 en,.int .i64 b,.func (.func g) #[] cb] w3 fun e w'=>e=.returned (.tuple #[])∧∃d',(PermIn mid b d3 d'∧SortedIn lt mid b d')∧SWK enc k w0 blk av d' w'):=fun d1 d3 w3 hr hp hS h1 h2=>by obtain⟨z1,_,_,z4,_⟩:=sq.out d1 hr;have z3:d3.size=d.size:=hp.1.trans z1;have h:=HI.out mid en b d3 w3 ZA ZA hS h1 h2 ZA (z4.kept (fun x hx=>hp.2.1 x (gQ hx)) ZA);rw[z3]at h;exact h
       have AD:Aside (∀d1 d3 d4,Jq s m en d d1→PermIn a mid d1 d3→SortedIn lt a mid d3→PermIn mid b d3 d4→SortedIn lt mid b d4→PermIn a b d d4∧SortedIn lt a b d4):=fun d1 d3 d4 hr p1 t1 p2 t2=>by obtain⟨z1,z2,_,_,z5⟩:=sq.out d1 hr;have hJ:=Mrg.join (G:=G) ZA ZA ZA z5 p1 t1 p2 t2;exact⟨permIn_trans _ _ _ _ _ z2 hJ.1,hJ.2⟩
       have LX:Aside (∀d1,Jq s m en d d1→(s=mid∨s=a)→SortedIn lt a mid d1):=fun d1 hr h=>by
        obtain⟨_,_,z3,_,_⟩:=sq.out d1 hr;rcases h with h|h
        ·have:=z3.l;rwa [h]at this
        ·have:=z3.r;rwa [h]at this
       have LY:Aside (∀d1 d3,Jq s m en d d1→PermIn a mid d1 d3→(en=b∨en=mid)→SortedIn lt mid b d3):=fun d1 d3 hr hp h=>by
        obtain⟨_,_,_,z4,_⟩:=sq.out d1 hr;have z4:=z4.kept (fun x hx=>hp.2.1 x (gQ hx)) ZA;rcases h with h|h
        ·have:=z4.l;rwa [h]at this
        ·have:=z4.r;rwa [h]at this
       have QQ:Aside (¬(s<m∧m<en)→Jq s m en d d):=fun h=>by
        rcases(show s=m∨en=m by omega)with h|h
        ·rw[h];exact(Jq.none ZA).1
        ·rw[h];exact(Jq.none ZA).2
       have sZ:Aside (∀(x y:Nat) (e:Array α),PermIn x y e e):=fun x y e=>permIn_refl e x y
       clear sq HI M0 SP LW;by_cases xI:s<m
       ·have QR:(s:Int)<(m:Int):=ZA
        by_cases sf:m<en
        ·have QS:(m:Int)<(en:Int):=ZA
         have oN:s<mid:=ZA
         have AE:(s:Int)<(mid:Int):=ZA
         have mq:mid<en:=ZA
         have IC:(mid:Int)<(en:Int):=ZA
         have HR:=aA (sX.out s m en d wr ZA S1.out xI sf ZA);by_cases ha:a<s
         ·have FD:(a:Int)<(s:Int):=ZA
          by_cases dj:en<b
          ·have sr:(en:Int)<(b:Int):=ZA
           go_wp2_with (first|(refine' ZFr)|(go_at_call 315;first|refine' ZQ7|((with_reducible refine(kw.out d1 d3 w3 R1.out P3.out S3.out mq dj).mono ?_);rintro e w4 ⟨rfl,d4,⟨p4,q4⟩,s4⟩;have P4:Aside (PermIn mid b d3 d4):=p4;refine' ZIx)))
           go_end0
           exact⟨rfl,d4,AD.out d1 d3 d4 R1.out P3.out T3.out P4.out T4.out,S4.out⟩
          ·have sr:¬(en:Int)<(b:Int):=ZA
           go_wp2_with (first|(refine' ZFr)|(go_at_call 315;first|refine' ZQ7))
           go_end0
           exact⟨rfl,d3,AD.out d1 d3 d3 R1.out P3.out T3.out (sZ.out _ _ _) (LY.out d1 d3 R1.out P3.out ZA),S3.out⟩
         ·have FD:¬(a:Int)<(s:Int):=ZA
          by_cases dj:en<b
          ·have sr:(en:Int)<(b:Int):=ZA
           go_wp2_with (first|(refine' ZFr)|(go_at_call 315;first|((with_reducible refine(kw.out d1 d1 w1 R1.out (sZ.out _ _ _) S2.out mq dj).mono ?_);rintro e w4 ⟨rfl,d4,⟨p4,q4⟩,s4⟩;have P4:Aside (PermIn mid b d1 d4):=p4;refine' ZIx)))
           go_end0
           exact⟨rfl,d4,AD.out d1 d1 d4 R1.out (sZ.out _ _ _) (LX.out d1 R1.out ZA) P4.out T4.out,S4.out⟩
          ·have sr:¬(en:Int)<(b:Int):=ZA
           go_wp2_with (refine' ZFr)
           go_end0
           exact⟨rfl,d1,AD.out d1 d1 d1 R1.out (sZ.out _ _ _) (LX.out d1 R1.out ZA) (sZ.out _ _ _) (LY.out d1 d1 R1.out (sZ.out _ _ _) ZA),S2.out⟩
        ·have QS:¬(m:Int)<(en:Int):=ZA
         have oN:s=mid:=ZA
         have AE:¬(s:Int)<(mid:Int):=ZA
         have FD:(a:Int)<(s:Int):=ZA
         have mq:mid<en:=ZA
         have IC:(mid:Int)<(en:Int):=ZA
         have dj:en<b:=ZA
         have sr:(en:Int)<(b:Int):=ZA
         have ID:=aA oN;clear oN;refine' ZIy;go_wp2_with (go_at_call 315;first|((with_reducible refine(kw.out d d wr R0.out (sZ.out _ _ _) S1.out mq dj).mono ?_);rintro e w4 ⟨rfl,d4,⟨p4,q4⟩,s4⟩;have P4:Aside (PermIn mid b d d4):=p4;refine' ZIx))
         go_end0
         exact⟨rfl,d4,AD.out d d d4 R0.out (sZ.out _ _ _) (LX.out d R0.out (aZ ID.out)) P4.out T4.out,S4.out⟩
       ·have QR:¬(s:Int)<(m:Int):=ZA
        have IC:¬(mid:Int)<(en:Int):=ZA
        have ha:a<s:=ZA
        have FD:(a:Int)<(s:Int):=ZA
        by_cases oN:s<mid
        ·have AE:(s:Int)<(mid:Int):=ZA
         refine' ZIy;first
          |(exfalso;omega)
          |(go_wp2_with (go_at_call 315;first|((with_reducible refine(tg.out d wr R0.out S1.out ha oN).mono ?_);rintro e w3 ⟨rfl,d3,⟨p3,q3⟩,s3⟩;have P3:Aside (PermIn a mid d d3):=p3;refine' ZQ8));go_end0;exact⟨rfl,d3,AD.out d d3 d3 R0.out P3.out T3.out (sZ.out _ _ _) (LY.out d d3 R0.out P3.out ZA),S3.out⟩)
        ·have AE:¬(s:Int)<(mid:Int):=ZA
         refine' ZIy;first
          |(exfalso;omega)
          |(go_wp2;go_end0;exact⟨rfl,d,AD.out d d d R0.out (sZ.out _ _ _) (LX.out d R0.out ZA) (sZ.out _ _ _) (LY.out d d R0.out (sZ.out _ _ _) ZA),S1.out⟩)
variable{P:Program}
instance:Inhabited (Ltr×Nat):=⟨(⟨0,⟨#[]⟩⟩,0)⟩
def Tg(n s:Nat)(d:Array (Ltr×Nat)):Prop:=∀i,i<n→(d[i]!).2/s=i/s
theorem Tg.perm{n s a b d d'}(h:Tg n s d)(q)(ha:q*s≤a)(hb:b≤(q+1)*s)(OG:b≤n)(hs:0<s)(hp:PermIn a b d d')(hz:n≤d.size):Tg n s d':=fun i hi=>by
 by_cases h1:a≤i∧i<b
 ·have e:i/s=q:=by
   apply Nat.div_eq_of_lt_le
   ·omega
   ·omega
  rw[e];exact permIn_all d d' a b (fun x=>x.2/s=q) ZA hp (fun j j1 j2=>by
   rw[h j ZA];apply Nat.div_eq_of_lt_le
   ·omega
   ·omega) i h1.1 h1.2
 ·rw[hp.2.1 i ZA]
  exact h i hi
theorem Tg.up{n s d}(h:Tg n s d):Tg n (s*2) d:=fun i hi=>by rw[←Nat.div_div_eq_div_mul,←Nat.div_div_eq_div_mul,h i hi]
theorem Tg.lt{n s d}(h:Tg n s d){i j}(hi:i<n)(hj:j<n)(hd:i/s<j/s):(d[i]!).2<(d[j]!).2:=by rw[←h i hi,←h j hj]at hd;exact Nat.lt_of_not_le fun pI=>absurd (Nat.div_le_div_right (c:=s) pI) ZA
theorem Dp{a b c e d d'}(h:SortedIn Dc a b d)(hp:PermIn c e d d')(pK:b≤c∨e≤a):SortedIn Dc a b d':=fun i j h1 h2 h3=>by rw[hp.2.1 i ZA,hp.2.1 j ZA];exact h i j h1 h2 h3
theorem BcR(L:SlLaysF0.n20 P Tryz.laysIns_ren)(k)(aE:∀w,(isAgg 119).run P w=.ok true w)(zE:∀w,(Go.sizeOf 119).run P w=.ok k w)(enc:Ltr×Nat→List Value)(g:Nat)(cb blk av cap a b d0 d w0 w)
 (eg:∀args w,(callFunc g args).run P w=.ok (.enter g args) w) (pQ:CmpLays P g cb enc k cfT blk av d0.size w0) (R:RowK enc k w0 blk av d0) (hs:d0.size=d.size) (S:SWK enc k w0 blk av d w) (ou:a≤b) (hb:b≤d.size) (ct:d.size<4611686018427387904):
 Calls P 314 #[.slice (some ⟨blk,av,none⟩) d.size cap,.int .i64 a,.int .i64 b,.func (.func g) #[] cb] w fun e w'=>e=.returned (.tuple #[])∧SWK enc k w0 blk av (Sort.insertionSort (ltOf cfT) d a b) w':=by
 have qt:(Sort.insertionSort (ltOf cfT) d a b).size=d.size:=(insertionSort_holds AaM d a b ou hb).1.1;have hC:CmpLays P g cb enc k cfT blk av d.size w:=fun m os dk lg x y=>by obtain⟨n0,os0,rfl⟩:=S;rw[sortWorldK_on enc k w0 blk av n0 m d dk os0 os R.hblk lg];exact pQ _ _ dk ZA x y
 refine Calls.mono (AnyQ.insertionSortCmpFunc L k aE zE enc R.hk R.h1 cfT g cb blk av cap a b d w eg hC (S.holds R.hblk R.hH hs.symm) (S.lt R.hblk) ou hb ct) ?_;rintro e w' ⟨rfl,n,os,rfl⟩;exact⟨rfl,S.on R.hblk n _ os qt⟩
theorem ApQ(L:SlLaysF0.n20 P Tryz.laysIns_ren)(U:UintFacts P)(F0:P.funcs[(368:Nat)]? =some Tryz.f368)(F1:P.funcs[(351:Nat)]? =some Tryz.f351)(F2:P.funcs[(315:Nat)]? =some Tryz.f315)(F:P.funcs[(270:Nat)]? =some Tryz.f270)(k)(aE:∀w,(isAgg 119).run P w=.ok true w)(zE:∀w,(Go.sizeOf 119).run P w=.ok k w)(enc:Ltr×Nat→List Value)(g:Nat)(cb blk av cap n d0 w0)
 (eg:∀args w,(callFunc g args).run P w=.ok (.enter g args) w) (pQ:CmpLays P g cb enc k cfT blk av d0.size w0) (R:RowK enc k w0 blk av d0) (hn:d0.size=n) (kl:n≤60) (yA:∀i,i<n→(d0[i]!).2=i):
 Calls P 270 #[.slice (some ⟨blk,av,none⟩) n cap,.int .i64 n,.func (.func g) #[] cb] w0 fun e w'=>e=.returned (.tuple #[])∧∃d',PermIn 0 n d0 d'∧SortedIn Dc 0 n d'∧SWK enc k w0 blk av d' w':=by
 refine' ZFp;have a0:∀w,(isAgg 0).run P w=_:=L.a0;have z0:∀w,(Go.sizeOf 0).run P w=_:=L.z0;have v0:∀w,(zeroValue 0).run P w=_:=L.v0;have t3:P.underlying 3=_:=L.t3;have a3:∀w,(isAgg 3).run P w=_:=L.a3;have z3:∀w,(Go.sizeOf 3).run P w=_:=L.z3;have v3:∀w,(zeroValue 3).run P w=_:=L.v3;have t4:P.underlying 4=_:=L.t4;have a4:∀w,(isAgg 4).run P w=_:=L.a4;have z4:∀w,(Go.sizeOf 4).run P w=_:=L.z4;have v4:∀w,(zeroValue 4).run P w=_:=L.v4;refine' ZFq;have a22:∀w,(isAgg 27).run P w=_:=L.a22;have z22:∀w,(Go.sizeOf 27).run P w=_:=L.z22;have v22:∀w,(zeroValue 27).run P w=_:=L.v22;have t25:P.underlying 207=_:=L.t25;have a25:∀w,(isAgg 207).run P w=_:=L.a25;have z25:∀w,(Go.sizeOf 207).run P w=_:=L.z25;have v25:∀w,(zeroValue 207).run P w=_:=L.v25;have e3:∀args w,(callFunc 314 args).run P w=.ok (.enter 314 args) w:=L.f20.enters rfl;have e4:∀args w,(callFunc 315 args).run P w=.ok (.enter 315 args) w:=iC F2 ZB rfl;have kN:d0.size<4611686018427387904:=ZA
 have HI:Aside (∀(a b:Nat) (d:Array (Ltr×Nat)) (w:World),d.size=n→SWK enc k w0 blk av d w→a≤b→b≤n→(∀i,a≤i→i<b→(d[i]!).2=i)→Calls P 314 #[.slice (some ⟨blk,av,none⟩) n cap,.int .i64 a,.int .i64 b,.func (.func g) #[] cb] w fun e w'=>e=.returned (.tuple #[])∧∃d',PermIn a b d d'∧SortedIn Dc a b d'∧SWK enc k w0 blk av d' w'):=fun a b d w h1 h2 h3 h4 h5=>by
  have h:=BcR L k aE zE enc g cb blk av cap a b d0 d w0 w eg pQ R ZA h2 h3 ZA ZA;rw[h1]at h;refine h.mono ?_;rintro e w' ⟨rfl,hS⟩;obtain⟨q1,q2⟩:=Ad1 (a:=a) (b:=b) (d:=d) h3 ZA fun q a1 a2 p a3 a4=>by rw[h5 q a1 a2,h5 p a3 ZA];exact a4
  exact⟨rfl,_,q1,q2,hS⟩
 have HM:Aside (∀(a m b:Nat) (d:Array (Ltr×Nat)) (w:World),d.size=n→SWK enc k w0 blk av d w→a<m→m<b→b≤n→SortedIn Dc a m d→SortedIn Dc m b d→(∀i j,a≤i→i<m→m≤j→j<b→(d[i]!).2<(d[j]!).2)→Calls P 315 #[.slice (some ⟨blk,av,none⟩) n cap,.int .i64 a,.int .i64 m,.int .i64 b,.func (.func g) #[] cb] w fun e w'=>e=.returned (.tuple #[])∧∃d',PermIn a b d d'∧SortedIn Dc a b d'∧SWK enc k w0 blk av d' w'):=fun a m b d w h1 h2 h3 h4 h5 h6 h7 h8=>by have h:=AiO L U F0 F1 F2 k aE zE enc cfT Dc (fun x y=>x.2<y.2) g cb blk av cap d0 w0 eg pQ R Zk (fun x y vz=>BcW vz) kN (b - a) a m b d w (aD _) ZA h2 h3 h4 ZA ⟨h6,h7,h8⟩;rw[h1]at h;refine h.mono ?_;rintro e w' ⟨rfl,d',⟨p1,p2⟩,hS⟩;exact⟨rfl,d',p1,p2,hS⟩
 have S0:Aside (SWK enc k w0 blk av d0 w0):=SWK.start R.hH;have HT:Aside (∀i,i<n→(d0[i]!).2=i):=yA;have T0:Aside (Tg n 20 d0):=fun i hi=>by rw[yA i hi]
 have HN:Aside (d0.size=n):=hn;clear pQ yA R hn kN;go_enter F,Tryz.ntmps270;by_cases OI:n<20
 ·have y0:¬(20:Int)≤(n:Int):=ZA
  have y1:¬(20:Int)<(n:Int):=ZA
  go_wp2;refine' ZAO;have H1:Hid (Calls P 314 #[.slice (some ⟨blk,av,none⟩) n cap,.int .i64 (0:Int),.int .i64 ((n:Nat):Int),.func (.func g) #[] cb] w0 fun e w'=>e=.returned (.tuple #[])∧∃d',PermIn 0 n d0 d'∧SortedIn Dc 0 n d'∧SWK enc k w0 blk av d' w'):=HI.out 0 n d0 w0 HN.out S0.out ZA ZA (fun i i1 i2=>HT.out i ZA);refine' ZQ9;have K1:Aside (∀i,n≤i→(d1[i]!)=(d0[i]!)):=fun i hi=>by rw[p1.2.1 i (gQ hi)]
  refine' ZRA;have yB:Aside (SortedIn Dc 0 n d1):=s1;clear p1 s1 S1;refine' ZAO;have RF:Aside (SortedIn Dc 0 n d1):=fun i j h1 h2 h3=>yB.out i j h1 h2 ZA
  refine' zm;go_end0
  exact⟨rfl,d1,P1.out,RF.out,tu.out⟩
 by_cases yC:n=20
 ·obtain⟨ES,ET⟩:20≤n∧n≤20:=ZA
  clear yC;have y0:(20:Int)≤(n:Int):=ZA
  have y1:¬(20:Int)<(n:Int):=ZA
  refine' ZRB;have y4:¬(60:Int)≤(n:Int):=ZA
  refine' ZIz;refine' ZRC;refine' ZAO;have RF:Aside (SortedIn Dc 0 n d2):=fun i j h1 h2 h3=>g8.out i j h1 h2 ZA
  refine' zm;go_end0
  exact⟨rfl,d2,P2.out,RF.out,vC.out⟩
 by_cases OL:n<40
 ·have y0:(20:Int)≤(n:Int):=ZA
  have y1:(20:Int)<(n:Int):=ZA
  refine' ZRB;refine' ZRC;refine eS 2 ?_;refine' zm;refine' ZAO;have H3:Hid (Calls P 315 #[.slice (some ⟨blk,av,none⟩) n cap,.int .i64 (0:Int),.int .i64 (20:Int),.int .i64 ((n:Nat):Int),.func (.func g) #[] cb] w2 fun e w'=>e=.returned (.tuple #[])∧∃d',PermIn 0 n d2 d'∧SortedIn Dc 0 n d'∧SWK enc k w0 blk av d' w'):=HM.out 0 20 n d2 w2 Z2.out vC.out ZA ZA ZA g8.out rC.out (fun i j i1 i2 j1 j2=>(T2.out).lt (s:=20) ZA ZA ZA);have U3:Aside (Tg n 40 d2):=(T2.out).up;rw[fQ]
  go_wp2_with (go_at_call 315;refine H3.out.mono ?_;rintro e w3 ⟨rfl,d3,p3,s3,S3⟩)
  refine' ZRD;have T3:Aside (Tg n 40 d3):=(U3.out).perm 0 ZA ZA ZA ZF p3 (by rw[Z2.out];omega);have yE:Aside (SortedIn Dc 0 n d3):=s3;clear p3 s3 S3;have RF:Aside (SortedIn Dc 0 n d3):=fun i j h1 h2 h3=>yE.out i j h1 h2 ZA
  refine' zm;go_end0
  exact⟨rfl,d3,P3.out,RF.out,yD.out⟩
 by_cases yG:n=40
 ·obtain⟨ES,ET⟩:40≤n∧n≤40:=ZA
  clear yG;refine' ZI0;have y3:¬(40:Int)<(n:Int):=ZA
  refine' ZRE;refine eS 2 ?_;refine' ZRF;have RF:Aside (SortedIn Dc 0 n d4):=fun i j h1 h2 h3=>oQ.out i j h1 h2 ZA
  refine' zm;go_end0
  exact⟨rfl,d4,P4.out,RF.out,EU.out⟩
 by_cases OM:n<60
 ·refine' ZI0;have y3:(40:Int)<(n:Int):=ZA
  refine' ZRE;refine eS 3 ?_;refine' ZRF;refine' zm;refine' ZAO;have H5:Hid (Calls P 315 #[.slice (some ⟨blk,av,none⟩) n cap,.int .i64 (0:Int),.int .i64 (40:Int),.int .i64 ((n:Nat):Int),.func (.func g) #[] cb] w4 fun e w'=>e=.returned (.tuple #[])∧∃d',PermIn 0 n d4 d'∧SortedIn Dc 0 n d'∧SWK enc k w0 blk av d' w'):=HM.out 0 40 n d4 w4 Z4.out EU.out ZA ZA ZA oQ.out rD.out (fun i j i1 i2 j1 j2=>(T4.out).lt (s:=40) ZA ZA ZA);have U5:Aside (Tg n 80 d4):=(T4.out).up;refine' ZRG;have P5:Aside (PermIn 0 n d0 d5):=permIn_trans _ _ _ _ _ P4.out p5;have RF:Aside (SortedIn Dc 0 n d5):=s5;have ON:Aside (SWK enc k w0 blk av d5 w5):=S5;clear p5 s5 S5;refine' zm;go_end0
  exact⟨rfl,d5,P5.out,RF.out,ON.out⟩
 obtain⟨ES,ET⟩:60≤n∧n≤60:=ZA
 refine' ZI0;have y3:(40:Int)<(n:Int):=ZA
 have y4:(60:Int)≤(n:Int):=ZA
 refine' ZIz;go_wp2;refine eS 4 ?_;refine' ZRH;have H3:Hid (Calls P 314 #[.slice (some ⟨blk,av,none⟩) n cap,.int .i64 (40:Int),.int .i64 (60:Int),.func (.func g) #[] cb] w2 fun e w'=>e=.returned (.tuple #[])∧∃d',PermIn 40 60 d2 d'∧SortedIn Dc 40 60 d'∧SWK enc k w0 blk av d' w'):=HI.out 40 60 d2 w2 Z2.out vC.out ZA ZA (fun i i1 i2=>ZRI);refine' ZRJ;have K3:Aside (∀i,60≤i→(d3[i]!)=(d0[i]!)):=fun i hi=>ZRK
 refine' ZRL;have tw:Aside (SortedIn Dc 40 60 d3):=s3;clear p3 s3 S3;have H4:Hid (Calls P 314 #[.slice (some ⟨blk,av,none⟩) n cap,.int .i64 (60:Int),.int .i64 ((n:Nat):Int),.func (.func g) #[] cb] w3 fun e w'=>e=.returned (.tuple #[])∧∃d',PermIn 60 n d3 d'∧SortedIn Dc 60 n d'∧SWK enc k w0 blk av d' w'):=HI.out 60 n d3 w3 Z3.out yD.out ZA ZA (fun i i1 i2=>by rw[K3.out i i1];exact HT.out i ZA);rw[fQ]
 go_wp2_with (go_at_call 314;refine H4.out.mono ?_;rintro e w4 ⟨rfl,d4,p4,s4,S4⟩)
 refine' ZRM;have T4:Aside (Tg n 20 d4):=(T3.out).perm 3 ZA ZA ZA ZF p4 (by rw[Z3.out];omega);have vD:Aside (SortedIn Dc 0 20 d4):=Dp lh.out p4 ZA;have tx:Aside (SortedIn Dc 20 40 d4):=Dp j5.out p4 ZA;have tz:Aside (SortedIn Dc 40 60 d4):=Dp tw.out p4 ZA;clear p4 s4 S4;refine eS 3 ?_;refine' zm;refine eS 2 ?_;have H5:Hid (Calls P 315 #[.slice (some ⟨blk,av,none⟩) n cap,.int .i64 (0:Int),.int .i64 (20:Int),.int .i64 (40:Int),.func (.func g) #[] cb] w4 fun e w'=>e=.returned (.tuple #[])∧∃d',PermIn 0 40 d4 d'∧SortedIn Dc 0 40 d'∧SWK enc k w0 blk av d' w'):=HM.out 0 20 40 d4 w4 Z4.out EU.out ZA ZA ZA vD.out tx.out (fun i j i1 i2 j1 j2=>(T4.out).lt (s:=20) ZA ZA ZA);have U5:Aside (Tg n 40 d4):=(T4.out).up;refine' ZRG;have Z5:Aside (d5.size=n):=p5.1.trans Z4.out;have ON:Aside (SWK enc k w0 blk av d5 w5):=S5;have P5:Aside (PermIn 0 n d0 d5):=permIn_trans _ _ _ _ _ P4.out (permIn_mono _ _ _ _ _ _ (aM _) ZA (by rw[Z4.out];omega) p5);have T5:Aside (Tg n 40 d5):=(U5.out).perm 0 ZA ZA ZA ZF p5 (by rw[Z4.out];omega);have tA:Aside (SortedIn Dc 40 60 d5):=Dp tz.out p5 ZA;have vG:Aside (SortedIn Dc 0 40 d5):=s5;clear p5 s5 S5;refine' zm;refine' zm;refine' ZAO;have H6:Hid (Calls P 315 #[.slice (some ⟨blk,av,none⟩) n cap,.int .i64 (0:Int),.int .i64 (40:Int),.int .i64 ((n:Nat):Int),.func (.func g) #[] cb] w5 fun e w'=>e=.returned (.tuple #[])∧∃d',PermIn 0 n d5 d'∧SortedIn Dc 0 n d'∧SWK enc k w0 blk av d' w'):=HM.out 0 40 n d5 w5 Z5.out ON.out ZA ZA ZA vG.out (fun i j a1 a2 a3=>tA.out i j a1 a2 ZA) (fun i j i1 i2 j1 j2=>(T5.out).lt (s:=40) ZA ZA ZA);rw[fQ]
 go_wp2_with (go_at_call 315;refine H6.out.mono ?_;rintro e w6 ⟨rfl,d6,p6,s6,S6⟩)
 have P6:Aside (PermIn 0 n d0 d6):=permIn_trans _ _ _ _ _ P5.out p6;have RF:Aside (SortedIn Dc 0 n d6):=s6;have SS6:Aside (SWK enc k w0 blk av d6 w6):=S6;clear p6 s6 S6;refine' zm;go_end0
 exact⟨rfl,d6,P6.out,RF.out,SS6.out⟩
end Go.Proofs.YtfadhdacjpmmeaaGreatDoor
