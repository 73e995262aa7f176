/- Parts. -/
import Derived.Test.YtfadhdacjpmmeaaGreatDoorQ3
import Derived.Test.YtfadhdacjpmmeaaGreatDoorQ11
import Derived.Test.YtfadhdacjpmmeaaGreatDoorQ9
import Derived.Lib.SmallJoins
set_option linter.unusedVariables false
set_option linter.unusedSimpArgs false
namespace Go.Proofs.YtfadhdacjpmmeaaGreatDoor
set_option maxRecDepth 100000
set_option maxHeartbeats 1600000
open Go.IntKind renaming i64→aI
open Go.Obj renaming cells→aC
open Go.Proofs.Tryz renaming prog→aB
open Go.Value renaming string→aK,int→bC
open Go.RowKit
theorem AiK:∀n:Nat,Lib.decDigits n=Pg n:=by
 intro n
 induction n using Nat.strongRecOn with
 |_ n ih=>
  rw[Lib.decDigits];by_cases h:n<10
  ·rw[dif_pos h]
   unfold Pg;by_cases h0:n=0
   ·rw[aP h0,h0];rfl
   ·rw[aL h0,Nr ZA ZA]
    unfold b8;rw[show(48+(n:Int)).toNat=48+n by omega]
  ·rw[dif_neg h,ih (n/10) ZA]
   unfold Pg;rw[aL ZA,aL ZA,I2 (n:=n) ZA]
theorem AnD(n:Nat):(⟨(Lib.itoa (n:Int)).toArray⟩:ByteArray)=Cl n:=by unfold Lib.itoa Cl;rw[aL ZA,bE,AiK]
theorem AgZ{α:Type}(sep x:List α):∀(l:List (List α)),l≠[]→sep.intercalate (l++[x])=sep.intercalate l++sep++x
 |[],h=>absurd rfl h
 |[a],_=>ZEk
 |a::b::l,_=>by
  have ih:=AgZ sep x (b::l) ZE;have e:∀(c:List α) (m:List (List α)),sep.intercalate (a::c::m)=a++sep++sep.intercalate (c::m):=fun c m=>ZEk
  rw[dB,dB,e,←dB,ih,e];simp only[bY]
def Cg(ps:List ByteArray)(sep:ByteArray):ByteArray:=⟨(Lib.join (ps.map (·.data.toList)) sep.data.toList).toArray⟩
theorem Km(sep):Cg [] sep=⟨#[]⟩:=by unfold Cg Lib.join;rfl
theorem Kp(p sep):Cg [p] sep=p:=by refine Cv ?_;simp[Cg,Lib.join,List.intercalate,List.intersperse]
theorem G5(ps p sep)(h:ps≠[]):Cg (ps++[p]) sep=Cg ps sep++sep++p:=by refine Cv ?_;rw[B6,B6];unfold Cg Lib.join;rw[cQ,cD,gC,AgZ _ _ _ zG]
theorem Dw(ps sep m)(h:∀p∈ps,p.size≤m):(Cg ps sep).size≤ps.length*(m+sep.size):=by
 have jm:∀l:List ByteArray,(∀p∈l,p.size≤m)→(Cg l.reverse sep).size≤l.length*(m+sep.size):=fun l=>by
  induction l with
  |nil=>intro _;rw[List.reverse_nil,Km];exact ZZ
  |cons p l ih=>
   intro hl;have ih:=ih fun q hq=>hl q (bK _ hq)
   have hp:=hl p fU;rw[List.reverse_cons,bZ,eU,iL];by_cases h0:l.reverse=[]
   ·rw[h0,bV,Kp];omega
   ·rw[G5 _ _ _ h0,bG,bG];omega
 have:=jm ps.reverse (fun p hp=>h p (by simpa using hp))
 rwa [List.reverse_reverse,List.length_reverse]at this
theorem AkJ(ps sep):(Lib.join (ps.map (·.data.toList)) sep.data.toList).length=(Cg ps sep).size:=dP.symm
def Ja(x:Ltr):ByteArray:=Cl x.id.toNat++⟨#[58]⟩++x.code
theorem C9{n}(h:n≤9999):(Cl n).size≤4∧1≤(Cl n).size:=by
 have jm:∀(f m:Nat),m<10^f→(J1 m).length≤f∧(0<m→1≤(J1 m).length):=fun f=>by
  induction f with
  |zero=>
   intro m hm;have:m=0:=by simp at hm;exact hm
   subst this;exact⟨by rw[J1];simp,fun h=>ZA⟩
  |succ f ih=>
   intro m hm;by_cases h0:m=0
   ·subst h0;exact⟨by rw[J1];simp,fun h=>ZA⟩
   ·have hd:m/10<10^f:=by rw[Nat.pow_succ]at hm;exact Nat.div_lt_of_lt_mul ZA
    have:=(ih (m/10) hd).1;rw[I2 ZA,aS];exact⟨ZH,fun _=>ZE⟩
 have hk:=jm 4 n ZA;have hs:(Cl n).size=(Pg n).length:=dP;rw[hs];unfold Pg;by_cases h0:n=0
 ·rw[aP h0];simp
 ·rw[aL h0];exact⟨hk.1,hk.2 ZA⟩
theorem AvP{x}(h:x.id≤9999)(hc:x.code.size=7):(Ja x).size≤12∧1≤(Ja x).size:=by have:=C9 (n:=x.id.toNat) ZA;unfold Ja;rw[bG,bG,hc];show _+1+7≤12∧1≤_+1+7;omega
def spT:ByteArray:=⟨#[32]⟩
def Co(xs:List Ltr):ByteArray:=if okB xs=true then(if xs.length=0 then⟨#[45]⟩else Cg (xs.map Ja) spT)else⟨#[]⟩
theorem AeH{xs}(h:okB xs=false):Co xs=⟨#[]⟩:=by unfold Co;rw[h];rfl
theorem Pp{xs}(h:okB xs=true)(h0:xs.length=0):Co xs=⟨#[45]⟩:=by unfold Co;rw[aP h,aP h0]
theorem Oq{xs}(h:okB xs=true)(h0:xs.length≠0):Co xs=Cg (xs.map Ja) spT:=by unfold Co;rw[aP h,aL h0]
theorem Wk{xs}(h:okB xs=true):∀p∈xs.map Ja,p.size≤12∧1≤p.size:=fun p hp=>by refine' ZCM;refine' ZAZ;have h1:=(Ep.1 h).2 k hk;have h2:=h1.2.2.1;unfold Ap at h2;rw[aN,dE]at h2;exact AvP h1.2.1 h2.1
theorem Du(xs):(Co xs).size≤1000:=by
 cases h:okB xs
 ·rw[AeH h];exact ZZ
 ·by_cases h0:xs.length=0
  ·rw[Pp h h0];exact(ZF:(1:Nat)≤1000)
  ·rw[Oq h h0]
   have h1:=Dw (xs.map Ja) spT 12 fun p hp=>(Wk h p hp).1
   have h2:=(Ep.1 h).1;rw[bF]at h1;have h3:xs.length*(12+spT.size)≤60*13:=cC h2 (aD _);omega
def Ps(xs:List Ltr)(k:Nat):ByteArray:=Cg ((xs.take k).map Ja) spT
theorem Ab5(xs):Ps xs 0=⟨#[]⟩:=Km _
theorem Aq8{xs}(h:0<xs.length):Ps xs 1=Ja xs[0]:=by unfold Ps;exact ZM5
theorem AkF{xs k}(h:k<xs.length)(h0:0<k):Ps xs (k+1)=Ps xs k++spT++Ja xs[k]:=by unfold Ps;exact ZM6
theorem AvM{xs}(h:okB xs=true)(k):(Ps xs k).size≤780:=by
 have h1:=Dw ((xs.take k).map Ja) spT 12 fun p hp=>(Wk h p ZHS).1
 have h2:=(Ep.1 h).1;rw[bF]at h1;have h3:(xs.take k).length*(12+spT.size)≤60*13:=cC zF (aD _);unfold Ps;omega
theorem AxL{xs}(h:okB xs=true)(h0:0<xs.length):1≤(Ps xs xs.length).size:=by
 obtain⟨k,hk⟩:∃k,xs.length=k+1:=⟨xs.length - 1,ZA⟩;rw[hk];have hp:∀(j:Nat) (hj:j<xs.length),1≤(Ja xs[j]).size:=fun j hj=>(Wk h _ (List.mem_map.2 ⟨_,aU hj,rfl⟩)).2
 by_cases gx:k=0
 ·subst gx
  rw[Aq8 h0];exact hp 0 h0
 ·rw[AkF ZA ZA,bG]
  have:=hp k ZA;omega
def I4(w:World):Prop:=Lib.TabIs aB w "internal/strconv.uint64pow10" .u64 Lib.pow10Tab
theorem I4.on{w w'}(h:I4 w)(hb:Below w.heap.size w w'):I4 w':=
 Go.Joins.tab_stays (g:=4) ZB h hb (aD _)
theorem AfT(w k os):Below w.heap.size w (Go.Sort.grow (w.drewN k) os):=by
 have h:=Ba (aF w.heap.size w) k;refine⟨h.os,h.tape,h.output,?_,fun i hi=>?_⟩
 ·show _≤((w.drewN k).heap++os).size
  rw[Array.size_append];have:=h.size;omega
 ·show((w.drewN k).heap++os)[i]? =_
  rw[iJ (by have:=h.size;omega)];exact h.block i hi
theorem Jn(n:Nat)(w)(hn:n≤9999)(ht:I4 w):
 Calls aB 195 #[.int .i64 (n:Int)] w fun e w'=>e=.returned (.string (Cl n))∧Below w.heap.size w w':=by refine(Tryz.strconv_Itoa (n:Int) ZA ZA w ht).mono ?_;rintro e w' ⟨rfl,k,os,rfl⟩;exact⟨by rw[AnD],AfT w k os⟩
theorem Ro{T base g n c:Nat}{w ps sep}(h:own T base w (.slice (some ⟨g,0,none⟩) n c) ps)(hn:n=ps.length)(hN:ps.length≤1048576)(hs:(Cg ps sep).size≤140737488355328):
 Calls aB 196 #[.slice (some ⟨g,0,none⟩) n c,.string sep] w fun e w'=>e=.returned (.string (Cg ps sep))∧Below w.heap.size w w':=by
 obtain⟨A',n',c',hv,rZ,hc,hm,hr⟩:=h.rd;injection hv with e1 e2 e3;subst e1 e2 e3 hn;have hg:g<w.heap.size:=(h.blk g rfl).2;refine Tryz.strings_Join g 0 c ps sep w (fun j x hx=>?_) hg ZA hc (by rw[AkJ];exact hs)
 ·obtain⟨hj,rfl⟩:=List.getElem?_eq_some_iff.1 hx
  obtain⟨b,o,hA,_,_,c1⟩:=hr.str j hj;refine' ZAr;exact c1
theorem F7(v xs w)(hv:rd w w.heap.size v xs)(ht:I4 w):
 Calls aB 117 #[v] w fun e w'=>e=.returned (.string (Co xs))∧Below w.heap.size w w':=by
 refine' ZAc;have HT:=aA ht;clear ht;refine' zh;refine' YF;go_enter Tryz.func117,Tryz.ntmps117
 refine' ZC;refine(Cn _ xs _ HV.out).mono ?_;refine' ZEl;refine' ZM7;by_cases h0:xs.length=0
 ·have HF:=aA (Pp ag h0)
  have jS:((xs.length:Int)==0)=true:=ZDY
  clear ag h0
  exact ZBC
 have HF:=aA (Oq ag h0);have jS:((xs.length:Int)==0)=false:=beq_eq_false_iff_ne.2 ZA;have pO:0<xs.length:=ZA
 clear ag h0;refine' ZM8;refine' ZC;have kF:Ck 9 (w1.alloc (aC (madeCells #[.string ⟨#[]⟩] xs.length) 9)) w1.heap.size xs.length 0 (xs.map Ja):=Ck.made w1 _ _ _ ZAK _;have bg:Below w1.heap.size w1 (w1.alloc (aC (madeCells #[.string ⟨#[]⟩] xs.length) 9)):=(aF _ _).alloc (aD _) _;generalize w1.alloc (aC (madeCells #[.string ⟨#[]⟩] xs.length) 9)=w0 at *;clear ez;have cg:Hid ((xs.map Ja).length=xs.length):=ZBD
 go_loopw[17] (fun i wr=>∃k:Nat,k≤xs.length∧i=.int .i64 k∧Below w1.heap.size w1 wr∧Ck 9 wr w1.heap.size xs.length k (xs.map Ja)) (fun i _=>xs.length - (intOf i).toNat)
 case atStart=>exact ZBE
 case round=>
  refine' ZBm;by_cases ab:k<xs.length
  ·obtain⟨b,o,rfl,hb,⟨⟨jO,kP⟩,jf⟩,y1,y2⟩:=HR.out.ltrU k ab
   refine' ZEm;obtain⟨z1,z2,z4,_⟩:=(Ep.1 ee.out).2 k ab;have lN:(xs.map Ja)[k]' zY=Ja xs[k]:=ZE
   have kT:=aA (Wk ee.out (Ja xs[k]) (List.mem_map.2 ⟨_,aU ab,rfl⟩));have fe:=aA (fun(W:World) (hF:Ck 9 W w1.heap.size xs.length k (xs.map Ja))=>hF.step zY ZAs (ecs:=[.string (Ja xs[k])]) ZEn);clear lN;refine' ZM9;have iu:=au.size;obtain⟨wb,lx⟩:∃u,u=w2.alloc (aC #[.int .i64 (m:Int),.string code] 119):=⟨_,rfl⟩;have q0:=Af lx 0 (.int .i64 (m:Int)) rfl;have q1:=Af lx 1 (.string code) rfl;refine' ZNA;have xC:=aA (HT.out.on (Aa (Aa l1 au) lb));have bp:=aA lx;clear lx hf
   refine' ZNB;obtain⟨hd4,_⟩:=C9 DB;have vI:=aA (fun W (hW:Below wb.heap.size wb W)=>Jn m W DB (xC.out.on hW));generalize Cl m=t at *;have xL:code.size=7:=ZNC
   have vn:¬9223372036854775807<t.size+1+code.size:=ZA
   have vp:¬9223372036854775807<t.size+1:=ZA
   clear xL
   go_region_held3 (fun W=>W.cell? ⟨w2.heap.size,0,none⟩=some (.int .i64 (m:Int))∧W.cell? ⟨w2.heap.size,1,none⟩=some (.string code)) (first|exact⟨e0,e1⟩|exact⟨yJ,yK⟩|exact⟨EW _,EX _⟩|fail) (first|(go_at_call 195;refine' ZND)|fail)
   all_goals exact ZNE
  ·refine' YD;have HO:=aA ((HE.out▸hf:Ck _ _ _ _ xs.length _).own cg.out.symm (aD _) ZN);clear hf;have l2:=Aa l1 au;have lU:=Dw (xs.map Ja) spT 12 fun p hp=>(Wk ee.out p hp).1
   rw[cg.out]at lU;have mG:xs.length*(12+spT.size)≤60*13:=cC kl (aD _);exact ZEo
theorem I1(s w):
 Calls aB 70 #[.string s] w fun e w'=>e=.returned (.string (if s.size=0 then⟨#[45]⟩else s))∧w=w':=by
 by_cases h:s.size=0
 ·have he:s.toList.isEmpty=true:=ZNF
  rw[aP h];clear h;go_enter Tryz.func70,Tryz.ntmps70;refine' ZO;exact ZV
 ·have he:s.toList.isEmpty=false:=ZNG
  rw[aL h];clear h;go_enter Tryz.func70,Tryz.ntmps70;refine' ZO;exact ZV
theorem D6(v xs w)(hv:rd w w.heap.size v xs):
 Calls aB 23 #[v] w fun e w'=>e=.returned (.string (Co xs))∧Below w.heap.size w w':=by
 refine' ZAc;go_enter Tryz.func23,Tryz.ntmps23
 refine' ZC;refine(C6 _ xs _ HV.out).mono ?_;refine' ZT;have l1:=b1;clear b1;refine' ZM7;have HF:Hid (Co xs=if(Ps xs xs.length).size=0 then⟨#[45]⟩else Ps xs xs.length):=by
  show _=_;by_cases h0:xs.length=0
  ·rw[Pp ag h0,h0,Ab5];rfl
  ·have:=AxL ag ZA
   rw[Oq ag h0,aL ZA];unfold Ps;rw[aY]
 clear ag
 refine' ZC;go_loopw[3,4] (fun t i wr=>∃k:Nat,k≤xs.length∧i=.int .i64 k∧t=.string (Ps xs k)∧Below w.heap.size w wr) (fun _ i _=>xs.length - (intOf i).toNat)
 case atStart=>exact⟨0,aM _,rfl,by rw[Ab5],l1⟩
 case round=>
  refine' ZDZ;by_cases ab:k<xs.length
  ·obtain⟨b,o,rfl,hb,⟨⟨jO,kP⟩,jf⟩,y1,y2⟩:=HR.out.ltrU k ab
   obtain⟨z1,z2,z4,_⟩:=(Ep.1 ee.out).2 k ab;have ti:Hid (k=0→Ps xs 1=Ja xs[k]):=fun h=>by subst h;exact Aq8 ab
   have oJ:=aA (fun h=>AkF ab h);have d9:=AvM ee.out k;have hZ:=aA (Ab5 xs);obtain⟨PN,qG⟩:∃P,Ps xs (k+1)=P:=⟨_,rfl⟩;obtain⟨P,hP⟩:∃P,Ps xs k=P:=⟨_,rfl⟩;refine' ZNH;refine' ZM9;have y1':=fun W (h:Below w2.heap.size w2 W)=>y1 W (Aa lr h)
   have y2':=fun W (h:Below w2.heap.size w2 W)=>y2 W (Aa lr h)
   obtain⟨hd4,_⟩:=C9 DB;have rW:=aA (fun W=>Hy m W ZA);have xL:code.size=7:=ZNC
   have hc7':code.size≤7:=ZA
   have ld:=Ag (aF w2.heap.size w2);clear y1 y2 xL z4 jO kP;generalize Cl m=t at *;by_cases gx:k=0
   ·subst gx
    simp only[fD,bW,dA]at y1' y2';have lv:Hid (aK (P++t++⟨#[58]⟩++code)=.string (Ps xs (0+1))):=by
     show _=_;have e1:Ps xs (0+1)=Ja ⟨(m:Int),code⟩:=ti.out rfl;have e2:P=⟨#[]⟩:=by rw[←EJ.out,hZ.out]
     rw[e1,jY.out,e2]
     all_goals congr 1
     all_goals refine Cv ?_
     all_goals simp
    clear bc ei;have bc:(0:Int)<(xs.length:Int):=ZA
    refine' ZC;have qC:¬9223372036854775807<P.size+t.size:=ZA
    have oI:¬9223372036854775807<P.size+t.size+1:=ZA
    have qD:¬9223372036854775807<P.size+t.size+1+code.size:=ZA
    refine' ZNI;all_goals
     refine' ZC;go_roundw
     case rel=>exact⟨0+1,ZA,ZJ,lv.out,Aa lr l3⟩
     case measure=>exact ZK
   ·refine' ZEp;have lv:Hid (aK (P++⟨#[32]⟩++t++⟨#[58]⟩++code)=.string (Ps xs (k+1))):=by
     show _=_;rw[pN.out,oJ.out ZA,jY.out]
     congr 1
     refine Cv ?_;simp[spT]
    have KT:(P++(⟨#[32]⟩:ByteArray)).size≤781:=ZCN
    refine' ZC;generalize P++(⟨#[32]⟩:ByteArray)=Q at *;have qC:¬9223372036854775807<Q.size+t.size:=ZA
    have oI:¬9223372036854775807<Q.size+t.size+1:=ZA
    have qD:¬9223372036854775807<Q.size+t.size+1+code.size:=ZA
    refine' ZNI;all_goals
     refine' ZC;go_roundw
     case rel=>exact⟨k+1,ZA,ZJ,lv.out,Aa lr l3⟩
     case measure=>exact ZK
  ·refine' YD;have sI:Hid (Ps xs k=Ps xs xs.length):=by show _=_;rw[HE.out]
   generalize Ps xs k=P at *;by_cases hz:P.size=0
   ·have tj:Hid (Co xs=⟨#[45]⟩):=ZHT
    refine' ZBF;rw[aP hz]at HD;exact ZCO
   ·have tj:Hid (Co xs=P):=ZHU
    refine' ZBF;rw[aL hz]at HD;exact ZCO
end Go.Proofs.YtfadhdacjpmmeaaGreatDoor
