/- Parts. -/
import Derived.Test.YtfadhdacjpmmeaaGreatDoorQ33
import Derived.Shelf.SlSortCmp.WholeK
set_option linter.unusedVariables false
set_option linter.unusedSimpArgs false
namespace Go.Proofs.YtfadhdacjpmmeaaGreatDoor
set_option maxRecDepth 100000
set_option maxHeartbeats 6400000
open Go.IntKind renaming i64→aI
open Go.Obj renaming cells→aC
open Go.Proofs.Tryz renaming prog→aB
open Go.Value renaming string→aK,int→bC
open Go.RowKit
theorem Sn{k}(hk:k<J6.length):J6[k]=G6 k:=by unfold G6;exact ZR1
theorem AmD{g k}(hk:k<10)(h:G6 k=g):Up g=k:=by
 have hl:k<J6.length:=hk;have e:J6.findIdx (fun x=>sEq x g)=k:=(List.findIdx_eq hl).2 ⟨by rw[Sn hl,h];exact Ec.2 rfl,fun j hj=>by
  rw[Sn ZA];have:sEq (G6 j) g=false:=by
   cases hq:sEq (G6 j) g with
   |false=>rfl
   |true=>have:=AoS j ZA k hk ((Ec.1 hq).trans h.symm);omega
  exact zT⟩
 unfold Up;rw[e,aP hk]
theorem AkE{g}(h:∀k,k<10→G6 k≠g):Up g=10:=by
 unfold Up;by_cases hl:J6.findIdx (fun x=>sEq x g)<10
 ·exfalso
  refine' ZR2;exact h _ hl (Ec.1 h1)
 ·rw[aL hl]
theorem Wa(g):Up g≤10:=by unfold Up;split<;>omega
theorem BbE{g d}(h:AtK g d):d=if Up g=10 then -1 else(Up g:Int):=by
 rcases h with⟨k,hk,rfl,h⟩|⟨rfl,h⟩
 ·rw[AmD hk h,aL ZA]
 ·rw[AkE h,aP rfl]
theorem Az3{g}(h:Up g≠10):G6 (Up g)=g:=by
 unfold Up at h⊢;by_cases hl:J6.findIdx (fun x=>sEq x g)<10
 ·rw[aP hl]
  refine' ZR2;exact Ec.1 h1
 ·rw[aL hl]at h;exact absurd rfl h
theorem S9{b}:∀{n:Nat},Dn b n=0→∀k,k<n→Gk b k≠10
 |0,_,k,hk=>absurd hk (aX _)
 |n+1,h,k,hk=>by
  rw[Dn]at h;by_cases hg:Gk b n=10
  ·rw[aP hg]at h;omega
  ·rw[aL hg]at h
   by_cases BS:k=n
   ·subst BS;exact hg
   ·exact S9 ZA k ZA
theorem AbQ{b}:∀{n:Nat},Dn b n=1→∃u,u<n∧Gk b u=10∧∀k,k<n→k≠u→Gk b k≠10
 |0,h=>by rw[Dn]at h;omega
 |n+1,h=>by
  rw[Dn]at h;by_cases hg:Gk b n=10
  ·rw[aP hg]at h
   exact⟨n,fS n,hg,fun k hk bj=>S9 (n:=n) ZA k ZA⟩
  ·rw[aL hg]at h
   obtain⟨u,hu,h1,h2⟩:=AbQ (n:=n) ZA;exact⟨u,ZA,h1,fun k hk bj=>by
    by_cases BS:k=n
    ·subst BS;exact hg
    ·exact h2 k ZA bj⟩
theorem AsB(b):∀k,k≤8→Mw (Y3 b) 8 k=N1 b k+Dn b k*((10 - N1 b 8%10)%10)
 |0,_=>by simp[Mw,N1,Dn]
 |k+1,hk=>by
  rw[Mw,N1,Dn,aL ZA,AsB b k ZA];unfold Y3;by_cases hg:Gk b k=10
  ·rw[aP hg,aP hg,aP hg,eU];omega
  ·rw[aL hg,aL hg,aL hg,dA];omega
theorem AlY{b}(h:Fb b=true):∃u,u≤8∧Bars b (Y3 b) u:=by
 unfold Fb at h;rw[aN,dE,iV,aN,dQ,dQ,dQ]at h;obtain⟨hz,h⟩:=h;have ten:∀k,k<8→Y3 b k<10:=fun k _=>by
  unfold Y3
  split
  ·omega
  ·refine' ZFz;rename_i hg;unfold Gk at hg⊢;omega
 have read:∀k,Gk b k≠10→G6 (Y3 b k)=b.extract (1+5*k) (6+5*k):=fun k hg=>by unfold Y3;rw[aL hg];exact Az3 hg
 have hs:=AsB b 8 (aD _);rcases h with h|⟨h,hm⟩
 ·obtain⟨u,hu,h1,h2⟩:=AbQ h
  refine⟨u,ZA,hz,ten,fun k hk bj=>read k (h2 k hk bj),fun _ j hj e=>?_,?_⟩
  ·have:=AmD hj e
   unfold Gk at h1;omega
  ·rw[hs,h];omega
 ·refine⟨8,aD _,hz,ten,fun k hk _=>read k (S9 h k hk),fun h8=>absurd h8 ZF,?_⟩
  rw[hs,h];omega
theorem Am4(b):∀k,N1 b k≤9*k
 |0=>aD _
 |k+1=>by
  have h1:=Am4 b k;have h2:=Wa (b.extract (1+5*k) (6+5*k));rw[N1]
  split
  ·omega
  ·rename_i hg
   unfold Gk at hg⊢;omega
theorem Wz(b w)(hz:b.size=42)(hn:Fb b=false)(hw:N9 w):
 Calls aB 153 #[.string b] w fun e w'=>e=.returned (.tuple #[.string ⟨#[]⟩,.bool false])∧Below w.heap.size w w':=by
 have HG:Hid (∀(k:Nat) (_:k<8) (W:World),Below w.heap.size w W→Calls aB 240 #[.string b,.int .i64 (k:Int)] W fun e w'=>e=.returned (.int .i64 (if Gk b k=10 then -1 else(Gk b k:Int)))∧W=w'):=fun k hk W hW=>by refine(Tt b k W hz hk (hw.on hW)).mono ?_;rintro e _ ⟨d,rfl,hd,rfl⟩;exact⟨by rw[BbE hd.out];rfl,rfl⟩
 have HN:Hid (¬(Dn b 8=1∨(Dn b 8=0∧N1 b 8%10=0))):=fun h=>by
  unfold Fb at hn;rw[hz]at hn;rcases h with h|⟨h1,h2⟩
  ·rw[h]at hn;simp at hn
  ·rw[h1,h2]at hn;simp at hn
 have LF:(b.size:Int)=42:=ZA
 refine' ZNt;clear t7 hn hw hz;refine' ZNu;go_loopw[5,6,7] (fun t m i wr=>∃(k:Nat) (l:List UInt8) (mi:Int),k≤8∧i=.int .i64 k∧t=.int .i64 (N1 b k:Nat)∧m=.int .i64 mi∧Hid (Dn b k≤1∧(Dn b k=0→mi= -1)∧(Dn b k=1→0≤mi))∧Hid (E8 wr w.heap.size l)∧Hid (l.length=8)∧Below w.heap.size w wr) (fun _ _ i _=>(8 - intOf i).toNat)
 case atStart=>exact⟨0,List.replicate 8 0, -1,ZA,rfl,rfl,rfl,⟨aM _,fun _=>rfl,fun h=>by rw[Dn]at h;omega⟩,LL.out,ZDN,lz⟩
 case round=>
  obtain⟨k,l,mi,hk,rfl,rfl,rfl,HM,HR,HL,au⟩:=hrel;refine' zR;by_cases ab:k<8
  ·have bc:(k:Int)<8:=ZA
   have HC:=aA (HG.out k ab w1 au);have LM:=Am4 b k;have hlk:k<l.length:=YT
   have cg:Hid (Dn b (k+1)=Dn b k+if Gk b k=10 then 1 else 0):=rfl;have va:Hid (N1 b (k+1)=N1 b k+if Gk b k=10 then 0 else Gk b k):=rfl;by_cases hg:Gk b k=10
   ·have kw:Hid (Calls aB 240 #[.string b,.int .i64 (k:Int)] w1 fun e w'=>e=.returned (.int .i64 (-1))∧w1=w'):=by have:=HC.out;rw[aP hg]at this;exact this
    have BY:Hid (Dn b (k+1)=Dn b k+1):=by have:=cg.out;rw[aP hg]at this;exact this
    have wU:Hid (N1 b (k+1)=N1 b k):=by have:=va.out;rw[aP hg]at this;exact this
    clear HC cg va hg;generalize N1 b k=sm at *;by_cases hm:0≤mi
    ·refine' ZDe;go_ret2;exact⟨rfl,au⟩
    ·have JK:Hid (Dn b (k+1)≤1∧(Dn b (k+1)=0→(k:Int)= -1)∧(Dn b (k+1)=1→0≤(k:Int))):=by
      obtain⟨h1,h2,h3⟩:=HM.out;have:=BY.out;have h0:Dn b k=0:=by
       rcases(show Dn b k=0∨Dn b k=1 by omega)with h|h
       ·exact h
       ·exact absurd (h3 h) hm
      exact⟨ZA,fun h=>ZA,fun _=>ZA⟩
     refine' ZDe;go_roundw
     case rel=>exact⟨k+1,l,k,ZA,ZJ,by rw[wU.out],rfl,JK,HR,HL,au⟩
     case measure=>exact ZK
   ·have kw:Hid (Calls aB 240 #[.string b,.int .i64 (k:Int)] w1 fun e w'=>e=.returned (.int .i64 (Gk b k:Int))∧w1=w'):=by have:=HC.out;rw[aL hg]at this;exact this
    have BY:Hid (Dn b (k+1)=Dn b k):=by have:=cg.out;rw[aL hg]at this;exact this
    have wU:Hid (N1 b (k+1)=N1 b k+Gk b k):=by have:=va.out;rw[aL hg]at this;exact this
    have JK:Hid (Dn b (k+1)≤1∧(Dn b (k+1)=0→mi= -1)∧(Dn b (k+1)=1→0≤mi)):=by show _∧_;rw[BY.out];exact HM.out
    have hd:Gk b k<10:=by refine' ZFz;unfold Gk at hg⊢;omega
    have nW:Hid (E8 (w1.setCell ⟨w.heap.size,k,none⟩ (.int .u8 (48+(Gk b k:Int)))) w.heap.size (l.set k (b8 (48+(Gk b k:Int))))):=by have h1:=HR.out.set k (b8 (48+(Gk b k:Int)));refine' ZEt;exact h1
    have gi:Hid ((l.set k (b8 (48+(Gk b k:Int)))).length=8):=ZNv
    have hc:=HR.out.cell k hlk;have hf:=HR.out.free k;clear HC cg va hg;generalize N1 b k=sm at *;generalize l[k]=QG at *;obtain⟨d,ig⟩:∃d,Gk b k=d:=⟨_,rfl⟩;rw[ig]at kw wU nW gi hd;clear ig;refine' ZEw;refine' ZDe;go_roundw
    case rel=>exact⟨k+1,_,mi,ZA,ZJ,by rw[wU.out];rfl,rfl,JK,nW,gi,Ai au (p:=⟨w.heap.size,k,none⟩) (aD _) _⟩
    case measure=>exact ZK
  ·obtain rfl:k=8:=ZA
   have LM:=Am4 b 8;have h0:mi= -1∧¬N1 b 8%10=0:=by
    obtain⟨h1,h2,h3⟩:=HM.out;have hn:=HN.out;rcases(show Dn b 8=0∨Dn b 8=1 by omega)with h|h
    ·exact⟨h2 h,fun h4=>hn (.inr ⟨h,h4⟩)⟩
    ·exact absurd (.inl h) hn
   obtain⟨rfl,hsm⟩:=h0;generalize N1 b 8=sm at *;have hS1:¬(sm:Int)%10=0:=ZA
   clear hsm
   refine' ZQ;exact⟨rfl,au⟩
theorem Yz(b w)(hw:N9 w):
 Calls aB 153 #[.string b] w fun e w'=>e=.returned (.tuple #[.string (Hr b),.bool (Fb b)])∧Below w.heap.size w w':=by
 unfold Hr;cases hr:Fb b
 ·by_cases hz:b.size=42
  ·exact Wz b w hz hr hw
  ·have LF:¬(b.size:Int)=42:=ZA
   clear hr hw hz;go_enter Tryz.func153,Tryz.ntmps153
   refine' ZQ;exact z6
 ·obtain⟨u,hu,hB⟩:=AlY hr
  exact Ab7 b (Y3 b) u w hB hu hw
def ds0(b:ByteArray)(k:Nat):Nat:=if Gk b k=10 then 0 else Gk b k
theorem AmW(b k):ds0 b k<10:=by
 unfold ds0;refine' ZFz;unfold Gk
 split<;>omega
def dtx(ds:Nat→Nat)(n:Nat):ByteArray:=⟨((List.range n).map fun j=>b8 (48+(ds j:Int))).toArray⟩
theorem AfH(ds:Nat→Nat)(n):(dtx ds n).size=n:=by show(List.toArray _).size=n;rw[dP,bF,List.length_range]
theorem Ns(ds:Nat→Nat)(n):(dtx ds n).data.toList=(List.range n).map fun j=>b8 (48+(ds j:Int)):=rfl
theorem AsK:∀d,d<10→dgB d=⟨#[b8 (48+(d:Int))]⟩:=ZF
theorem AnL(ds:Nat→Nat){n}(h:ds n<10):dtx ds (n+1)=dtx ds n++dgB (ds n):=by apply Cv;rw[B6,Ns,Ns,fK,cQ,AsK _ h];rfl
theorem AjK{ds es:Nat→Nat}{n}(h:∀k,k<n→ds k=es k):dtx ds n=dtx es n:=by apply Cv;rw[Ns,Ns];exact List.map_congr_left fun k hk=>by rw[h k (List.mem_range.1 hk)]
theorem AoB{ds:Nat→Nat}{n}(h:∀k,k<n→ds k<10):Ea (dtx ds n).data.toList=true:=by
 rw[Ns];unfold Ea;refine List.all_eq_true.2 fun x hx=>?_
 obtain⟨k,hk,rfl⟩:=List.mem_map.1 hx;have h1:=h k (List.mem_range.1 hk);have h2:=Ys (n:=48+(ds k:Int)) ZA ZA;exact ZAg
theorem AeJ{ds:Nat→Nat}:∀n,n≤8→(∀k,k<n→ds k<10)→F8 (dtx ds n).data.toList=Mw ds 8 n
 |0,_,_=>rfl
 |n+1,h,hd=>by have h1:=hd n ZA;have h2:=Ys (n:=48+(ds n:Int)) ZA ZA;rw[AnL ds h1,B6,AsK _ h1];show F8 ((dtx ds n).data.toList++[b8 (48+(ds n:Int))])=_;rw[Qi,AeJ n ZA fun k hk=>hd k ZA,Mw,aL ZA];omega
theorem Wc(ds:Nat→Nat):(dtx ds 8).extract 0 7=AiY ds:=by apply Cv;rw[Hb,Ns];rfl
theorem AzY(ds:Nat→Nat){u d}(hu:u<8)(hd:d<10):(dtx ds 8).extract 0 u++dgB d++(dtx ds 8).extract (u+1) 8=dtx (fun j=>if j=u then d else ds j) 8:=by
 apply Cv;rw[B6,B6,Hb,Hb,Ns,Ns,AsK _ hd];have hc:u=0∨u=1∨u=2∨u=3∨u=4∨u=5∨u=6∨u=7:=ZA
 rcases hc with rfl|rfl|rfl|rfl|rfl|rfl|rfl|rfl<;>rfl
theorem Am1(b):∀k,k≤8→Mw (ds0 b) 8 k=N1 b k
 |0,_=>rfl
 |k+1,h=>by rw[Mw,N1,aL ZA,Am1 b k ZA];rfl
theorem AqS(b):∀{m n:Nat},m≤n→Dn b m≤Dn b n:=by
 intro m n h
 induction n with
 |zero=>rw[show m=0 by omega];exact YV
 |succ n ih=>
  by_cases e:m=n+1
  ·subst e;exact YV
  ·exact aG (ih ZA) (by rw[Dn];omega)
theorem BcE{b k}(hk:k≤8)(h:2≤Dn b k):Fb b=false:=by have:=AqS b hk;unfold Fb;rw[aO (show¬Dn b 8=1 by omega),aO (show¬Dn b 8=0 by omega)];simp
theorem BaZ{b}(hz:b.size=42)(h:Dn b 8=0):Fb b=decide (F8 (dtx (ds0 b) 8).data.toList%10=0)∧(Fb b=true→Hr b=(dtx (ds0 b) 8).extract 0 7):=by
 refine' ZTH;refine⟨?_,fun hr=>?_⟩
 ·rw[hs]
  unfold Fb;rw[hz,aO (show¬Dn b 8=1 by omega),aJ h];simp
 ·unfold Hr
  rw[aP hr,Wc,←Wc,←Wc]
  congr 1
  refine AjK fun k hk=>?_
  have:=S9 h k hk;unfold Y3 ds0;rw[aL this,aL this]
theorem Bc9{b u}(hz:b.size=42)(h:Dn b 8=1)(hu:u<8)(hg:Gk b u=10)(X)(hX:(dtx (ds0 b) 8).extract 0 u++dgB (Kv (dtx (ds0 b) 8).data.toList)++(dtx (ds0 b) 8).extract (u+1) 8=X):
 Fb b=true∧Hr b=X.extract 0 7∧Ea X.data.toList=true∧X.size=8∧F8 X.data.toList%10=0:=by
 refine' ZTH;have ag:Fb b=true:=by unfold Fb;rw[hz,aJ h];rfl
 have hc:=Rn (dtx (ds0 b) 8).data.toList;rw[AzY _ hu hc]at hX;have vy:∀k,k<8→k≠u→Gk b k≠10:=fun k hk bj=>by
  obtain⟨v,hv,h1,h2⟩:=AbQ h;have:u=v:=by
   by_cases e:u=v
   ·exact e
   ·exact absurd hg (h2 u hu e)
  subst this;exact h2 k hk bj
 have e:X=dtx (Y3 b) 8:=by
  rw[←hX];refine AjK fun k hk=>?_
  unfold Y3;by_cases KV:k=u
  ·subst KV
   rw[aP rfl,aP hg];unfold Kv;rw[hs]
  ·rw[aL KV,aL (vy k hk KV)]
   unfold ds0;rw[aL (vy k hk KV)]
 have ht:∀k,k<8→Y3 b k<10:=fun k hk=>by
  unfold Y3
  split
  ·omega
  ·rename_i yz
   refine' ZFz;unfold Gk at yz⊢;omega
 refine⟨ag,?_,?_,?_,?_⟩
 ·unfold Hr
  rw[aP ag,e,Wc]
 ·rw[e];exact AoB ht
 ·rw[e,AfH]
 ·rw[e,AeJ 8 (aD _) ht,AsB b 8 (aD _),h]
  omega
theorem AeZ(s w)(hd:Ea s.data.toList=true)(hz:s.size≤20):
 Calls aB 251 #[.string s] w fun e w'=>e=.returned (.int .i64 (F8 s.data.toList:Int))∧w=w':=by
 have HD:=aA hd;clear hd;go_enter Tryz.func251,Tryz.ntmps251
 refine' ZNm
 ·refine' ZBp;by_cases ab:k<s.size
  ·refine' ZNn;have sv:n≤1000:=ZA
   clear jk hn;refine' ZHb;refine' ZHj;have w4:aI.wrap ((n:Int)+(b.toNat:Int))=(n:Int)+(b.toNat:Int):=bI _ ZA;have w5:aI.wrap ((n:Int)+(b.toNat:Int) - 48)=(n:Int)+(b.toNat:Int) - 48:=bI _ ZA;exact ZEu
  exact ZEv
theorem Nj(s w)(hd:Ea s.data.toList=true)(hz:s.size≤20):
 Calls aB 177 #[.string s] w fun e w'=>e=.returned (.bool true)∧w=w':=by have h:=Ip s w ZN;rw[hd,aJ hz]at h;exact h
theorem Tp(s w)(hd:Ea s.data.toList=true)(hz:s.size≤20):
 Calls aB 166 #[.string s] w fun e w'=>e=.returned (.int .i64 (Kv s.data.toList:Int))∧w=w':=by
 have HA:=aA (fun W=>Nj s W hd hz);have HB:=aA (fun W=>AeZ s W hd hz);refine' ZNo;go_enter Tryz.func166,Tryz.ntmps166
 refine' ZC;refine' ZDd;go_wp2_with (go_at_call 251;refine(HB.out _).mono ?_;refine' ZP)
 go_ret;refine⟨Bo ?_,rfl⟩;have:=HE.out;omega
theorem Tv(s w)(hd:Ea s.data.toList=true)(hz:s.size=8):
 Calls aB 184 #[.string s] w fun e w'=>e=.returned (.bool (decide (F8 s.data.toList%10=0)))∧w=w':=by
 have HA:=aA (fun W=>Nj s W hd ZA);have HB:=aA (fun W=>AeZ s W hd ZA);obtain⟨e1,e2⟩:=G7 (x:=s) ZA;have hn:=Ow s.size s.data.toList hd ZE;generalize F8 s.data.toList=n at *;have qc:n≤180:=ZA
 clear hd hn hz;go_enter Tryz.func184,Tryz.ntmps184
 go_wp2_with (first|(go_at_call 177;refine' ZDd)|(go_at_call 251;refine(HB.out _).mono ?_;refine' ZP))
 go_ret;refine⟨Al ?_,rfl⟩;refine' ZAU;exact ZH
theorem AdA(d:Nat)(w)(hd:d<10):
 Calls aB 165 #[.int .i64 (d:Int)] w fun e w'=>e=.returned (.string (G6 d))∧Below w.heap.size w w':=by
 have hc:d=0∨d=1∨d=2∨d=3∨d=4∨d=5∨d=6∨d=7∨d=8∨d=9:=ZA
 rcases hc with rfl|rfl|rfl|rfl|rfl|rfl|rfl|rfl|rfl|rfl
 all_goals
  go_enter Tryz.func165,Tryz.ntmps165
  refine' ZI;exact⟨rfl,(aF _ _).alloc (aD _) _⟩
theorem Ah9(g w):
 Calls aB 183 #[.string g] w fun e w'=>e=.returned (.int .i64 (if Up g=10 then -1 else(Up g:Int)))∧Below w.heap.size w w':=by
 have IQ:Hid ((∀j,j<10→G6 j≠g)→Up g=10):=AkE;have lp:Hid (∀k,k<10→G6 k=g→Up g=k):=fun k=>AmD
 generalize Up g=r at *;obtain⟨q,HQ⟩:∃q:Int,Hid ((if r=10 then -1 else(r:Int))=q):=⟨_,rfl⟩;rw[HQ.out];go_enter Tryz.func183,Tryz.ntmps183
 refine' ZC;go_loopw[3] (fun i wr=>∃k:Nat,k≤10∧i=.int .i64 k∧Hid (∀j,j<k→G6 j≠g)∧Below w.heap.size w wr) (fun i _=>10 - (intOf i).toNat)
 case atStart=>exact⟨0,aM _,rfl,fun j hj=>absurd hj (aX j),aF _ _⟩
 case round=>
  obtain⟨k,hk,rfl,HN,lr⟩:=hrel;refine' zj;by_cases ab:k<10
  ·have bc:(k:Int)≤9:=ZA
   have HB:=AdA k w3 ab;cases hq:sEq (G6 k) g
   ·have HS:Hid (∀j,j<k+1→G6 j≠g):=fun j hj=>by
     by_cases e:j=k
     ·subst e;exact F6.1 hq
     ·exact HN.out j ZA
    have qL:((G6 k).toList==g.toList)=false:=hq;refine' ZSU;refine' ZC;go_roundw
    case rel=>exact⟨k+1,ZA,ZJ,HS,l4⟩
    case measure=>exact ZK
   ·have HE:Hid (r=k):=lp.out k ab (Ec.1 hq)
    have qL:((G6 k).toList==g.toList)=true:=hq;refine' ZSU;refine' ZI;exact⟨Bo (by rw[←HQ.out,aL (by have:=HE.out;omega),HE.out]),l4⟩
  ·have IR:k=10:=ZA
   have HE:Hid (r=10):=IQ.out (by rw[←IR];exact HN.out);have bc:¬(k:Int)≤9:=ZA
   clear IR
   refine' ZI;exact⟨Bo (by rw[←HQ.out,aP HE.out]),lr⟩
theorem Ae9(s w)(hc:Ap s=true):
 Calls aB 66 #[.string s] w fun e w'=>e=.returned (.tuple #[.string (Sj s.data.toList),.bool true])∧Below w.heap.size w w':=by
 obtain⟨h7,_⟩:=Cp hc;have ig:Ea s.data.toList=true:=ZHe
 have iz:Hid (∀W:World,Calls aB 94 #[.string s] W fun e w'=>e=.returned (.bool true)∧W=w'):=fun W=>by have:=Cm s W ZN;exact ZBI
 have yi:=aA (fun W=>Tp s W ig ZA);have HB:Hid (∀(d:Nat) (_:d<10) (W:World),Below w.heap.size w W→Calls aB 165 #[.int .i64 (d:Int)] W fun e w'=>e=.returned (.string (G6 d))∧Below w.heap.size w w'):=fun d hd W hW=>
  (AdA d W hd).mono fun e W' h=>⟨h.1,hW.trans (h.2.mono hW.size)⟩
 refine' ZNq;refine' YF;clear hc ig hq;go_enter Tryz.func66,Tryz.ntmps66
 go_wp2_with (go_at_call 94;refine' zz)
 go_loopw[4,5] (fun t i wr=>∃k:Nat,k≤s.size∧i=.int .i64 k∧t=.string (Ni (s.data.toList.take k))∧Below w.heap.size w wr) (fun _ i _=>s.size - (intOf i).toNat)
 case atStart=>exact ZDq
 case round=>
  refine' ZDr;refine' zj;clear l0;by_cases ab:k<s.size
  ·refine' ZNr;have ha:¬9223372036854775807<u.size+(G6 d).size:=ZA
   have BC:=aA (HB.out d tf);generalize G6 d=X at *;clear yj kO;refine' ZHj;have w1:aI.wrap ((b.toNat:Int) - 48)=(d:Int):=ZCU
   clear bt dj hd
   go_wp2_with (go_at_call 165;refine(BC.out _ lr).mono ?_;rintro e w4 ⟨rfl,l4⟩)
   go_roundw
   case rel=>exact⟨k+1,ZA,ZJ,by rw[HS.out],l4⟩
   case measure=>exact ZK
  ·refine' ZNs;have ha:¬9223372036854775807<u.size+(G6 q).size:=ZA
   have oI:¬9223372036854775807<u.size+(G6 q).size+1:=ZA
   have BC:=aA (HB.out q sH);have wQ:Hid (Sj s.data.toList=u++G6 q++⟨#[124]⟩):=HE.out;generalize G6 q=X at *;clear yj kO HE
   go_wp2_with (first|(go_at_call 166;refine(yi.out _).mono ?_;refine' ZP)|(go_at_call 165;refine(BC.out _ lr).mono ?_;rintro e w4 ⟨rfl,l4⟩))
   go_ret2;exact⟨by rw[wQ.out]<;>rfl,l4⟩
theorem AgP(s w)(hz:s.size≤maxLen)(hc:Ap s=false):
 Calls aB 66 #[.string s] w fun e w'=>e=.returned (.tuple #[.string ⟨#[]⟩,.bool false])∧Below w.heap.size w w':=by
 have iz:Hid (∀W:World,Calls aB 94 #[.string s] W fun e w'=>e=.returned (.bool false)∧W=w'):=fun W=>by have:=Cm s W hz;exact ZBI
 clear hc;go_enter Tryz.func66,Tryz.ntmps66
 go_wp2_with (go_at_call 94;refine' zz)
 go_ret2;exact z6
theorem ApD(s w)(hz:s.size≤maxLen):
 Calls aB 66 #[.string s] w fun e w'=>e=.returned (.tuple #[.string (Kz s),.bool (Ap s)])∧Below w.heap.size w w':=by
 unfold Kz;cases h:Ap s
 ·exact AgP s w hz h
 ·exact Ae9 s w h
theorem Tz(b w)(hz:b.size≠42):
 Calls aB 101 #[.string b] w fun e w'=>e=.returned (.tuple #[.string ⟨#[]⟩,.bool false])∧Below w.heap.size w w':=by
 have h1:¬(b.size:Int)=42:=ZA
 go_enter Tryz.func101,Tryz.ntmps101
 refine' ZQ;exact z6
theorem Wx(b w)(hz:b.size=42):
 Calls aB 101 #[.string b] w fun e w'=>e=.returned (.tuple #[.string (Hr b),.bool (Fb b)])∧Below w.heap.size w w':=by
 have HG:Hid (∀(k:Nat) (W:World),Below w.heap.size w W→Calls aB 183 #[.string (b.extract (1+5*k) (6+5*k))] W fun e w'=>e=.returned (.int .i64 (if Gk b k=10 then -1 else(Gk b k:Int)))∧Below w.heap.size w w'):=fun k W hW=>
  (Ah9 _ W).mono fun e W' h=>⟨h.1,hW.trans (h.2.mono hW.size)⟩
 have CN:Hid (∀(d:Nat) (_:d<10) (W:World),Below w.heap.size w W→Calls aB 28 #[.int .i64 (d:Int)] W fun e w'=>e=.returned (.string (dgB d))∧Below w.heap.size w w'):=fun d hd W hW=>
  (AqT hd (w:=W)).mono fun e W' h=>⟨h.1,hW.trans (h.2.mono hW.size)⟩
 have TT:Hid (∀k,k≤8→2≤Dn b k→Fb b=false):=fun k=>BcE
 have bw:Hid (Fb b=false→Hr b=⟨#[]⟩):=fun h=>by unfold Hr;rw[h];rfl
 have HZ:=aA hz;refine' YF;have vk:Hid (∀k,Gk b k≤10):=fun k=>Wa _
 go_enter Tryz.func101,Tryz.ntmps101
 refine' ZC;go_loopw[4,5,6] (fun t lo i wr=>∃(k:Nat) (L:Int),k≤8∧i=.int .i64 k∧t=.string (dtx (ds0 b) k)∧lo=.int .i64 L∧Hid ((L= -1∧Dn b k=0)∨(∃u:Nat,L=u∧u<k∧Dn b k=1∧Gk b u=10))∧Below w.heap.size w wr) (fun _ _ i _=>8 - (intOf i).toNat)
 case atStart=>exact⟨0, -1,aM _,rfl,rfl,rfl,.inl ⟨rfl,rfl⟩,l0⟩
 case round=>
  obtain⟨k,L,hk,rfl,rfl,rfl,HL,lr⟩:=hrel;refine' zj;clear l0;by_cases ab:k<8
  ·have bc:(k:Int)<8:=ZA
   have KB:=aA (HG.out k);have yz:=vk.out k;have sJ:Hid (Dn b (k+1)=Dn b k+if Gk b k=10 then 1 else 0):=rfl;have TU:Hid (ds0 b k=if Gk b k=10 then 0 else Gk b k):=rfl;have KC:=aA (AnL (ds0 b) (n:=k) (AmW b k));have ct:=AfH (ds0 b) k;have wm:aI.wrap (5*(k:Int))=5*(k:Int):=bI _ ZA;have wa:aI.wrap (1+5*(k:Int))=1+5*(k:Int):=bI _ ZA;have wb:aI.wrap (6+5*(k:Int))=6+5*(k:Int):=bI _ ZA;have n1:(1+5*(k:Int)).toNat=1+5*k:=ZA
   have n2:(6+5*(k:Int)).toNat=6+5*k:=ZA
   have i1:(0:Int)≤1+5*(k:Int):=ZA
   have i2:1+5*(k:Int)≤6+5*(k:Int):=ZA
   have i3:6+5*(k:Int)≤42:=ZA
   obtain⟨P,hP⟩:∃P,dtx (ds0 b) k=P:=⟨_,rfl⟩;rw[hP]at KC ct⊢;obtain⟨G,hGE⟩:∃G,b.extract (1+5*k) (6+5*k)=G:=⟨_,rfl⟩;rw[hGE]at KB;clear hP;by_cases hg:Gk b k=10
   ·have xc:Hid (∀W:World,Below w.heap.size w W→Calls aB 183 #[.string G] W fun e w'=>e=.returned (.int .i64 (-1))∧Below w.heap.size w w'):=by have h:=KB.out;rw[aP hg]at h;exact h
    have gh:Dn b (k+1)=Dn b k+1:=by rw[sJ.out,aP hg]
    have tt:ds0 b k=0:=by rw[TU.out,aP hg]
    rw[tt]at KC;have TV:=aA (CN.out 0 ZA);have rV:(dgB 0).size=1:=rfl;have oI:¬9223372036854775807<P.size+(dgB 0).size:=ZA
    have HGX:=aA hg;generalize dgB 0=X at *;clear hg tt KB yz;rcases HL.out with⟨hL,h0⟩|⟨u,hL,hu,h1,MR⟩
    ·subst hL
     have mg:Hid ((((k:Int)= -1∧Dn b (k+1)=0)∨(∃u:Nat,(k:Int)=u∧u<k+1∧Dn b (k+1)=1∧Gk b u=10))):=.inr ⟨k,rfl,ZA,ZA,HGX.out⟩;clear h0 gh
     refine' ZSV;go_roundw
     case rel=>exact⟨k+1,k,ZA,ZJ,by rw[KC.out],rfl,mg.out,l5⟩
     case measure=>exact ZK
    ·subst hL
     have HR:Hid (Fb b=false):=TT.out (k+1) ZA ZA;have HT:=aA (bw.out HR.out);have GU:(0:Int)≤(u:Int):=ZA
     clear h1 gh MR
     go_wp2_with (go_at_call 183;refine(xc.out _ lr).mono ?_;rintro e w4 ⟨rfl,l4⟩)
     go_ret2;exact⟨by rw[HR.out,HT.out]<;>rfl,l4⟩
   ·have xc:Hid (∀W:World,Below w.heap.size w W→Calls aB 183 #[.string G] W fun e w'=>e=.returned (.int .i64 (Gk b k:Int))∧Below w.heap.size w w'):=by have h:=KB.out;rw[aL hg]at h;exact h
    have gh:Dn b (k+1)=Dn b k:=by rw[sJ.out,aL hg];rfl
    have tt:ds0 b k=Gk b k:=by rw[TU.out,aL hg]
    have KD:Gk b k<10:=ZA
    rw[tt]at KC;have mg:Hid ((L= -1∧Dn b (k+1)=0)∨(∃u:Nat,L=u∧u<k+1∧Dn b (k+1)=1∧Gk b u=10)):=by
     rcases HL.out with⟨h1,h2⟩|⟨u,h1,h2,h3,h4⟩
     ·exact .inl ⟨h1,by rw[gh];exact h2⟩
     ·exact .inr ⟨u,h1,ZA,by rw[gh];exact h3,h4⟩
    clear HL gh tt hg KB sJ TU;generalize Gk b k=d at *;have TV:=aA (CN.out d KD);have rV:(dgB d).size=1:=rfl;have oI:¬9223372036854775807<P.size+(dgB d).size:=ZA
    generalize dgB d=X at *
    refine' ZSV;go_roundw
    case rel=>exact⟨k+1,L,ZA,ZJ,by rw[KC.out],rfl,mg.out,l5⟩
    case measure=>exact ZK
  ·have TW:k=8:=ZA
   subst TW;have ig:Ea (dtx (ds0 b) 8).data.toList=true:=AoB fun k _=>AmW b k
   have ct:=AfH (ds0 b) 8;rcases HL.out with⟨hL,h0⟩|⟨u,hL,hu,h1,MR⟩
   ·subst hL
    obtain⟨r1,r2⟩:=BaZ HZ.out h0;have iz:=aA (fun W=>Tv (dtx (ds0 b) 8) W ig ct);rw[←r1]at iz;have HX:=aA r2;have h7:(7:Int)≤((dtx (ds0 b) 8).size:Int):=ZA
    generalize dtx (ds0 b) 8=P at *;clear r1 r2 ig h0 HL ct;cases hr:Fb b
    ·have HT:=aA (bw.out hr)
     exact ZSW
    ·have HT:=aA (HX.out hr)
     exact ZSW
   ·subst hL
    obtain⟨X,hX⟩:∃X,(dtx (ds0 b) 8).extract 0 u++dgB (Kv (dtx (ds0 b) 8).data.toList)++(dtx (ds0 b) 8).extract (u+1) 8=X:=⟨_,rfl⟩;obtain⟨r1,r2,r3,r4,r5⟩:=Bc9 HZ.out h1 hu MR X hX;have iz:Hid (∀W,Calls aB 184 #[.string X] W fun e w'=>e=.returned (.bool true)∧W=w'):=fun W=>by have:=Tv X W r3 r4;rw[aJ r5]at this;exact this
    have yi:=aA (fun W=>Tp (dtx (ds0 b) 8) W ig ZA);have hcn:=Rn (dtx (ds0 b) 8).data.toList;generalize Kv (dtx (ds0 b) 8).data.toList=q at *;have HDQ:=aA (CN.out q hcn);have hdq:(dgB q).size=1:=rfl;have SM:=aA hX;have HR2:=aA r2;have z1:((dtx (ds0 b) 8).extract 0 u).size=u:=zc
    generalize dtx (ds0 b) 8=P at *;generalize dgB q=D at *;have hu0:(0:Int)≤(u:Int):=ZA
    have hu1:(u:Int)≤(P.size:Int):=ZA
    have qd:(u:Int)+1≤(P.size:Int):=ZA
    have hu3:(0:Int)≤(u:Int)+1:=ZA
    have wu:aI.wrap ((u:Int)+1)=(u:Int)+1:=bI _ ZA;have nu:((u:Int)+1).toNat=u+1:=ZA
    have qC:¬9223372036854775807<(P.extract 0 u).size+D.size:=ZA
    have HZ3:Hid (P.extract (u+1) P.size=P.extract (u+1) 8):=by show _=_;rw[show P.size=8 by omega]
    have z3:(P.extract (u+1) P.size).size≤8:=zc
    have oI:¬9223372036854775807<(P.extract 0 u).size+D.size+(P.extract (u+1) P.size).size:=ZA
    have ld:=Ag lr;have hrX:Hid (P.extract 0 u++D++P.extract (u+1) P.size=X):=by show _=_;rw[HZ3.out];exact SM.out
    have h7:(7:Int)≤(X.size:Int):=ZA
    obtain⟨P1,hP1⟩:∃P1,P.extract 0 u=P1:=⟨_,rfl⟩;obtain⟨P2,hP2⟩:∃P2,P.extract (u+1) P.size=P2:=⟨_,rfl⟩;rw[hP1,hP2]at hrX oI;rw[hP1]at qC;clear hX r2 r3 r5 ig h1 MR HL z1 z3 ct hdq;have il:=aA r1;clear r1
    refine' ZC;go_region_held3 (fun W=>Below w.heap.size w W) (first|exact ld|exact l4|fail) (first|(go_at_call 166;(with_reducible refine(yi.out _).mono ?_);refine' ZAq)|(go_at_call 28;(with_reducible refine(HDQ.out _ ld).mono ?_);rintro e w4 ⟨rfl,l4⟩)|fail)
    all_goals
     rw[hrX.out]
     go_wp2_with (go_at_call 184;refine' zz)
     go_ret2;exact⟨by rw[HR2.out,il.out]<;>rfl,l4⟩
theorem AbN(b w):
 Calls aB 101 #[.string b] w fun e w'=>e=.returned (.tuple #[.string (Hr b),.bool (Fb b)])∧Below w.heap.size w w':=by
 by_cases hz:b.size=42
 ·exact Wx b w hz
 ·have ho:Fb b=false:=by unfold Fb;rw[beq_eq_false_iff_ne.2 hz];rfl
  have ht:Hr b=⟨#[]⟩:=by unfold Hr;rw[ho];rfl
  rw[ho,ht];exact Tz b w hz
theorem Ax1(p):(Hf p).extract 0 3++⟨#[45]⟩++(Hf p).extract 3 5++⟨#[45]⟩++(Hf p).extract 5 (Hf p).size=Pm p:=by obtain⟨x,y,z,u,v,r,s,e1,e2⟩:=Sl p;rw[e1,e2];rfl
theorem BbS(c):Jk (pOf c)=true:=by
 unfold pOf
 split
 ·rename_i h;exact(Xm h).2
 ·decide
theorem AcD(p w)(hp:Jk p=true):
 Calls aB 181 #[.agg #[.int .i64 p.area,.int .i64 p.walk,.int .i64 p.point]] w fun e w'=>e=.returned (.string (Pm p))∧Below w.heap.size w w':=by
 obtain⟨w0,ac⟩:∃u,u=w.alloc (aC #[.int .i64 p.area,.int .i64 p.walk,.int .i64 p.point] 147):=⟨_,rfl⟩;refine' ZBn;have EK:=aA (Tu p w0 hp);have HF:=aA (Ax1 p);have hz:=Se p;have HW:=aA ac;clear ac hp;generalize Hf p=c at *;generalize Pm p=F at *;have s1:(c.extract 0 3).size≤3:=zc
 have s2:(c.extract 3 5).size≤2:=zc
 have s3:(c.extract 5 c.size).size≤2:=zc
 have g0:(3:Int)≤(c.size:Int):=ZA
 have g1:(5:Int)≤(c.size:Int):=ZA
 obtain⟨a,ha⟩:∃a,c.extract 0 3=a:=⟨_,rfl⟩;obtain⟨b,hb⟩:∃a,c.extract 3 5=a:=⟨_,rfl⟩;obtain⟨d,hd⟩:∃a,c.extract 5 c.size=a:=⟨_,rfl⟩;rw[ha,hb,hd]at HF;rw[ha]at s1;rw[hb]at s2;rw[hd]at s3;have a1:¬9223372036854775807<a.size+1:=ZA
 have a2:¬9223372036854775807<a.size+1+b.size:=ZA
 have a3:¬9223372036854775807<a.size+1+b.size+1:=ZA
 have a4:¬9223372036854775807<a.size+1+b.size+1+d.size:=ZA
 clear hz;go_enter Tryz.func181,Tryz.ntmps181
 refine' ZC;rw[←HW.out];refine EK.out.mono ?_;refine' ZT;have K1:=aA (Aa HT.out b1);clear b1
 refine' ZC;go_quiet (fail)
 refine' ZI;exact⟨B8 HF.out,Ba K1.out _⟩
theorem AmZ(c w)(hz:c.size=7):
 Calls aB 180 #[.string c] w fun e w'=>∃o:Bool,e=.returned (.tuple #[.agg #[.int .i64 (pOf c).area,.int .i64 (pOf c).walk,.int .i64 (pOf c).point],.bool o])∧Below w.heap.size w w':=by
 unfold pOf;cases hc:Ap c
 ·have iz:Hid (∀W:World,Calls aB 94 #[.string c] W fun e w'=>e=.returned (.bool false)∧W=w'):=fun W=>by have:=Cm c W ZN;exact ZBI
  refine' ZFs;clear hc;show Calls aB _ _ _ fun e w'=>∃o:Bool,e=.returned (.tuple #[.agg #[.int .i64 0,.int .i64 0,.int .i64 0],.bool o])∧Below w.heap.size w w'
  go_enter Tryz.func180,Tryz.ntmps180
  refine' ZC;refine' zz;refine' ZC;first
   |(refine' ZJO;exact⟨false,rfl,j6.out⟩)
   |(refine Ax rfl rfl (Bp fi.out) fA rfl Tryz.sizePlc rfl ?_;exact⟨false,rfl,Ai (Ai (Ai j6.out (aD _) _) (aD _) _) (aD _) _⟩)
 ·exact(Ac4 c w hc).mono fun e w' h=>⟨true,h.1,h.2⟩
theorem Uo(t w)(hz:t.size≠9):
 Calls aB 99 #[.string t] w fun e w'=>e=.returned (.tuple #[.agg #[.int .i64 0,.int .i64 0,.int .i64 0],.bool false])∧Below w.heap.size w w':=by
 have h9:¬(t.size:Int)=9:=ZA
 refine' ZFs;clear hz;go_enter Tryz.func99,Tryz.ntmps99
 exact ZRX
theorem AaF(t w)(hz:t.size=9):
 Calls aB 99 #[.string t] w fun e w'=>∃p:Plc,e=.returned (.tuple #[.agg #[.int .i64 p.area,.int .i64 p.walk,.int .i64 p.point],.bool (Fk t)])∧(Fk t=true→Hf p=c3 t)∧Jk p=true∧Below w.heap.size w w':=by
 obtain⟨gh,iu⟩:=AxD hz;have fw:(c3 t).size=7:=by unfold c3;simp only[bG,eE];omega
 have KS:Hid (t.extract 0 3++t.extract 4 6++t.extract 7 9=c3 t):=rfl;have z1:(t.extract 0 3).size≤3:=zc
 have z2:(t.extract 4 6).size≤2:=zc
 have z3:(t.extract 7 9).size≤2:=zc
 have kV:=aA (fun W=>AmZ (c3 t) W fw);have ee:=aA (BbS (c3 t));have FO:=aA (fun W=>AcD (pOf (c3 t)) W ee.out);have eu:=aA gh;have ff:=aA iu;clear gh iu fw;obtain⟨a,ha⟩:∃a,t.extract 0 3=a:=⟨_,rfl⟩;obtain⟨b,hb⟩:∃a,t.extract 4 6=a:=⟨_,rfl⟩;obtain⟨d,hd⟩:∃a,t.extract 7 9=a:=⟨_,rfl⟩;rw[ha,hb,hd]at KS;rw[ha]at z1;rw[hb]at z2;rw[hd]at z3;have a1:¬9223372036854775807<a.size+b.size:=ZA
 have a2:¬9223372036854775807<a.size+b.size+d.size:=ZA
 obtain⟨p,FP⟩:∃p,Hid (pOf (c3 t)=p):=⟨_,rfl⟩;rw[FP.out]at kV FO ee eu ff;generalize c3 t=c at *;refine' ZHc;have hzw:w0.heap.size=w.heap.size+1:=by rw[ac];simp
 have FQ:=aA hzw;clear hzw;refine' ZCT;have f8:a++b++d=c:=KS.out;go_enter Tryz.func99,Tryz.ntmps99
 refine' ZC;rw[←HW.out];have ld:=Ag (aF w0.heap.size w0)
 go_region_law (first|(go_simp;go_at_call 180;(with_reducible refine(kV.out _).mono ?_);rintro e w1 ⟨o,rfl,b1⟩;first|(have b1:=b1;have l1:=Aa (Ae ld (aC #[.int .i64 0,.int .i64 0,.int .i64 0] 147)) b1;have kH:w1.heap[w0.heap.size]? =some (.cells #[.int .i64 0,.int .i64 0,.int .i64 0] 147 (0,0)):=E3 (bD w0.drew (aC #[.int .i64 0,.int .i64 0,.int .i64 0] 147)) b1;obtain⟨c0,c1,c2,f0,f1,f2⟩:=B7 kH)|(have l1:=Aa ld b1)))
 ·obtain⟨W2,be⟩:∃u,u=w1.alloc (aC #[.int .i64 p.area,.int .i64 p.walk,.int .i64 p.point] 147):=⟨_,rfl⟩
  have aw:=l1.size;have kB:W2.heap[w1.heap.size]? =some (.cells #[.int .i64 p.area,.int .i64 p.walk,.int .i64 p.point] 147 (0,0)):=by rw[be];exact bD w1 _
  have dj:W2.heap[w.heap.size]? =some (.cells #[.int .i64 0,.int .i64 0,.int .i64 0] 147 (0,0)):=by rw[be];have ab:=(Array.getElem?_eq_some_iff.1 fi.out).1;exact(dH _ _ _ (bU ab aw)).trans ((l1.block _ ab).trans fi.out)
  have lw:Below w.heap.size w W2:=by rw[be];exact Aa HT.out (Ae l1 _)
  have FR:=aA lw;refine' z7;clear be aw;refine' ZSX;obtain⟨c0,c1,c2,_,_,_⟩:=B7 kB;clear dj kB lw l1 b1 ld;cases hq:sEq (Pm p) t
  ·refine' ZSY;exact ZSZ
  ·refine' ZSa;exact ZSb
 ·obtain⟨W2,be⟩:∃u,u=((w1.setCell ⟨w0.heap.size,0,none⟩ (.int .i64 p.area)).setCell ⟨w0.heap.size,1,none⟩ (.int .i64 p.walk)).setCell ⟨w0.heap.size,2,none⟩ (.int .i64 p.point):=⟨_,rfl⟩
  have aw:=FQ.out;have kB:W2.heap[w0.heap.size]? =some (.cells #[.int .i64 p.area,.int .i64 p.walk,.int .i64 p.point] 147 (0,0)):=by rw[be];exact Bp kH
  have dj:W2.heap[w.heap.size]? =some (.cells #[.int .i64 0,.int .i64 0,.int .i64 0] 147 (0,0)):=by
   have ab:=(Array.getElem?_eq_some_iff.1 fi.out).1;have bj:w.heap.size≠w0.heap.size:=ZA
   rw[be,bP _ _ _ _ bj,bP _ _ _ _ bj,bP _ _ _ _ bj];exact(l1.block _ ab).trans fi.out
  have lw:Below w.heap.size w W2:=by rw[be];exact Ai (Ai (Ai (Aa HT.out l1) ZJP _) ZJP _) ZJP _
  have FR:=aA lw;refine' z7;clear be aw kH;refine' ZSX;clear dj kB lw l1 b1 ld;cases hq:sEq (Pm p) t
  ·refine' ZSY;clear f0 f1 f2;exact ZSZ
  ·refine' ZSa;clear f0 f1 f2;exact ZSb
theorem AeA(t w):
 Calls aB 99 #[.string t] w fun e w'=>∃p:Plc,e=.returned (.tuple #[.agg #[.int .i64 p.area,.int .i64 p.walk,.int .i64 p.point],.bool (Fk t)])∧(Fk t=true→Hf p=c3 t)∧Jk p=true∧Below w.heap.size w w':=by
 by_cases h:t.size=9
 ·exact AaF t w h
 ·have hp:Fk t=false:=by unfold Fk;rw[show(t.size==9)=false by exact zG];rfl
  refine(Uo t w h).mono ?_;rintro e w' ⟨rfl,hb⟩;exact⟨⟨0,0,0⟩,by rw[hp],fun h=>absurd (hp.symm.trans h) ZE,ZF,hb⟩
end Go.Proofs.YtfadhdacjpmmeaaGreatDoor
namespace Go.Proofs
set_option maxRecDepth 100000
set_option maxHeartbeats 6400000
open Go.IntKind renaming i64→aI
open Go.Obj renaming cells→aC
open Go.Proofs.Tryz renaming prog→aB
open Go.Value renaming string→aK,int→bC
open Go.Proofs.YtfadhdacjpmmeaaGreatDoor
open Go.Shelf
def Tryz.laysSF_ren:Go.Shelf.Ren:=⟨fun|6=>206|15=>278|14=>277|28=>326|29=>327|20=>318|21=>319|22=>320|23=>321|24=>322|25=>323|26=>324|27=>325|46=>352|47=>353|48=>354|49=>355|50=>356|57=>369|n=>n,fun|22=>31|24=>128|25=>209|3=>3|39=>229|0=>0|53=>254|55=>269|4=>4|46=>262|45=>261|50=>96|5=>5|9=>9|66=>283|70=>287|76=>296|77=>297|n=>n,fun|n=>n⟩
theorem Tryz.laysSF:Go.Proofs.SlLaysF0.n6 aB Tryz.laysSF_ren:={
 mixed:=ZB
 f6:=⟨Tryz.f206.name,ZF,Tryz.func206.trans (aT some ZB)⟩
 f14:=⟨Tryz.f277.name,ZF,Tryz.func277.trans (aT some ZB)⟩
 f15:=Tryz.func278.trans (aT some ZB)
 f20:=⟨Tryz.f318.name,ZF,Tryz.func318.trans (aT some ZB)⟩
 f21:=⟨Tryz.f319.name,ZF,Tryz.func319.trans (aT some ZB)⟩
 f22:=⟨Tryz.f320.name,ZF,Tryz.func320.trans (aT some ZB)⟩
 f23:=⟨Tryz.f321.name,ZF,Tryz.func321.trans (aT some ZB)⟩
 f24:=⟨Tryz.f322.name,ZF,Tryz.func322.trans (aT some ZB)⟩
 f25:=⟨Tryz.f323.name,ZF,Tryz.func323.trans (aT some ZB)⟩
 f26:=⟨Tryz.f324.name,ZF,Tryz.func324.trans (aT some ZB)⟩
 f27:=⟨Tryz.f325.name,ZF,Tryz.func325.trans (aT some ZB)⟩
 f28:=Tryz.func326.trans (aT some ZB)
 f29:=Tryz.func327.trans (aT some ZB)
 f46:=⟨Tryz.f352.name,ZF,Tryz.func352.trans (aT some ZB)⟩
 f47:=Tryz.func353.trans (aT some ZB)
 f48:=Tryz.func354.trans (aT some ZB)
 f49:=⟨Tryz.f355.name,ZF,Tryz.func355.trans (aT some ZB)⟩
 f50:=⟨Tryz.f356.name,ZF,Tryz.func356.trans (aT some ZB)⟩
 f57:=⟨Tryz.f369.name,ZF,Tryz.func369.trans (aT some ZB)⟩
 t0:=eN
 a0:=gS
 z0:=gH
 v0:=eW
 t3:=dJ
 a3:=eV
 z3:=eK
 v3:=dM
 t4:=dU
 a4:=gG
 z4:=fN
 v4:=eL
 t5:=eF
 a5:=iM
 z5:=gY
 v5:=fL
 t9:=dC
 a9:=fP
 z9:=fE
 v9:=eD
 t22:=dX
 a22:=Tryz.isAgg31
 z22:=Tryz.sizeOf31
 v22:=Tryz.zeroValue31
 t25:=Tryz.underlying209
 a25:=Tryz.isAgg209
 z25:=Tryz.sizeOf209
 v25:=Tryz.zeroValue209
 t39:=fB
 a39:=iB
 z39:=gR
 v39:=fJ
 t45:=Tryz.underlying261
 a45:=Tryz.isAgg261
 z45:=Tryz.sizeOf261
 v45:=Tryz.zeroValue261
 t46:=Tryz.underlying262
 a46:=Tryz.isAgg262
 z46:=Tryz.sizeOf262
 v46:=Tryz.zeroValue262
 t50:=Tryz.underlying96
 a50:=Tryz.isAgg96
 z50:=Tryz.sizeOf96
 v50:=Tryz.zeroValue96
 t53:=fY
 a53:=iT
 z53:=iN
 v53:=gJ
 t55:=Tryz.underlying269
 a55:=Tryz.isAgg269
 z55:=Tryz.sizeOf269
 v55:=Tryz.zeroValue269
 t66:=Tryz.underlying283
 a66:=Tryz.isAgg283
 z66:=Tryz.sizeOf283
 v66:=Tryz.zeroValue283
 t70:=Tryz.underlying287
 a70:=Tryz.isAgg287
 z70:=Tryz.sizeOf287
 v70:=Tryz.zeroValue287
 t76:=Tryz.underlying296
 a76:=Tryz.isAgg296
 z76:=Tryz.sizeOf296
 v76:=Tryz.zeroValue296
 t77:=Tryz.underlying297
 a77:=Tryz.isAgg297
 z77:=Tryz.sizeOf297
 v77:=Tryz.zeroValue297}
end Go.Proofs
namespace Go.Proofs.YtfadhdacjpmmeaaGreatDoor
set_option maxRecDepth 100000
set_option maxHeartbeats 6400000
open Go.IntKind renaming i64→aI
open Go.Obj renaming cells→aC
open Go.Proofs.Tryz renaming prog→aB
open Go.Value renaming string→aK,int→bC
open Go.RowKit Go.Shelf
theorem At5:∀{a b:List UInt8},¬Lib.compareBytes b a<0→a≤b
 |[],b,_=>List.nil_le b
 |_::_,[],h=>ZB2
 |a::p,b::q,h=>by
  unfold Lib.compareBytes at h;simp only[eI]at h
  split at h
  ·exact absurd ZA h
  ·split at h
   ·rename_i h1 h2
    rw[←List.not_lt,List.cons_lt_cons_iff];rintro(h3|⟨h3,_⟩)
    ·rw[eI]at h3;omega
    ·rw[h3]at h2;omega
   ·rename_i h1 h2
    have e:a=b:=UInt8.toNat_inj.1 ZA;subst e;rw[←List.not_lt,List.cons_lt_cons_iff];rintro(h3|⟨_,h3⟩)
    ·rw[eI]at h3;omega
    ·exact absurd h3 (List.not_lt.2 (At5 h))
theorem As7{xs d'}(hp:d'.toList.Perm xs)(h:Sort.SortedIn (ltOf fun x y:Fwd=>Lib.compareBytes x.src.data.toList y.src.data.toList) 0 xs.length d'):d'.toList.Pairwise fun x y=>leB x.src y.src:=by
 refine' ZI1;have hz:d'.size=xs.length:=by rw[←gL];exact hp.length_eq
 rw[gL]at hi hj;have hs:=h i j (aM _) pU ZA;rw[fO d' i hi,fO d' j hj]at hs;unfold ltOf at hs;exact At5 (iA hs)
theorem BbZ(x y:Fwd)(W):Calls aB 207 #[.agg #[.string x.src,.string x.dst],.agg #[.string y.src,.string y.dst]] W fun e w'=>e=.returned (.int .i64 (Lib.compareBytes x.src.data.toList y.src.data.toList))∧∃q DK,w'=Sort.grow (W.drewN q) DK:=by
 have qK:=fun W'=>Tryz.strings_Compare x.src y.src W'
 change∀W',Calls aB 200 _ _ _ at qK;generalize Lib.compareBytes x.src.data.toList y.src.data.toList=r at qK⊢;go_enter Tryz.func207,Tryz.ntmps207
 exact ZOi
theorem Ax4(fv w):Calls aB 318 #[.slice none 0 0,.int .i64 0,.int .i64 0,fv] w fun e w'=>e=.returned (.tuple #[])∧w'=w:=by
 go_enter Tryz.func318,Tryz.ntmps318;go_wp2;refine' ZAO;refine' zm;go_end0
 exact ZV
theorem AwJ(lim fv w):Calls aB 277 #[.slice none 0 0,.int .i64 0,.int .i64 0,.int .i64 lim,fv] w fun e w'=>e=.returned (.tuple #[])∧w'=w:=by
 go_enter Tryz.func277,Tryz.ntmps277;go_wp2;refine' ZAO;rw[fQ]
 go_wp2_with (go_at_call 318;refine(Ax4 _ _).mono ?_;refine' zN)
 refine' ZIw;exact ZV
theorem Av0(fv w):Calls aB 206 #[.slice none 0 0,fv] w fun e w'=>e=.returned (.tuple #[])∧w'=w:=by
 have hl:∀W,Calls aB 278 #[.int .u64 0] W fun e w'=>e=.returned (.int .i64 (Lib.bitLen 0:Nat))∧w'=W:=fun W=>by have h:=Any.bits_Len (SlLaysF0.n15.bits (P:=aB) (ρ:=Tryz.laysSF_ren) {Tryz.laysSF with}) 0 W ZA ZA;exact h
 go_enter Tryz.func206,Tryz.ntmps206
 go_wp2_with (first|(go_at_call 278;refine(hl _).mono ?_;refine' zN)|(go_at_call 277;refine(AwJ _ _ _).mono ?_;refine' zN))
 go_end0
 exact ZV
theorem BcC(T base:Nat)(v)(xs:List Fwd)(w)(hv:own T base w v xs)(hl:xs.length≤1048576):
 Calls aB 206 #[v,.func (.func 207) #[] #[]] w fun e w'=>e=.returned (.tuple #[])∧(∃ys,ys.Perm xs∧(ys.Pairwise fun x y=>leB x.src y.src)∧own T base w' v ys)∧w.grownBy w' v.ownBlock:=by
 rcases hv.form with⟨rfl,rfl⟩|⟨g,c,rfl,hg,bv,hc,hm⟩
 ·refine(Av0 (.func (.func 207) #[] #[]) w).mono ?_
  refine' zN;exact⟨rfl,⟨[],gN _,List.Pairwise.nil,hv⟩,cU _ _⟩
 ·have eg:∀args w,(callFunc 207 args).run aB w=.ok (.enter 207 args) w:=iC Tryz.func207 ZB rfl
  have hc:=AnyQ.slices_SortFunc Tryz.laysSF 2 Tryz.isAgg128 Tryz.sizeOf128 Fwd.cells (fun _=>rfl) (fun x v hv=>by simp[Fwd.cells]at hv;rcases hv with rfl|rfl<;>rfl) (fun x y:Fwd=>Lib.compareBytes x.src.data.toList y.src.data.toList) (An3 Fwd.src) 207 #[] g 0 c xs.toArray w eg (fun _ _ _ _ x y=>BbZ x y _) (Af9 hv) bv ZH;refine Calls.mono hc ?_;rintro e w' ⟨rfl,d',n,os,hp,LC,rfl⟩;have xJ:=AhI hp;obtain⟨h1,h2⟩:=ApP (q:=n) (os:=os) hv xJ;exact⟨rfl,⟨_,xJ,As7 xJ LC,h1⟩,h2⟩
open Go.RowKit
def AhK(fs ys:List Fwd):List Fwd:=(ys.filter fun x=>(Bc fs x.src).2.2).map fun x=>⟨x.src,(Bc fs x.src).1⟩
theorem AoF(fs):AhK fs fs=AmJ fs:=rfl
theorem AwZ{fs ys:List Fwd}{k}(h:k<ys.length)(hf:(Bc fs ys[k].src).2.2=true):AhK fs (ys.take (k+1))=AhK fs (ys.take k)++[⟨ys[k].src,(Bc fs ys[k].src).1⟩]:=by unfold AhK;exact ZFo
theorem AvG{fs ys:List Fwd}{k}(h:k<ys.length)(hf:(Bc fs ys[k].src).2.2=false):AhK fs (ys.take (k+1))=AhK fs (ys.take k):=by unfold AhK;exact ZFo
theorem ApF(fs ys:List Fwd)(k):(AhK fs (ys.take k)).length≤ys.length:=by unfold AhK;refine' za;exact aG (bJ _ _) zF
theorem Wy(v fs w)(hv:rd w w.heap.size v fs)(ag:Be fs=true):
 Calls aB 126 #[v] w fun e w'=>∃v' gs,e=.returned v'∧own 128 w.heap.size w' v' gs∧gs=Q7 fs∧Below w.heap.size w w':=by
 refine' zQ;refine' ZAh;refine' zw;have H1:=aA ag;have jU:=(Ch.1 ag).1;clear ag;refine' ZCm;go_enter Tryz.func126,Tryz.ntmps126
 refine' ZC;refine(Dj _ fs _ HV.out).mono ?_;rw[H1.out];refine' zd;clear b1
 refine' ZC;go_loopw[3,14] (fun a i wr=>∃k:Nat,k≤fs.length∧i=.int .i64 k∧Below w.heap.size w wr∧own 128 w.heap.size wr a (AhK fs (fs.take k))) (fun _ i _=>fs.length - (intOf i).toNat)
 case atStart=>exact⟨0,aM _,rfl,l1,own.nil_ _ _ _⟩
 case round=>
  obtain⟨k,hk,rfl,lr,hA⟩:=hrel;refine' zj;clear l0 l1;by_cases ab:k<fs.length
  ·obtain⟨b,o,rfl,hb,⟨pu,LE⟩,c1,c2⟩:=HR.out.fwdU k ab
   have jZ:=aA (AwZ (fs:=fs) ab);have iq:=aA (AvG (fs:=fs) ab);have cy:=aA (ApF fs fs k);have si:(Bc fs fs[k].src).1.size≤maxLen:=Sg H1.out pu;refine' YU;generalize AhK fs (fs.take k)=sa at *;refine' ZRd;obtain⟨ed,de⟩:∃z,Hid ((Bc fs x.src).1=z):=⟨_,rfl⟩;obtain⟨nn,rE⟩:∃z,Hid ((Bc fs x.src).2.1=z):=⟨_,rfl⟩;rw[de.out]at si jZ;refine' ZRe;have ll:=Aa lr (Aw cz).1;refine' ZDD;refine' ZC;rw[←jM.out];refine(Hj _ fs x.src _ (HV.out.on ll) pu ZA).mono ?_;rw[de.out,rE.out];cases hf:(Bc fs x.src).2.2
   ·refine' ZEc;have eu:=aA (iq.out hf);clear b4 B4 hf
    refine' ZC;go_roundw
    case rel=>exact⟨k+1,ZA,ZJ,l4,by rw[eu.out];exact iw.out⟩
    case measure=>exact ZK
   ·refine' ZEc;have eu:=aA (jZ.out hf);refine' ZDR;clear b4 B4 hf;obtain⟨y,hy⟩:∃y:Fwd,y=⟨x.src,ed⟩:=⟨_,rfl⟩;have mr:x.src=y.src:=by rw[hy]
    have sK:ed=y.dst:=by rw[hy]
    rw[←hy]at eu;rw[mr]at y0 pu;rw[sK]at si;rw[sK];clear hy mr sK
    go_wp2_with (at_builtin;refine An (α:=Fwd) rfl (.tmp 27) (.tmp 32) 31 rfl w.heap.size 128 i1 _ 32 dX ji dp dq dr rfl ZF (.slice AA sa.length cA) sa y rfl (iw.out.alloc _) ⟨w4.heap.size,0,none⟩ 1 (Fwd.cells y) rfl ⟨⟨pu,si⟩,rfl⟩ (Bz w4 _ (Fwd.cells y)) ZN ZA ZH ?_;refine' zI)
    have l5:Below w.heap.size w w5:=(Ae l4 (aC #[aK y.src,aK y.dst] 128)).grown ap ZH fun q hq=>(iw.out.blk q hq).1
    go_roundw
    case rel=>exact⟨k+1,ZA,ZJ,l5,by rw[eu.out];exact bz⟩
    case measure=>exact ZK
  ·refine' ZCL;rw[HE.out,aY,AoF]at hA;have HL:Hid ((AmJ fs).length≤1048576):=by show _≤_;have:=ApF fs fs fs.length;rw[aY,AoF]at this;omega
   obtain⟨D,hD⟩:∃D,D=AmJ fs:=⟨_,rfl⟩;rw[←hD]at hA HL;have tL:=aA hD;clear hD;have HA:=aA hA;clear hA
   refine' ZC;refine(BcC _ _ _ D _ HA.out HL.out).mono ?_;rintro e w4 ⟨rfl,⟨gs,hp,LC,o4⟩,g4⟩;have l4:Below w.heap.size w w4:=lr.grown g4 lr.size (fun q hq=>(HA.out.blk q hq).1);have HP:=aA (Au4 H1.out (hp.trans (by rw[tL.out])) LC);clear hp LC
   refine' ZI;exact⟨_,gs,rfl,o4,HP.out,l4⟩
theorem AnE(B d s vH w)(hD:Bv B w d s vH)(hB:B≤w.heap.size)(hk:Be s.day.fwds=true):
 Calls aB 52 #[.pointer (some ⟨d,0,none⟩),.string Dx] w (Bb B d {s with day:={s.day with fwds:=Q7 s.day.fwds}} vH (C5 (Q7 s.day.fwds)) w):=by
 refine' ZCe;have HDI:=aA (Wy vF s.day.fwds w hF.rd hk);obtain⟨A0,n0,c0',rfl, -, -, -, -⟩:=hF.rd;clear hD hF hk;refine' ZRj;have d8:(Dx.toList==[115,101,113,117,101,110,99,101])=false:=ZD
 have fd:(Dx.toList==[115,101,97,108])=false:=ZD
 have gq:(Dx.toList==[112,108,97,110])=false:=ZD
 have i8:(Dx.toList==[109,111,118,101,100])=false:=ZD
 have jQ:(Dx.toList==[102,111,114,119,97,114,100,115])=false:=ZD
 refine' ZRk;refine' ZBw;refine HDI.out.mono ?_;rintro e w1 ⟨v1,gs,rfl,o1,DL,b1⟩;have px:=aA (HD.out.below b1);obtain⟨_,_,_,_,_,⟨_,_,_,_,d4,_,_,_⟩,hf,_⟩:=Ca px.out;have f4:=hf 4;have HO:=aA (o1.base_ hB);have HG:=aA DL;refine' ZAe;refine' ZD0;have HF:=aA (Kt _ gs _ (D3 (u:=.slice A n c) HO.out px.out.obj ZF 4).rd);clear o1 b1 DL hf
 refine' ZC;refine HF.out.mono ?_;refine' zK;have dj:=aA b2;clear b2
 refine' ZI;rw[←HG.out];exact Bb.pre ik.out (Bb.post ⟨rfl,vH,px.out.setFwds HO.out,(Kd.of_below (aF _ _)).set 4 _,Nu.refl _ _⟩ dj.out)
end Go.Proofs.YtfadhdacjpmmeaaGreatDoor
